/- Fractions in lowest terms, both ways. -/
import Derived.Test.YtjkpikhgknnbeaaWeeks
namespace Go.Proofs.Ytjkpikhgknnbeaa
open Go.RowKit Go.Sort Go.Shelf Go.Maps

set_option maxRecDepth 100000 in
theorem w_Gcd (a b : Nat) (w : World) (ha : a ≤ 4611686018427387904) (hb : b ≤ 4611686018427387904) :
    Calls Try.prog 100 #[.int .i64 (a : Int), .int .i64 (b : Int)] w fun e w' => e = .returned (.int .i64 (Nat.gcd a b : Nat)) ∧ Nx w w' := by
  generalize hG : Nat.gcd a b = G
  have HG := hide hG
  clear hG
  go_enter Try.func100, Try.ntmps100
  go_wp2_with fail
  go_loopw [0, 1] (fun x y wr => ∃ p q : Nat, p ≤ 4611686018427387904 ∧ q ≤ 4611686018427387904 ∧ x = .int .i64 (p : Int) ∧ y = .int .i64 (q : Int) ∧ Nat.gcd p q = G ∧ Nx w wr) (fun _ y _ => (intOf y).toNat)
  case atStart => exact ⟨a, b, ha, hb, rfl, rfl, HG.out, Nx.refl _⟩
  case round =>
    obtain ⟨p, q, hp, hq, rfl, rfl, hg, hnx⟩ := hrel
    have HP := hide hg
    clear hg
    by_cases h0 : q = 0
    · subst h0
      go_wp2
      go_ret
      exact ⟨ret_int (by rw [← HP.out, Nat.gcd_zero_right]), hnx⟩
    · have hq1 : 1 ≤ (q : Int) := by omega
      have hne : ((q : Int) != 0) = true := by simpa using h0
      have hlt : p % q < q := Nat.mod_lt _ (by omega)
      have E1 : (p : Int).tmod (q : Int) = ((p % q : Nat) : Int) := by rw [Int.ofNat_tmod]
      go_wp2
      try go_quiet (fail)
      try go_wp2
      go_roundw
      case rel => exact ⟨q, p % q, hq, by omega, rfl, rfl, by rw [Nat.gcd_comm, ← Nat.gcd_rec, Nat.gcd_comm]; exact HP.out, hnx.drewN _⟩
      case measure => simp only [intOf]; omega

set_option maxRecDepth 100000 in
theorem w_divisor (a b : Nat) (w : World) (ha : a ≤ 4611686018427387904) (hb : b ≤ 4611686018427387904) :
    Calls Try.prog 84 #[.int .i64 (a : Int), .int .i64 (b : Int)] w fun e w' => e = .returned (.int .i64 (Nat.gcd a b : Nat)) ∧ Nx w w' := by
  generalize hG : Nat.gcd a b = G
  have HG := hide hG
  clear hG
  go_enter Try.func84, Try.ntmps84
  go_wp2_with fail
  go_loopw [0, 1] (fun x y wr => ∃ p q : Nat, p ≤ 4611686018427387904 ∧ q ≤ 4611686018427387904 ∧ x = .int .i64 (p : Int) ∧ y = .int .i64 (q : Int) ∧ Nat.gcd p q = G ∧ Nx w wr) (fun _ y _ => (intOf y).toNat)
  case atStart => exact ⟨a, b, ha, hb, rfl, rfl, HG.out, Nx.refl _⟩
  case round =>
    obtain ⟨p, q, hp, hq, rfl, rfl, hg, hnx⟩ := hrel
    have HP := hide hg
    clear hg
    by_cases h0 : q = 0
    · subst h0
      go_wp2
      go_ret
      exact ⟨ret_int (by rw [← HP.out, Nat.gcd_zero_right]), hnx⟩
    · have hq1 : 1 ≤ (q : Int) := by omega
      have hne : ((q : Int) != 0) = true := by simpa using h0
      have hlt : p % q < q := Nat.mod_lt _ (by omega)
      have E1 : (p : Int).tmod (q : Int) = ((p % q : Nat) : Int) := by rw [Int.ofNat_tmod]
      go_wp2
      try go_quiet (fail)
      try go_wp2
      go_roundw
      case rel => exact ⟨q, p % q, hq, by omega, rfl, rfl, by rw [Nat.gcd_comm, ← Nat.gcd_rec, Nat.gcd_comm]; exact HP.out, hnx.drewN _⟩
      case measure => simp only [intOf]; omega

set_option maxRecDepth 100000 in
theorem w_Fraction (a b : Nat) (w : World) (ha : a ≤ 4611686018427387904) (hb : 1 ≤ b ∧ b ≤ 4611686018427387904) :
    Calls Try.prog 83 #[.int .i64 (a : Int), .int .i64 (b : Int)] w fun e w' => e = .returned (.agg #[.int .i64 (a / Nat.gcd a b : Nat), .int .i64 (b / Nat.gcd a b : Nat)]) ∧ Nx w w' := by
  have HC := hide (fun w => w_Gcd a b w ha hb.2)
  have hd : 1 ≤ Nat.gcd a b := Nat.gcd_pos_of_pos_right _ hb.1
  have hd2 : Nat.gcd a b ≤ b := Nat.gcd_le_right _ hb.1
  have q1 := Nat.div_le_self a (Nat.gcd a b)
  have q2 := Nat.div_le_self b (Nat.gcd a b)
  generalize Nat.gcd a b = d at *
  have hm : max (a : Int) (-(a : Int)) = a := by omega
  have D1 : (a : Int).tdiv (d : Int) = ((a / d : Nat) : Int) := by rw [Int.ofNat_tdiv]
  have D2 : (b : Int).tdiv (d : Int) = ((b / d : Nat) : Int) := by rw [Int.ofNat_tdiv]
  have hd1 : 1 ≤ (d : Int) := by omega
  have hdn : ¬ d = 0 := by omega
  have hdz : (d : Int) ≠ 0 := by omega
  have hdb : ((d : Int) == 0) = false := by simpa using hdz
  generalize a / d = qa at *
  generalize b / d = qb at *
  have W1 := IntWalk.i64_in (qa : Int) (by omega)
  have W2 := IntWalk.i64_in (qb : Int) (by omega)
  go_enter Try.func83, Try.ntmps83
  go_wp2_with (first | (go_at_call 100; refine (HC.out _).mono ?_; rintro e w1 ⟨rfl, hn1⟩))
  have k0 : w1.drew.cell? ⟨w.heap.size, 0, none⟩ = some (.int .i64 0) := World.grownBy.cell (hn1.gr none) (show (w.alloc (.cells #[.int .i64 0, .int .i64 0] 77)).cell? ⟨w.heap.size, 0, none⟩ = some (.int .i64 0) by go_simp) (by simp)
  have k1 : w1.drew.cell? ⟨w.heap.size, 1, none⟩ = some (.int .i64 0) := World.grownBy.cell (hn1.gr none) (show (w.alloc (.cells #[.int .i64 0, .int .i64 0] 77)).cell? ⟨w.heap.size, 1, none⟩ = some (.int .i64 0) by go_simp) (by simp)
  have hbk : w1.drew.heap[w.heap.size]? = some (.cells #[.int .i64 0, .int .i64 0] 77 (0, 0)) := (hn1.block _ (by simp)).trans (hnew rfl)
  have z0 : w1.drew.frozen? ⟨w.heap.size, 0, none⟩ = false := by simp [World.frozen?, hbk]
  have z1 : w1.drew.frozen? ⟨w.heap.size, 1, none⟩ = false := by simp [World.frozen?, hbk]
  have k0' : w1.cell? ⟨w.heap.size, 0, none⟩ = some (.int .i64 0) := k0
  have k1' : w1.cell? ⟨w.heap.size, 1, none⟩ = some (.int .i64 0) := k1
  have z0' : w1.frozen? ⟨w.heap.size, 0, none⟩ = false := z0
  have z1' : w1.frozen? ⟨w.heap.size, 1, none⟩ = false := z1
  have s0 : (w1.setCell ⟨w.heap.size, 0, none⟩ (.int .i64 (qa : Int))).cell? ⟨w.heap.size, 0, none⟩ = some (.int .i64 (qa : Int)) := World.cell?_setCell_same _ _ _ k0'
  have s1 : (w1.setCell ⟨w.heap.size, 0, none⟩ (.int .i64 (qa : Int))).cell? ⟨w.heap.size, 1, none⟩ = some (.int .i64 0) := (World.cell?_setCell_other _ _ _ _ (by simp)).trans k1'
  have s2 : ((w1.setCell ⟨w.heap.size, 0, none⟩ (.int .i64 (qa : Int))).setCell ⟨w.heap.size, 1, none⟩ (.int .i64 (qb : Int))).cell? ⟨w.heap.size, 1, none⟩ = some (.int .i64 (qb : Int)) := World.cell?_setCell_same _ _ _ s1
  clear hbk
  have hnx : Nx w w1.drew := (((Nx.refl _).alloc _).trans hn1).drew
  go_region_with (fail)
  all_goals go_wp2
  all_goals exact bodyPost_ret (v := .agg #[.int .i64 (qa : Int), .int .i64 (qb : Int)]) (by simp [s0, s2, results, Try.results83, go_sem]) rfl ⟨rfl, (((((Nx.refl _).alloc _).trans hn1).setCell (Nat.le_refl _) _).setCell (Nat.le_refl _) _).drew⟩

set_option maxRecDepth 100000 in
theorem w_Lowest (a b : Nat) (w : World) (ha : a ≤ 4611686018427387904) (hb : 1 ≤ b ∧ b ≤ 4611686018427387904) :
    Calls Try.prog 47 #[.int .i64 (a : Int), .int .i64 (b : Int)] w fun e w' => e = .returned (.agg #[.int .i64 (a / Nat.gcd a b : Nat), .int .i64 (b / Nat.gcd a b : Nat)]) ∧ Nx w w' := by
  have HC := hide (fun w => w_divisor a b w ha hb.2)
  have hd : 1 ≤ Nat.gcd a b := Nat.gcd_pos_of_pos_right _ hb.1
  have hd2 : Nat.gcd a b ≤ b := Nat.gcd_le_right _ hb.1
  have q1 := Nat.div_le_self a (Nat.gcd a b)
  have q2 := Nat.div_le_self b (Nat.gcd a b)
  generalize Nat.gcd a b = d at *
  have hm : max (a : Int) (-(a : Int)) = a := by omega
  have D1 : (a : Int).tdiv (d : Int) = ((a / d : Nat) : Int) := by rw [Int.ofNat_tdiv]
  have D2 : (b : Int).tdiv (d : Int) = ((b / d : Nat) : Int) := by rw [Int.ofNat_tdiv]
  have hd1 : 1 ≤ (d : Int) := by omega
  have hdn : ¬ d = 0 := by omega
  have hdz : (d : Int) ≠ 0 := by omega
  have hdb : ((d : Int) == 0) = false := by simpa using hdz
  generalize a / d = qa at *
  generalize b / d = qb at *
  have W1 := IntWalk.i64_in (qa : Int) (by omega)
  have W2 := IntWalk.i64_in (qb : Int) (by omega)
  go_enter Try.func47, Try.ntmps47
  go_wp2_with (first | (go_at_call 84; refine (HC.out _).mono ?_; rintro e w1 ⟨rfl, hn1⟩))
  have k0 : w1.drew.cell? ⟨w.heap.size, 0, none⟩ = some (.int .i64 0) := World.grownBy.cell (hn1.gr none) (show (w.alloc (.cells #[.int .i64 0, .int .i64 0] 77)).cell? ⟨w.heap.size, 0, none⟩ = some (.int .i64 0) by go_simp) (by simp)
  have k1 : w1.drew.cell? ⟨w.heap.size, 1, none⟩ = some (.int .i64 0) := World.grownBy.cell (hn1.gr none) (show (w.alloc (.cells #[.int .i64 0, .int .i64 0] 77)).cell? ⟨w.heap.size, 1, none⟩ = some (.int .i64 0) by go_simp) (by simp)
  have hbk : w1.drew.heap[w.heap.size]? = some (.cells #[.int .i64 0, .int .i64 0] 77 (0, 0)) := (hn1.block _ (by simp)).trans (hnew rfl)
  have z0 : w1.drew.frozen? ⟨w.heap.size, 0, none⟩ = false := by simp [World.frozen?, hbk]
  have z1 : w1.drew.frozen? ⟨w.heap.size, 1, none⟩ = false := by simp [World.frozen?, hbk]
  have k0' : w1.cell? ⟨w.heap.size, 0, none⟩ = some (.int .i64 0) := k0
  have k1' : w1.cell? ⟨w.heap.size, 1, none⟩ = some (.int .i64 0) := k1
  have z0' : w1.frozen? ⟨w.heap.size, 0, none⟩ = false := z0
  have z1' : w1.frozen? ⟨w.heap.size, 1, none⟩ = false := z1
  have s0 : (w1.setCell ⟨w.heap.size, 0, none⟩ (.int .i64 (qa : Int))).cell? ⟨w.heap.size, 0, none⟩ = some (.int .i64 (qa : Int)) := World.cell?_setCell_same _ _ _ k0'
  have s1 : (w1.setCell ⟨w.heap.size, 0, none⟩ (.int .i64 (qa : Int))).cell? ⟨w.heap.size, 1, none⟩ = some (.int .i64 0) := (World.cell?_setCell_other _ _ _ _ (by simp)).trans k1'
  have s2 : ((w1.setCell ⟨w.heap.size, 0, none⟩ (.int .i64 (qa : Int))).setCell ⟨w.heap.size, 1, none⟩ (.int .i64 (qb : Int))).cell? ⟨w.heap.size, 1, none⟩ = some (.int .i64 (qb : Int)) := World.cell?_setCell_same _ _ _ s1
  clear hbk
  have hnx : Nx w w1.drew := (((Nx.refl _).alloc _).trans hn1).drew
  go_region_with (fail)
  all_goals go_wp2
  all_goals exact bodyPost_ret (v := .agg #[.int .i64 (qa : Int), .int .i64 (qb : Int)]) (by simp [s0, s2, results, Try.results47, go_sem]) rfl ⟨rfl, (((((Nx.refl _).alloc _).trans hn1).setCell (Nat.le_refl _) _).setCell (Nat.le_refl _) _).drew⟩
end Go.Proofs.Ytjkpikhgknnbeaa
