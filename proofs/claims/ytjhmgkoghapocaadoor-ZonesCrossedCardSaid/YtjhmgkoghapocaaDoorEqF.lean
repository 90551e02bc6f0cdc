/- Equal strings, equal dues. -/
import Derived.Test.YtjhmgkoghapocaaDoorFairR
import Derived.Laws.StructEq
namespace Go.Proofs.YtjhmgkoghapocaaDoor
open Go.RowKit Go.Sort Go.Proofs Go.Shelf

theorem gd_Due : Tryd.prog.eqGuardType Tryd.prog.depth 36 = false := by kernel_rfl
theorem sin_Due (d : Nat) (x a : ByteArray) (y b : Int) (w : World) : (Op.equalIn (d + 2) 36 (.agg #[.string x, .int .i64 y]) (.agg #[.string a, .int .i64 b])).run Tryd.prog w = .ok (x.toList == a.toList && y == b) w := by
  have u3 := Tryd.underlying3
  have a3 := Tryd.isAgg3
  have z3 := Tryd.sizeOf3
  have u9 := Tryd.underlying9
  have a9 := Tryd.isAgg9
  have z9 := Tryd.sizeOf9
  have hS : Tryd.prog.underlying 36 = some (.struct (Tryd.prog.fieldsOf 36)) := by kernel_rfl
  have hp : Tryd.prog.stoodInHeld 36 = false := by kernel_rfl
  rw [run_equalIn_agg w (d + 1) 36 _ _ hS hp]
  simp only [Program.fieldsOf, Tryd.underlying36]
  go_simp
  by_cases h1 : x.toList = a.toList <;> by_cases h2 : y = b <;> simp [h1, h2]
theorem neq_Due (x a : ByteArray) (y b : Int) (w : World) : (binOp .neq 36 (.agg #[.string x, .int .i64 y]) (.agg #[.string a, .int .i64 b])).run Tryd.prog w = .ok (.bool (!(x.toList == a.toList && y == b))) w := by
  rw [run_neq_struct, show (10000 : Nat) = 9998 + 2 from rfl, sin_Due]; rfl
attribute [local go_sem ↓] neq_Due
attribute [local go_sem] gd_Due

set_option maxRecDepth 100000 in
set_option maxHeartbeats 1000000 in
theorem w_EqualS (lo lo' : Nat) (A B : Option Addr) (c d : Nat) (l : List ByteArray) (w : World) (hA : Rd w lo A 1 encS l) (hB : Rd w lo' B 1 encS l) (hl : l.length ≤ 65536) :
    Calls Tryd.prog 17 #[.slice A l.length c, .slice B l.length d] w fun e w' => e = .returned (.bool true) ∧ Nx w w' := by
  generalize hn : l.length = n at *
  have HA := hide hA
  have HB := hide hB
  have HN := hide hn
  clear hA hB hn
  go_enter Tryd.func17, Tryd.ntmps17
  go_wp2
  go_loopw [5, 13] (fun _ i wr => ∃ k : Nat, k ≤ n ∧ i = .int .i64 k ∧ Nx w wr) (fun _ i _ => n - (intOf i).toNat)
  case atStart => exact ⟨0, Nat.zero_le _, rfl, Nx.refl _⟩
  case round =>
    obtain ⟨k, hk, rfl, hbw⟩ := hrel
    by_cases hlt : k < n
    · have hlt' : k < l.length := by have := HN.out; omega
      obtain ⟨b, off, rfl, _, hb, hbr, hc⟩ := HA.out.open_ hbw (by omega)
      obtain ⟨b', off', rfl, _, hb', hbr', hc'⟩ := HB.out.open_ hbw (by omega)
      have c0 : wr.cell? ⟨b, off + k, none⟩ = some (.string l[k]) := by have := hc k hlt' 0 _ rfl; simpa using this
      have d0 : wr.cell? ⟨b', off' + k, none⟩ = some (.string l[k]) := by have := hc' k hlt' 0 _ rfl; simpa using this
      clear hc hc'
      generalize l[k] = x at *
      have q1 : (0 : Int) ≤ (k : Int) := by omega
      have q2 : (k : Int) < (n : Int) := by omega
      go_wp2_with fail
      go_quiet (fail)
      go_wp2
      go_roundw
      case rel => exact ⟨k + 1, by omega, by go_num, hbw.drewN _⟩
      case measure => simp [intOf]; omega
    · go_wp2
      go_ret
      exact ⟨rfl, hbw⟩
set_option maxRecDepth 100000 in
set_option maxHeartbeats 1000000 in
theorem w_EqualD (lo lo' : Nat) (A B : Option Addr) (c d : Nat) (l : List Due) (w : World) (hA : Rd w lo A 2 encDue l) (hB : Rd w lo' B 2 encDue l) (hl : l.length ≤ 65536) :
    Calls Tryd.prog 9 #[.slice A l.length c, .slice B l.length d] w fun e w' => e = .returned (.bool true) ∧ Nx w w' := by
  generalize hn : l.length = n at *
  have HA := hide hA
  have HB := hide hB
  have HN := hide hn
  clear hA hB hn
  go_enter Tryd.func9, Tryd.ntmps9
  go_wp2
  go_loopw [5, 13] (fun _ i wr => ∃ k : Nat, k ≤ n ∧ i = .int .i64 k ∧ Nx w wr) (fun _ i _ => n - (intOf i).toNat)
  case atStart => exact ⟨0, Nat.zero_le _, rfl, Nx.refl _⟩
  case round =>
    obtain ⟨k, hk, rfl, hbw⟩ := hrel
    by_cases hlt : k < n
    · have hlt' : k < l.length := by have := HN.out; omega
      obtain ⟨b, off, rfl, _, hb, hbr, hc⟩ := HA.out.open_ hbw (by omega)
      obtain ⟨b', off', rfl, _, hb', hbr', hc'⟩ := HB.out.open_ hbw (by omega)
      have c0 : wr.cell? ⟨b, off + k * 2, none⟩ = some (.string l[k].key) := hc k hlt' 0 _ rfl
      have c1 : wr.cell? ⟨b, off + k * 2 + 1, none⟩ = some (.int .i64 l[k].cents) := hc k hlt' 1 _ rfl
      have d0 : wr.cell? ⟨b', off' + k * 2, none⟩ = some (.string l[k].key) := hc' k hlt' 0 _ rfl
      have d1 : wr.cell? ⟨b', off' + k * 2 + 1, none⟩ = some (.int .i64 l[k].cents) := hc' k hlt' 1 _ rfl
      clear hc hc'
      generalize l[k].key = x at *
      generalize l[k].cents = y at *
      have q1 : (0 : Int) ≤ (k : Int) := by omega
      have q2 : (k : Int) < (n : Int) := by omega
      go_wp2_with fail
      go_quiet (fail)
      go_wp2
      go_roundw
      case rel => exact ⟨k + 1, by omega, by go_num, hbw.drewN _⟩
      case measure => simp [intOf]; omega
    · go_wp2
      go_ret
      exact ⟨rfl, hbw⟩
end Go.Proofs.YtjhmgkoghapocaaDoor
