/- slices.ContainsFunc over zones and over strings, the function value with one captured variable. -/
import Derived.Test.YtncnmadiiaidfaaGreatDoorQG0
import Derived.Test.YtncnmadiiaidfaaGreatDoorQZoneF
import Derived.Test.YtncnmadiiaidfaaGreatDoorQG2
import Derived.Test.YtncnmadiiaidfaaGreatDoorQG7
namespace Go.Proofs.YtncnmadiiaidfaaGreatDoor
open Go.RowKit

def posP {α : Type} (p : α → Bool) : List α → Nat → Int
  | [], _ => -1
  | y :: l, k => if p y = true then (k : Int) else posP p l (k + 1)
theorem posP_drop {α : Type} (p : α → Bool) (l : List α) (k : Nat) (hk : k < l.length) : posP p (l.drop k) k = if p l[k] = true then (k : Int) else posP p (l.drop (k + 1)) (k + 1) := by
  rw [List.drop_eq_getElem_cons hk]; rfl
theorem posP_any {α : Type} (p : α → Bool) : ∀ (l : List α) (k : Nat), decide (posP p l k ≥ 0) = l.any p
  | [], k => by simp [posP]
  | y :: l, k => by
    unfold posP
    by_cases h : p y = true
    · rw [if_pos h]; simp [h]
    · rw [if_neg h, posP_any p l (k + 1)]; simp [h]
set_option maxRecDepth 100000 in
set_option maxHeartbeats 1000000 in
theorem w_IdxZ (g : Nat) (p : Zone → Bool) (cap : Value) (eg : Enters g) (lo : Nat) (A : Option Addr) (c : Nat) (l : List Zone) (w : World) (hcl : ∀ (y : Zone) W, Nx w W → Calls Tryz.prog g #[.agg #[.string y.key, .slice y.a y.nodes.length y.cap], cap] W fun e w' => e = .returned (.bool (p y)) ∧ Nx W w')
    (hR : Rd w lo A 2 encZone l) (hl : l.length ≤ 65536) :
    Calls Tryz.prog 48 #[.slice A l.length c, .func (.func g) #[] #[cap]] w fun e w' => e = .returned (.int .i64 (posP p l 0)) ∧ Nx w w' := by
  generalize hn : l.length = n at *
  have HR := hide hR
  have HN := hide hn
  have HC0 := hide hcl
  clear hR hn hcl
  unfold Enters at eg
  go_enter Tryz.func48, Tryz.ntmps48
  go_wp2
  go_loopw [5, 8] (fun _ i wr => ∃ k : Nat, k ≤ n ∧ i = .int .i64 k ∧ Nx w wr ∧ posP p l 0 = posP p (l.drop k) k) (fun _ i _ => n - (intOf i).toNat)
  case atStart => exact ⟨0, Nat.zero_le _, rfl, Nx.refl _, rfl⟩
  case round =>
    obtain ⟨k, hk, rfl, hbw, hq⟩ := hrel
    have HQ := hide hq
    clear hq
    by_cases hlt : k < n
    · have hlt' : k < l.length := by have := HN.out; omega
      obtain ⟨b, off, rfl, _, hb, hbr, hc⟩ := HR.out.open_ hbw (by omega)
      have c0 : wr.cell? ⟨b, off + k * 2, none⟩ = some (.string l[k].key) := hc k hlt' 0 _ rfl
      have c1 : wr.cell? ⟨b, off + k * 2 + 1, none⟩ = some (.slice l[k].a l[k].nodes.length l[k].cap) := hc k hlt' 1 _ rfl
      clear hc
      have HD := hide (posP_drop p l k hlt')
      have hcl := fun W (h : Nx w W) => HC0.out l[k] W h
      generalize l[k] = y at *
      cases hbig : p y
      all_goals
        have HB := hide hbig
        rw [hbig] at hcl
        have HCL := hide hcl
        clear hbig hcl
        go_wp2_with (go_at_fn g; refine (HCL.out _ hbw).mono ?_; rintro e w2 ⟨rfl, hn2⟩)
      · go_roundw
        case rel => exact ⟨k + 1, by omega, by go_num, hbw.trans hn2, by rw [HQ.out, HD.out, HB.out, if_neg (by simp)]⟩
        case measure => simp [intOf]; omega
      · go_ret
        exact ⟨ret_int (by rw [HQ.out, HD.out, HB.out, if_pos rfl]), hbw.trans hn2⟩
    · go_wp2
      go_ret
      exact ⟨ret_int (by rw [HQ.out, List.drop_of_length_le (by have := HN.out; omega)]; rfl), hbw⟩
set_option maxRecDepth 100000 in
set_option maxHeartbeats 1000000 in
theorem w_ContZ (g : Nat) (p : Zone → Bool) (cap : Value) (eg : Enters g) (lo : Nat) (A : Option Addr) (c : Nat) (l : List Zone) (w : World) (hcl : ∀ (y : Zone) W, Nx w W → Calls Tryz.prog g #[.agg #[.string y.key, .slice y.a y.nodes.length y.cap], cap] W fun e w' => e = .returned (.bool (p y)) ∧ Nx W w')
    (hR : Rd w lo A 2 encZone l) (hl : l.length ≤ 65536) :
    Calls Tryz.prog 30 #[.slice A l.length c, .func (.func g) #[] #[cap]] w fun e w' => e = .returned (.bool (l.any p)) ∧ Nx w w' := by
  have HC := hide (w_IdxZ g p cap eg lo A c l w hcl hR hl)
  have HA := hide (posP_any p l 0)
  generalize posP p l 0 = r at *
  generalize l.any p = z at *
  clear hcl eg hR hl
  generalize l.length = n at *
  have h2 : decide (r ≥ 0) = z := HA.out
  go_enter Tryz.func30, Tryz.ntmps30
  go_wp2_with (go_at_call 48; refine HC.out.mono ?_; rintro e w2 ⟨rfl, hn2⟩)
  go_ret
  exact ⟨rfl, hn2⟩
set_option maxRecDepth 100000 in
set_option maxHeartbeats 1000000 in
theorem w_IdxT (g : Nat) (p : ByteArray → Bool) (cap : Value) (eg : Enters g) (lo : Nat) (A : Option Addr) (c : Nat) (l : List ByteArray) (w : World) (hcl : ∀ (y : ByteArray) W, Nx w W → Calls Tryz.prog g #[.string y, cap] W fun e w' => e = .returned (.bool (p y)) ∧ Nx W w')
    (hR : Rd w lo A 1 encS l) (hl : l.length ≤ 65536) :
    Calls Tryz.prog 86 #[.slice A l.length c, .func (.func g) #[] #[cap]] w fun e w' => e = .returned (.int .i64 (posP p l 0)) ∧ Nx w w' := by
  generalize hn : l.length = n at *
  have HR := hide hR
  have HN := hide hn
  have HC0 := hide hcl
  clear hR hn hcl
  unfold Enters at eg
  go_enter Tryz.func86, Tryz.ntmps86
  go_wp2
  go_loopw [5, 8] (fun _ i wr => ∃ k : Nat, k ≤ n ∧ i = .int .i64 k ∧ Nx w wr ∧ posP p l 0 = posP p (l.drop k) k) (fun _ i _ => n - (intOf i).toNat)
  case atStart => exact ⟨0, Nat.zero_le _, rfl, Nx.refl _, rfl⟩
  case round =>
    obtain ⟨k, hk, rfl, hbw, hq⟩ := hrel
    have HQ := hide hq
    clear hq
    by_cases hlt : k < n
    · have hlt' : k < l.length := by have := HN.out; omega
      obtain ⟨b, off, rfl, _, hb, hbr, hc⟩ := HR.out.open_ hbw (by omega)
      have c0 : wr.cell? ⟨b, off + k, none⟩ = some (.string l[k]) := by have := hc k hlt' 0 _ rfl; simpa using this
      clear hc
      have HD := hide (posP_drop p l k hlt')
      have hcl := fun W (h : Nx w W) => HC0.out l[k] W h
      generalize l[k] = y at *
      cases hbig : p y
      all_goals
        have HB := hide hbig
        rw [hbig] at hcl
        have HCL := hide hcl
        clear hbig hcl
        go_wp2_with (go_at_fn g; refine (HCL.out _ hbw).mono ?_; rintro e w2 ⟨rfl, hn2⟩)
      · go_roundw
        case rel => exact ⟨k + 1, by omega, by go_num, hbw.trans hn2, by rw [HQ.out, HD.out, HB.out, if_neg (by simp)]⟩
        case measure => simp [intOf]; omega
      · go_ret
        exact ⟨ret_int (by rw [HQ.out, HD.out, HB.out, if_pos rfl]), hbw.trans hn2⟩
    · go_wp2
      go_ret
      exact ⟨ret_int (by rw [HQ.out, List.drop_of_length_le (by have := HN.out; omega)]; rfl), hbw⟩
set_option maxRecDepth 100000 in
set_option maxHeartbeats 1000000 in
theorem w_ContT (g : Nat) (p : ByteArray → Bool) (cap : Value) (eg : Enters g) (lo : Nat) (A : Option Addr) (c : Nat) (l : List ByteArray) (w : World) (hcl : ∀ (y : ByteArray) W, Nx w W → Calls Tryz.prog g #[.string y, cap] W fun e w' => e = .returned (.bool (p y)) ∧ Nx W w')
    (hR : Rd w lo A 1 encS l) (hl : l.length ≤ 65536) :
    Calls Tryz.prog 49 #[.slice A l.length c, .func (.func g) #[] #[cap]] w fun e w' => e = .returned (.bool (l.any p)) ∧ Nx w w' := by
  have HC := hide (w_IdxT g p cap eg lo A c l w hcl hR hl)
  have HA := hide (posP_any p l 0)
  generalize posP p l 0 = r at *
  generalize l.any p = z at *
  clear hcl eg hR hl
  generalize l.length = n at *
  have h2 : decide (r ≥ 0) = z := HA.out
  go_enter Tryz.func49, Tryz.ntmps49
  go_wp2_with (go_at_call 86; refine HC.out.mono ?_; rintro e w2 ⟨rfl, hn2⟩)
  go_ret
  exact ⟨rfl, hn2⟩
theorem w_cpz (s : ByteArray) (y : Zone) (q : Nat) (w : World) (hq : w.cell? ⟨q, 0, none⟩ = some (.string s)) (hql : q < w.heap.size) :
    Calls Tryz.prog 110 #[.agg #[.string y.key, .slice y.a y.nodes.length y.cap], .pointer (some ⟨q, 0, none⟩)] w fun e w' => e = .returned (.bool (decide (y.key = s))) ∧ Nx w w' := by
  have hq2 : ∀ o, (w.alloc o).cell? ⟨q, 0, none⟩ = some (.string s) := fun o => nx_cell ((Nx.refl w).alloc o) hql hq
  go_enter Tryz.func110, Tryz.ntmps110
  go_wp2
  go_ret
  exact ⟨congrArg (fun b => Ending.returned (.bool b)) (eqS_iff _ _), (Nx.refl _).alloc _⟩
theorem w_pfz (s : ByteArray) (y : Zone) (q : Nat) (w : World) (hq : w.cell? ⟨q, 0, none⟩ = some (.string s)) (hql : q < w.heap.size) :
    Calls Tryz.prog 31 #[.agg #[.string y.key, .slice y.a y.nodes.length y.cap], .pointer (some ⟨q, 0, none⟩)] w fun e w' => e = .returned (.bool (decide (y.key = s))) ∧ Nx w w' := by
  have hq2 : ∀ o, (w.alloc o).cell? ⟨q, 0, none⟩ = some (.string s) := fun o => nx_cell ((Nx.refl w).alloc o) hql hq
  go_enter Tryz.func31, Tryz.ntmps31
  go_wp2
  go_ret
  exact ⟨congrArg (fun b => Ending.returned (.bool b)) (eqS_iff _ _), (Nx.refl _).alloc _⟩
/-- The closures over a pass: is the zone none of the pass's? -/
theorem w_cnt1 (zones : List ByteArray) (a : Option Addr) (sc : Nat) (lo : Nat) (y : ByteArray) (q : Nat) (w : World) (hq : w.cell? ⟨q, 4, none⟩ = some (.slice a zones.length sc)) (hR : Rd w lo a 1 encS zones) (hl : zones.length ≤ 65536) :
    Calls Tryz.prog 116 #[.string y, .pointer (some ⟨q, 0, none⟩)] w fun e w' => e = .returned (.bool (!memB zones y)) ∧ Nx w w' := by
  have HC := hide (fun W (hn : Nx w W) => w_ContS lo a sc zones y W (hR.nx hn) hl)
  clear hR
  generalize memB zones y = z at *
  generalize zones.length = n at *
  go_enter Tryz.func116, Tryz.ntmps116
  go_wp2_with (go_at_call 117; refine (HC.out _ (by first | exact Nx.refl _ | exact (Nx.refl _).alloc _)).mono ?_; rintro e w2 ⟨rfl, hn2⟩)
  go_ret
  exact ⟨rfl, by first | exact hn2 | exact ((Nx.refl _).alloc _).trans hn2⟩
theorem eg_cpz : Enters 110 := enters_of Tryz.func110 (by kernel_rfl) rfl
theorem eg_pfz : Enters 31 := enters_of Tryz.func31 (by kernel_rfl) rfl
theorem eg_cnt1 : Enters 116 := enters_of Tryz.func116 (by kernel_rfl) rfl
end Go.Proofs.YtncnmadiiaidfaaGreatDoor
