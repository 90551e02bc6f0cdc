/- slices.ContainsFunc of dues, where none is found. -/
import Derived.Test.YtncnmadiiaidfaaGreatDoorQG7
import Derived.Test.YtncnmadiiaidfaaGreatDoorQG2
namespace Go.Proofs.YtncnmadiiaidfaaGreatDoor
open Go.RowKit

set_option maxRecDepth 100000 in
set_option maxHeartbeats 2000000 in
theorem w_IdxFNo (g : Nat) (cap0 : Value) (eg : Enters g) (lo : Nat) (A : Option Addr) (c : Nat) (l : List Due) (w : World) (hcl : ∀ y ∈ l, ∀ W, Nx w W → Calls Tryz.prog g #[.agg #[.string y.key, .int .i64 y.cents], cap0] W fun e w' => e = .returned (.bool false) ∧ Nx W w')
    (hR : Rd w lo A 2 encDue l) (hl : l.length ≤ 65536) :
    Calls Tryz.prog 42 #[.slice A l.length c, .func (.func g) #[] #[cap0]] w fun e w' => e = .returned (.int .i64 (-1)) ∧ Nx w w' := by
  generalize hn : l.length = n at *
  have HR := hide hR
  have HN := hide hn
  have HC0 := hide hcl
  clear hR hn hcl
  unfold Enters at eg
  go_enter Tryz.func42, Tryz.ntmps42
  go_wp2
  go_loopw [5, 8] (fun _ i wr => ∃ k : Nat, k ≤ n ∧ i = .int .i64 k ∧ Nx w wr) (fun _ i _ => n - (intOf i).toNat)
  case atStart => exact ⟨0, Nat.zero_le _, rfl, Nx.refl _⟩
  case round =>
    obtain ⟨k, hk, rfl, hbw⟩ := hrel
    by_cases hlt : k < n
    · have hlt' : k < l.length := by have := HN.out; omega
      obtain ⟨b, off, rfl, _, hb, hbr, hc⟩ := HR.out.open_ hbw (by omega)
      have c0 : wr.cell? ⟨b, off + k * 2, none⟩ = some (.string l[k].key) := hc k hlt' 0 _ rfl
      have c1 : wr.cell? ⟨b, off + k * 2 + 1, none⟩ = some (.int .i64 l[k].cents) := hc k hlt' 1 _ rfl
      clear hc
      have HCL := hide (fun W (h : Nx w W) => HC0.out l[k] (List.getElem_mem hlt') W h)
      generalize l[k] = y at *
      obtain ⟨y1, y2⟩ := y
      simp only at c0 c1
      have HCL2 : Hid (∀ W, Nx w W → Calls Tryz.prog g #[.agg #[.string y1, .int .i64 y2], cap0] W fun e w' => e = .returned (.bool false) ∧ Nx W w') := hide HCL.out
      clear HCL
      have q1 : (0 : Int) ≤ (k : Int) := by omega
      have q2 : (k : Int) < (n : Int) := by omega
      go_wp2_with (go_at_fn g; refine (HCL2.out _ hbw).mono ?_; rintro e w2 ⟨rfl, hn2⟩)
      go_roundw
      case rel => exact ⟨k + 1, by omega, by go_num, hbw.trans hn2⟩
      case measure => simp [intOf]; omega
    · go_wp2
      go_ret
      exact ⟨rfl, hbw⟩
set_option maxRecDepth 100000 in
set_option maxHeartbeats 1000000 in
theorem w_ContFNo (g : Nat) (cap0 : Value) (eg : Enters g) (lo : Nat) (A : Option Addr) (c : Nat) (l : List Due) (w : World) (hcl : ∀ y ∈ l, ∀ W, Nx w W → Calls Tryz.prog g #[.agg #[.string y.key, .int .i64 y.cents], cap0] W fun e w' => e = .returned (.bool false) ∧ Nx W w')
    (hR : Rd w lo A 2 encDue l) (hl : l.length ≤ 65536) :
    Calls Tryz.prog 17 #[.slice A l.length c, .func (.func g) #[] #[cap0]] w fun e w' => e = .returned (.bool false) ∧ Nx w w' := by
  have HC := hide (w_IdxFNo g cap0 eg lo A c l w hcl hR hl)
  clear hcl eg hR hl
  generalize l.length = n at *
  go_enter Tryz.func17, Tryz.ntmps17
  go_wp2_with (go_at_call 42; refine HC.out.mono ?_; rintro e w2 ⟨rfl, hn2⟩)
  go_ret
  exact ⟨rfl, hn2⟩
/-- The predicate of NobodyPaysMore: nobody is found. -/
theorem w_nobody1 (cap : Int) (y : Due) (hy : y.key = ⟨#[97, 110, 110]⟩ → y.cents ≤ cap) (q : Nat) (w : World) (h0 : w.cell? ⟨q, 6, none⟩ = some (.int .i64 cap)) (hql : q < w.heap.size) :
    Calls Tryz.prog 18 #[.agg #[.string y.key, .int .i64 y.cents], .pointer (some ⟨q, 0, none⟩)] w fun e w' => e = .returned (.bool false) ∧ Nx w w' := by
  obtain ⟨y1, y2⟩ := y
  simp only at hy ⊢
  by_cases hk : y1 = ⟨#[97, 110, 110]⟩
  · have t1 : (y1.toList == [97, 110, 110]) = true := by rw [hk, Lib.toList_data]; rfl
    have t2 : ¬ cap < y2 := by have := hy hk; omega
    have t3 : decide (cap < y2) = false := decide_eq_false t2
    clear hy hk
    go_enter Tryz.func18, Tryz.ntmps18
    go_wp2_with fail
    go_ret
    exact ⟨rfl, (Nx.refl w).alloc _⟩
  · have t1 : (y1.toList == [97, 110, 110]) = false := by
      have h : (y1.toList == (⟨#[97, 110, 110]⟩ : ByteArray).toList) = false := by rw [eqS_iff]; exact decide_eq_false hk
      rw [Lib.toList_data ⟨#[97, 110, 110]⟩] at h
      exact h
    clear hy hk
    go_enter Tryz.func18, Tryz.ntmps18
    go_wp2_with fail
    go_ret
    exact ⟨rfl, (Nx.refl w).alloc _⟩
theorem eg_nobody : Enters 18 := enters_of Tryz.func18 (by kernel_rfl) rfl
end Go.Proofs.YtncnmadiiaidfaaGreatDoor
