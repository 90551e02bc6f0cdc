/- slices.Clone of events. -/
import Derived.Test.YtfkmbeppckelfaaGreatDoorQG12
import Derived.Test.YtfkmbeppckelfaaGreatDoorQG0
import Derived.Test.YtfkmbeppckelfaaGreatDoorQG4
import Derived.Test.YtfkmbeppckelfaaGreatDoorQG21
namespace Go.Proofs.YtfkmbeppckelfaaGreatDoor
open Go.RowKit Go.Proofs Go.Shelf

set_option maxRecDepth 100000 in
set_option maxHeartbeats 400000 in
theorem w_CloneEv (lo : Nat) (A : Option Addr) (c : Nat) (l : List Ev) (w : World) (hR : Rd w lo A 11 encEvt l) (hl : l.length ≤ 100000) :
    Calls Tryz.prog 10 #[.slice A l.length c] w fun e w' => ∃ v, e = .returned v ∧ w'.ownsRow w.heap.size 31 11 v l.length (l.flatMap encEvt) ∧ Nx w w' := by
  have q22 : ∀ (w : World) (a : Option Addr) (n c n' c' : Nat), (binOp .eql 26 (.slice a n c) (.slice none n' c')).run Tryz.prog w = .ok (.bool a.isNone) w := fun w a n c n' c' => Lib.run_eql_slice_nil w _ _ a n c n' c' Tryz.underlying26
  cases A with
  | none =>
    have hy : l = [] := by
      rcases l with _ | ⟨y, l⟩
      · rfl
      · obtain ⟨b, off, e, _⟩ := hR (by simp); cases e
    subst hy
    go_enter Tryz.func10, Tryz.ntmps10
    go_wp2
    go_ret
    exact ⟨_, rfl, World.ownsRow_nil _ _ _ _, Nx.refl _⟩
  | some a =>
    have hst := own_lit (w := w.alloc (.cells #[] 31)) (e := 31) (g := w.heap.size) (n := 0) (m := 0) (base := w.heap.size) (xs := ([] : List Ev)) encEvt_len (hnew rfl) (Nat.le_refl _) rfl rfl (Nat.le_refl _) (by unfold maxLen; omega)
    have HST := hide hst
    have HR := hide hR
    clear hst hR
    generalize hn : l.length = n at *
    have HN := hide hn
    clear hn
    go_enter Tryz.func10, Tryz.ntmps10
    go_wp2_with (at_builtin; refine wpAppL rfl _ _ _ rfl el_Evt encEvt encEvt_len encEvt_one (by omega) (by omega) w.heap.size _ [] rfl HST.out (some a) c l (by rw [HN.out]; rfl) (HR.out.nx ((Nx.refl _).alloc _)) (by have := HN.out; simp; omega) (by simp) ?_; intro v2 w2 hown2 hg2)
    go_ret
    rw [List.nil_append, HN.out] at hown2
    refine ⟨_, rfl, hown2, ?_⟩
    exact ((Nx.refl w).alloc _).grown hg2 (own_blk_lt HST.out)
end Go.Proofs.YtfkmbeppckelfaaGreatDoor
/- slices.Equal of events that are the same; events as keys of a map. -/
namespace Go.Proofs.YtfkmbeppckelfaaGreatDoor
open Go.RowKit Go.Maps
attribute [local go_sem ↓] neq_Ev eql_Ev

set_option maxRecDepth 100000 in
set_option maxHeartbeats 1000000 in
theorem w_EqualEv (lo lo' : Nat) (A B : Option Addr) (c d : Nat) (l : List Ev) (w : World) (hA : Rd w lo A 11 encEvt l) (hB : Rd w lo' B 11 encEvt l) (hl : l.length ≤ 65536) :
    Calls Tryz.prog 24 #[.slice A l.length c, .slice B l.length d] w fun e w' => e = .returned (.bool true) ∧ Nx w w' := by
  generalize hn : l.length = n at *
  have HA := hide hA
  have HB := hide hB
  have HN := hide hn
  clear hA hB hn
  go_enter Tryz.func24, Tryz.ntmps24
  go_wp2
  go_loopw [5, 13] (fun _ i wr => ∃ k : Nat, k ≤ n ∧ i = .int .i64 k ∧ Nx w wr) (fun _ i _ => n - (intOf i).toNat)
  case atStart => exact ⟨0, Nat.zero_le _, rfl, Nx.refl _⟩
  case round =>
    obtain ⟨k, hk, rfl, hbw⟩ := hrel
    by_cases hlt : k < n
    · have hlt' : k < l.length := by have := HN.out; omega
      obtain ⟨b, off, rfl, _, hb, hbr, hc⟩ := HA.out.open_ hbw (by omega)
      obtain ⟨b', off', rfl, _, hb', hbr', hc'⟩ := HB.out.open_ hbw (by omega)
      obtain ⟨c0, c1, c2, c3, c4, c5, c6, c7, c8, c9, c10⟩ := ev_cells (hc k hlt')
      obtain ⟨d0, d1, d2, d3, d4, d5, d6, d7, d8, d9, d10⟩ := ev_cells (hc' k hlt')
      clear hc hc'
      generalize l[k] = s at *
      obtain ⟨so, no, at_, ki, ri, ca, nd, up, dn, fo, nu⟩ := s
      simp only at c0 c1 c2 c3 c4 c5 c6 c7 c8 c9 c10 d0 d1 d2 d3 d4 d5 d6 d7 d8 d9 d10
      have q1 : (0 : Int) ≤ (k : Int) := by omega
      have q2 : (k : Int) < (n : Int) := by omega
      go_wp2_with fail
      go_quiet (fail)
      go_wp2
      go_roundw
      case rel => exact ⟨k + 1, by omega, by go_num, hbw.drewN _⟩
      case measure => simp [intOf]; omega
    · go_wp2
      go_ret
      exact ⟨rfl, hbw⟩
end Go.Proofs.YtfkmbeppckelfaaGreatDoor
