/- The queue's methods that store. -/
import Derived.Test.YtbjbeddjaajdaaaGreatDoorQG16
namespace Go.Proofs.YtbjbeddjaajdaaaGreatDoor
open Go.RowKit

theorem ORow.form {base : Nat} {w : World} {v : Value} {l : List Ext} (h : ORow base w v l) (h0 : 0 < l.length) : ∃ g cap, v = .slice (some ⟨g, 0, none⟩) l.length cap ∧ base ≤ g ∧ g < w.heap.size := by
  rcases h.2 with ⟨_, h1⟩ | ⟨g, cap, cur, e, hb, hg, _⟩
  · omega
  · exact ⟨g, cap, e, hb, (Array.getElem?_eq_some_iff.1 hg).1⟩
set_option maxRecDepth 100000 in
set_option maxHeartbeats 4000000 in
theorem w_QSwap (base g cap : Nat) (l : List Ext) (i j : Nat) (w : World) (hO : ORow base w (.slice (some ⟨g, 0, none⟩) l.length cap) l) (hi : i < l.length) (hj : j < l.length) :
    Calls Tryz.prog 283 #[.slice (some ⟨g, 0, none⟩) l.length cap, .int .i64 (i : Int), .int .i64 (j : Int)] w fun e w' => e = .returned (.tuple #[]) ∧ ORow base w' (.slice (some ⟨g, 0, none⟩) l.length cap) (swapL l i j) ∧ w.grownBy w' (some g) := by
  have hlt : g < w.heap.size := (hO.lt g rfl).2
  have c0 : w.cell? ⟨g, i * 2, none⟩ = some (.int .i64 l[i].at_) := by have := own_cell encExt_len rfl hO i hi 0 _ rfl; simpa using this
  have c1 : w.cell? ⟨g, i * 2 + 1, none⟩ = some (.int .i64 (l[i].arc : Int)) := own_cell encExt_len rfl hO i hi 1 _ rfl
  have c2 : w.cell? ⟨g, j * 2, none⟩ = some (.int .i64 l[j].at_) := by have := own_cell encExt_len rfl hO j hj 0 _ rfl; simpa using this
  have c3 : w.cell? ⟨g, j * 2 + 1, none⟩ = some (.int .i64 (l[j].arc : Int)) := own_cell encExt_len rfl hO j hj 1 _ rfl
  have f0 := World.ownsRow.frozenAt hO (i * 2)
  have f1 := World.ownsRow.frozenAt hO (i * 2 + 1)
  have f2 := World.ownsRow.frozenAt hO (j * 2)
  have f3 := World.ownsRow.frozenAt hO (j * 2 + 1)
  have hi2 : (i : Int) < (l.length : Int) := by omega
  have hj2 : (j : Int) < (l.length : Int) := by omega
  have hi0 : (0 : Int) ≤ (i : Int) := by omega
  have hj0 : (0 : Int) ≤ (j : Int) := by omega
  have HSW := hide (show swapL l i j = (l.set i l[j]).set j l[i] by unfold swapL; rw [gx_lt hi, gx_lt hj])
  have HLN := hide (swapL_len l i j)
  have HIJ := hide (fun e : i = j => (show l[i] = l[j] by subst e; rfl))
  generalize swapL l i j = Z at *
  generalize l[i] = x at *
  generalize l[j] = y at *
  have HO := hide hO
  have HI := hide hi
  have HJ := hide hj
  clear hO hi hj
  have hgr : Gr g w w := Gr.refl _ _
  rcases Nat.lt_trichotomy i j with hij | hij | hij
  · go_enter Tryz.func283, Tryz.ntmps283
    go_wp2_with fail
    go_region_with (fail)
    all_goals
      go_wp2_with fail
      go_end0
      refine ⟨rfl, ?_⟩
      unfold ORow at HO ⊢
      rw [HLN.out]
      first
        | (have h1 := ext_put rfl HO.out i HI.out y
           have h2 := ext_put (by simp) h1 j (by simpa using HJ.out) x
           exact ⟨by rw [HSW.out]; exact h2, ((((hgr.setS (p := ⟨g, i * 2, none⟩) (.inl rfl) _).setS (p := ⟨g, i * 2 + 1, none⟩) (.inl rfl) _).setS (p := ⟨g, j * 2, none⟩) (.inl rfl) _).setS (p := ⟨g, j * 2 + 1, none⟩) (.inl rfl) _).drew⟩)
        | (have h1 := ext_put rfl HO.out j HJ.out x
           have h2 := ext_put (by simp) h1 i (by simpa using HI.out) y
           have e : (l.set j x).set i y = Z := by
             rw [HSW.out]
             by_cases e : i = j
             · rw [e, List.set_set, List.set_set, HIJ.out e]
             · rw [List.set_comm _ _ e]
           exact ⟨by rw [← e]; exact h2, ((((hgr.setS (p := ⟨g, j * 2, none⟩) (.inl rfl) _).setS (p := ⟨g, j * 2 + 1, none⟩) (.inl rfl) _).setS (p := ⟨g, i * 2, none⟩) (.inl rfl) _).setS (p := ⟨g, i * 2 + 1, none⟩) (.inl rfl) _).drew⟩)
  · subst hij
    have hxy := HIJ.out rfl
    subst hxy
    clear c2 c3 f2 f3 hj2 hj0
    go_enter Tryz.func283, Tryz.ntmps283
    go_wp2_with fail
    go_region_with (fail)
    all_goals
      go_wp2_with fail
      go_end0
      refine ⟨rfl, ?_⟩
      unfold ORow at HO ⊢
      rw [HLN.out]
      have h1 := ext_put rfl HO.out i HI.out x
      have h2 := ext_put (by simp) h1 i (by simpa using HJ.out) x
      exact ⟨by rw [HSW.out]; exact h2, ((((hgr.setS (p := ⟨g, i * 2, none⟩) (.inl rfl) _).setS (p := ⟨g, i * 2 + 1, none⟩) (.inl rfl) _).setS (p := ⟨g, i * 2, none⟩) (.inl rfl) _).setS (p := ⟨g, i * 2 + 1, none⟩) (.inl rfl) _).drew⟩
  · go_enter Tryz.func283, Tryz.ntmps283
    go_wp2_with fail
    go_region_with (fail)
    all_goals
      go_wp2_with fail
      go_end0
      refine ⟨rfl, ?_⟩
      unfold ORow at HO ⊢
      rw [HLN.out]
      first
        | (have h1 := ext_put rfl HO.out i HI.out y
           have h2 := ext_put (by simp) h1 j (by simpa using HJ.out) x
           exact ⟨by rw [HSW.out]; exact h2, ((((hgr.setS (p := ⟨g, i * 2, none⟩) (.inl rfl) _).setS (p := ⟨g, i * 2 + 1, none⟩) (.inl rfl) _).setS (p := ⟨g, j * 2, none⟩) (.inl rfl) _).setS (p := ⟨g, j * 2 + 1, none⟩) (.inl rfl) _).drew⟩)
        | (have h1 := ext_put rfl HO.out j HJ.out x
           have h2 := ext_put (by simp) h1 i (by simpa using HI.out) y
           have e : (l.set j x).set i y = Z := by
             rw [HSW.out]
             by_cases e : i = j
             · rw [e, List.set_set, List.set_set, HIJ.out e]
             · rw [List.set_comm _ _ e]
           exact ⟨by rw [← e]; exact h2, ((((hgr.setS (p := ⟨g, j * 2, none⟩) (.inl rfl) _).setS (p := ⟨g, j * 2 + 1, none⟩) (.inl rfl) _).setS (p := ⟨g, i * 2, none⟩) (.inl rfl) _).setS (p := ⟨g, i * 2 + 1, none⟩) (.inl rfl) _).drew⟩)
end Go.Proofs.YtbjbeddjaajdaaaGreatDoor
