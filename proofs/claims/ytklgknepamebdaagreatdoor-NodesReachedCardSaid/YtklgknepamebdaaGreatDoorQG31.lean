/- Both ends of a way asked for. -/
import Derived.Test.YtklgknepamebdaaGreatDoorQNewW
import Derived.Test.YtklgknepamebdaaGreatDoorQG20
import Derived.Test.YtklgknepamebdaaGreatDoorQCheckR
import Derived.Test.YtklgknepamebdaaGreatDoorQG23
import Derived.Deep.DeepCutAuto
import Derived.Test.YtklgknepamebdaaGreatDoorQG4
import Derived.Test.YtklgknepamebdaaGreatDoorQG17
import Derived.Deep.RegionWith
import Derived.Deep.RegionHeld3
import Derived.Deep.AppendLies
namespace Go.Proofs.YtklgknepamebdaaGreatDoor
open Go.RowKit
set_option maxRecDepth 100000 in
set_option maxHeartbeats 4000000 in
theorem w_Ends (g0 lo : Nat) (A B C : Option Addr) (ca cb cc : Nat) (ns : List Node) (rs : List Arc) (bs : List Ban) (f t : ByteArray) (ad : Int) (i j : Nat) (w : World) (hBox : BoxR w g0 lo A B C ca cb cc ns rs bs) (hS : SmallN ns) (hF : roadsF ns rs bs = 0) (hOK : NewOk ns rs bs) (hi : nodeI ns f = (i : Int)) (hj : nodeI ns t = (j : Int)) (ha : momB ad = true) :
    Calls Tryz.prog 83 #[.pointer (some ⟨g0, 0, none⟩), .string f, .string t, .int .i64 ad] w fun e w' => ∃ (bm : Nat) (M : MapA), e = .returned (.tuple #[.pointer (some ⟨bm, 0, none⟩), .int .i64 (i : Int), .int .i64 (j : Int), .int .i64 0]) ∧ w.heap.size ≤ bm ∧ MapR w' bm g0 lo A B C ca cb cc M ns rs bs ∧ Nx w w' := by
  have b0 := hBox.g0
  have b1 := hBox.g1
  have b2 := hBox.g2
  have HC := hide (w_CheckRoads lo lo lo A B C ca cb cc ns rs bs w hBox.hN hS hBox.nl hBox.hA hBox.al hBox.hB hBox.bl)
  have HB := hide hBox
  have HF := hide hF
  have HOK := hide hOK
  have HI := hide hi
  have HJ := hide hj
  have ti : decide ((i : Int) < 0) = false := decide_eq_false (by omega)
  have tj : decide ((j : Int) < 0) = false := decide_eq_false (by omega)
  clear hBox hF hOK hi hj
  go_enter Tryz.func83, Tryz.ntmps83
  go_wp2_with fail
  refine (HC.out).mono ?_
  rintro e w1 ⟨rfl, hn1⟩
  rw [HF.out]
  clear b0 b1 b2
  have HN1 := hide hn1
  clear hn1
  go_wp2_with fail
  have hb1 := HB.out.nx HN1.out
  have hA := w_nodeR g0 lo A ca ns f w1 hb1.g0 hb1.hN (by have := hb1.nl; omega) HOK.out.sn
  rw [HI.out] at hA
  refine hA.mono ?_
  rintro e w2 ⟨rfl, hn2⟩
  have HN2 := hide (HN1.out.trans hn2)
  clear hn2 hA hb1
  go_wp2_with fail
  have hb1 := HB.out.nx HN2.out
  have hA := w_nodeR g0 lo A ca ns t w2 hb1.g0 hb1.hN (by have := hb1.nl; omega) HOK.out.sn
  rw [HJ.out] at hA
  refine hA.mono ?_
  rintro e w3 ⟨rfl, hn3⟩
  have HN3 := hide (HN2.out.trans hn3)
  clear hn3 hA hb1
  go_wp2_with fail
  refine (w_Moment _ _).mono ?_
  rintro e w4 ⟨rfl, rfl⟩
  rw [ha]
  go_wp2_with fail
  refine (w_New g0 lo A B C ca cb cc ns rs bs w3 (HB.out.nx HN3.out) HOK.out).mono ?_
  rintro e w5 ⟨bm, M, rfl, hbm, hM, hn5⟩
  have HM := hide hM
  have HN5 := hide (HN3.out.trans hn5)
  have HBM := hide (Nat.le_trans HN3.out.sz hbm)
  clear hM hn5 hbm
  go_wp2_with fail
  exact bodyPost_ret (v := .tuple #[.pointer (some ⟨bm, 0, none⟩), .int .i64 (i : Int), .int .i64 (j : Int), .int .i64 0]) (by simp [results, Tryz.results83, go_sem]) rfl ⟨bm, M, rfl, HBM.out, HM.out, HN5.out⟩
end Go.Proofs.YtklgknepamebdaaGreatDoor
/- The queue's methods, and how an interface finds them. -/
namespace Go.Proofs.YtklgknepamebdaaGreatDoor
open Go.RowKit

theorem m_Push (a : Addr) (w : World) : (method 432 217 (.pointer (some a)) "Push").run Tryz.prog w = .ok (277, .pointer (some a)) w := by kernel_rfl
theorem m_Pop (a : Addr) (w : World) : (method 432 217 (.pointer (some a)) "Pop").run Tryz.prog w = .ok (276, .pointer (some a)) w := by kernel_rfl
theorem m_Len0 (a : Addr) (w : World) : (method 432 217 (.pointer (some a)) "Len").run Tryz.prog w = (do let v ← loadVar 213 a; pure (273, v) : Sem (FuncId × Value)).run Tryz.prog w := by kernel_rfl
theorem m_Less0 (a : Addr) (w : World) : (method 432 217 (.pointer (some a)) "Less").run Tryz.prog w = (do let v ← loadVar 213 a; pure (274, v) : Sem (FuncId × Value)).run Tryz.prog w := by kernel_rfl
theorem m_Swap0 (a : Addr) (w : World) : (method 432 217 (.pointer (some a)) "Swap").run Tryz.prog w = (do let v ← loadVar 213 a; pure (275, v) : Sem (FuncId × Value)).run Tryz.prog w := by kernel_rfl
section
variable (g : Nat) (A : Option Addr) (n c : Nat) (w : World) (h : w.cell? ⟨g, 0, none⟩ = some (.slice A n c))
include h
theorem m_Len : (method 432 217 (.pointer (some ⟨g, 0, none⟩)) "Len").run Tryz.prog w = .ok (273, .slice A n c) w := by
  rw [m_Len0]
  simp only [Sem.run_bind, Sem.run_pure]
  go_simp
theorem m_Less : (method 432 217 (.pointer (some ⟨g, 0, none⟩)) "Less").run Tryz.prog w = .ok (274, .slice A n c) w := by
  rw [m_Less0]
  simp only [Sem.run_bind, Sem.run_pure]
  go_simp
theorem m_Swap : (method 432 217 (.pointer (some ⟨g, 0, none⟩)) "Swap").run Tryz.prog w = .ok (275, .slice A n c) w := by
  rw [m_Swap0]
  simp only [Sem.run_bind, Sem.run_pure]
  go_simp
end
def encExt (x : Ext) : List Value := [.int .i64 x.at_, .int .i64 (x.arc : Int)]
theorem encExt_len (x : Ext) : (encExt x).length = 2 := rfl
theorem encExt_one (x : Ext) : ∀ v ∈ encExt x, v.oneCell' = true := by
  intro v hv; simp [encExt] at hv; rcases hv with rfl | rfl <;> rfl
theorem el_Ext : ElemOf Tryz.prog 213 219 2 16 := ElemOf.mk' (z := .agg #[.int .i64 0, .int .i64 0]) Tryz.underlying213 (by kernel_rfl) rfl
/-- A row of exits, owned. -/
def ORow (base : Nat) (w : World) (v : Value) (l : List Ext) : Prop := w.ownsRow base 219 2 v l.length (l.flatMap encExt)
theorem ext_put {base g cap n : Nat} {w : World} {l : List Ext} (hn : l.length = n) (h : w.ownsRow base 219 2 (.slice (some ⟨g, 0, none⟩) n cap) n (l.flatMap encExt)) (i : Nat) (hi : i < l.length) (y : Ext) :
    ((w.setCell ⟨g, i * 2, none⟩ (.int .i64 y.at_)).setCell ⟨g, i * 2 + 1, none⟩ (.int .i64 (y.arc : Int))).ownsRow base 219 2 (.slice (some ⟨g, 0, none⟩) n cap) n ((l.set i y).flatMap encExt) := by
  have h1 := own_set encExt_len hn h i hi 0 (by omega) (.int .i64 y.at_) ⟨y.at_, l[i].arc⟩ rfl (i * 2) (by omega)
  have h2 := own_set encExt_len (by simpa using hn) h1 i (by simpa using hi) 1 (by omega) (.int .i64 (y.arc : Int)) y (by simp [encExt]) (i * 2 + 1) rfl
  rw [List.set_set] at h2
  exact h2
set_option maxRecDepth 100000 in
theorem w_QLen (A : Option Addr) (n c : Nat) (w : World) : Calls Tryz.prog 273 #[.slice A n c] w fun e w' => e = .returned (.int .i64 (n : Int)) ∧ w = w' := by
  go_enter Tryz.func273, Tryz.ntmps273
  go_wp2
  go_ret
  exact ⟨rfl, rfl⟩
def extC (a b : Ext) : Int := if cmpI a.at_ b.at_ = 0 then cmpI (a.arc : Int) (b.arc : Int) else cmpI a.at_ b.at_
theorem extC_neg (a b : Ext) : decide (extC a b < 0) = extLt a b := by
  unfold extC extLt cmpI
  have e : (a.at_ < b.at_) ∨ (a.at_ = b.at_) ∨ (b.at_ < a.at_) := by omega
  rcases e with h | h | h
  · have : ¬ b.at_ < a.at_ := by omega
    simp [h]
  · by_cases h1 : a.arc < b.arc
    · simp [h, h1]
    · by_cases h2 : b.arc < a.arc
      · simp [h, h1, h2]
      · simp [h, h1, h2]
  · have h1 : ¬ a.at_ < b.at_ := by omega
    have h2 : a.at_ ≠ b.at_ := by omega
    simp [h, h1, h2]
set_option maxRecDepth 100000 in
set_option maxHeartbeats 2000000 in
theorem w_QLess (base g cap : Nat) (l : List Ext) (i j : Nat) (w : World) (hO : ORow base w (.slice (some ⟨g, 0, none⟩) l.length cap) l) (hi : i < l.length) (hj : j < l.length) :
    Calls Tryz.prog 274 #[.slice (some ⟨g, 0, none⟩) l.length cap, .int .i64 (i : Int), .int .i64 (j : Int)] w fun e w' => e = .returned (.bool (extLt (gx l i) (gx l j))) ∧ Nx w w' := by
  have hlt : g < w.heap.size := (hO.lt g rfl).2
  have c0 : w.cell? ⟨g, i * 2, none⟩ = some (.int .i64 l[i].at_) := by have := own_cell encExt_len rfl hO i hi 0 _ rfl; simpa using this
  have c1 : w.cell? ⟨g, i * 2 + 1, none⟩ = some (.int .i64 (l[i].arc : Int)) := own_cell encExt_len rfl hO i hi 1 _ rfl
  have c2 : w.cell? ⟨g, j * 2, none⟩ = some (.int .i64 l[j].at_) := by have := own_cell encExt_len rfl hO j hj 0 _ rfl; simpa using this
  have c3 : w.cell? ⟨g, j * 2 + 1, none⟩ = some (.int .i64 (l[j].arc : Int)) := own_cell encExt_len rfl hO j hj 1 _ rfl
  rw [gx_lt hi, gx_lt hj, ← extC_neg]
  have hi2 : (i : Int) < (l.length : Int) := by omega
  have hj2 : (j : Int) < (l.length : Int) := by omega
  have hi0 : (0 : Int) ≤ (i : Int) := by omega
  have hj0 : (0 : Int) ≤ (j : Int) := by omega
  have hE : extC l[i] l[j] = if cmpI l[i].at_ l[j].at_ = 0 then cmpI (l[i].arc : Int) (l[j].arc : Int) else cmpI l[i].at_ l[j].at_ := rfl
  generalize extC l[i] l[j] = E at *
  have HOR := hide (fun g c W (hg : W.heap[g]? = some (.cells #[.int .i64 (cmpI l[i].at_ l[j].at_), .int .i64 (cmpI (l[i].arc : Int) (l[j].arc : Int))] 3 (0, 0))) => w_OrI2 (cmpI l[i].at_ l[j].at_) (cmpI (l[i].arc : Int) (l[j].arc : Int)) g c W hg)
  rw [← hE] at HOR
  clear hO hE
  generalize l[i].at_ = z0 at *
  generalize (l[i].arc : Int) = z1 at *
  generalize l[j].at_ = z2 at *
  generalize (l[j].arc : Int) = z3 at *
  generalize l.length = n at *
  go_enter Tryz.func274, Tryz.ntmps274
  go_wp2_with fail
  go_region_held3 (fun w' => w'.cell? ⟨g, i * 2, none⟩ = some (.int .i64 z0) ∧ w'.cell? ⟨g, i * 2 + 1, none⟩ = some (.int .i64 z1) ∧ w'.cell? ⟨g, j * 2, none⟩ = some (.int .i64 z2) ∧ w'.cell? ⟨g, j * 2 + 1, none⟩ = some (.int .i64 z3))
    (go_keep)
    (first
      | (go_at_call 190; refine (w_Compare _ _ _).mono ?_; rintro e w' ⟨rfl, rfl⟩)
      | (go_at_call 136; refine (HOR.out w.heap.size _ _ (hnew_drew rfl)).mono ?_; rintro e w' ⟨rfl, rfl⟩))
  go_wp2
  go_ret
  exact ⟨rfl, by repeat (first | with_reducible exact Nx.refl _ | with_reducible refine Nx.drew ?_ | with_reducible refine Nx.alloc ?_ _)⟩
end Go.Proofs.YtklgknepamebdaaGreatDoor
/- The queue's methods that store. -/
namespace Go.Proofs.YtklgknepamebdaaGreatDoor
open Go.RowKit

theorem ORow.form {base : Nat} {w : World} {v : Value} {l : List Ext} (h : ORow base w v l) (h0 : 0 < l.length) : ∃ g cap, v = .slice (some ⟨g, 0, none⟩) l.length cap ∧ base ≤ g ∧ g < w.heap.size := by
  rcases h.2 with ⟨_, h1⟩ | ⟨g, cap, cur, e, hb, hg, _⟩
  · omega
  · exact ⟨g, cap, e, hb, (Array.getElem?_eq_some_iff.1 hg).1⟩
set_option maxRecDepth 100000 in
set_option maxHeartbeats 4000000 in
theorem w_QSwap (base g cap : Nat) (l : List Ext) (i j : Nat) (w : World) (hO : ORow base w (.slice (some ⟨g, 0, none⟩) l.length cap) l) (hi : i < l.length) (hj : j < l.length) :
    Calls Tryz.prog 275 #[.slice (some ⟨g, 0, none⟩) l.length cap, .int .i64 (i : Int), .int .i64 (j : Int)] w fun e w' => e = .returned (.tuple #[]) ∧ ORow base w' (.slice (some ⟨g, 0, none⟩) l.length cap) (swapL l i j) ∧ w.grownBy w' (some g) := by
  have hlt : g < w.heap.size := (hO.lt g rfl).2
  have c0 : w.cell? ⟨g, i * 2, none⟩ = some (.int .i64 l[i].at_) := by have := own_cell encExt_len rfl hO i hi 0 _ rfl; simpa using this
  have c1 : w.cell? ⟨g, i * 2 + 1, none⟩ = some (.int .i64 (l[i].arc : Int)) := own_cell encExt_len rfl hO i hi 1 _ rfl
  have c2 : w.cell? ⟨g, j * 2, none⟩ = some (.int .i64 l[j].at_) := by have := own_cell encExt_len rfl hO j hj 0 _ rfl; simpa using this
  have c3 : w.cell? ⟨g, j * 2 + 1, none⟩ = some (.int .i64 (l[j].arc : Int)) := own_cell encExt_len rfl hO j hj 1 _ rfl
  have f0 := World.ownsRow.frozenAt hO (i * 2)
  have f1 := World.ownsRow.frozenAt hO (i * 2 + 1)
  have f2 := World.ownsRow.frozenAt hO (j * 2)
  have f3 := World.ownsRow.frozenAt hO (j * 2 + 1)
  have hi2 : (i : Int) < (l.length : Int) := by omega
  have hj2 : (j : Int) < (l.length : Int) := by omega
  have hi0 : (0 : Int) ≤ (i : Int) := by omega
  have hj0 : (0 : Int) ≤ (j : Int) := by omega
  have HSW := hide (show swapL l i j = (l.set i l[j]).set j l[i] by unfold swapL; rw [gx_lt hi, gx_lt hj])
  have HLN := hide (swapL_len l i j)
  have HIJ := hide (fun e : i = j => (show l[i] = l[j] by subst e; rfl))
  generalize swapL l i j = Z at *
  generalize l[i] = x at *
  generalize l[j] = y at *
  have HO := hide hO
  have HI := hide hi
  have HJ := hide hj
  clear hO hi hj
  have hgr : Gr g w w := Gr.refl _ _
  rcases Nat.lt_trichotomy i j with hij | hij | hij
  · go_enter Tryz.func275, Tryz.ntmps275
    go_wp2_with fail
    go_region_with (fail)
    all_goals
      go_wp2_with fail
      go_end0
      refine ⟨rfl, ?_⟩
      unfold ORow at HO ⊢
      rw [HLN.out]
      first
        | (have h1 := ext_put rfl HO.out i HI.out y
           have h2 := ext_put (by simp) h1 j (by simpa using HJ.out) x
           exact ⟨by rw [HSW.out]; exact h2, ((((hgr.setS (p := ⟨g, i * 2, none⟩) (.inl rfl) _).setS (p := ⟨g, i * 2 + 1, none⟩) (.inl rfl) _).setS (p := ⟨g, j * 2, none⟩) (.inl rfl) _).setS (p := ⟨g, j * 2 + 1, none⟩) (.inl rfl) _).drew⟩)
        | (have h1 := ext_put rfl HO.out j HJ.out x
           have h2 := ext_put (by simp) h1 i (by simpa using HI.out) y
           have e : (l.set j x).set i y = Z := by
             rw [HSW.out]
             by_cases e : i = j
             · rw [e, List.set_set, List.set_set, HIJ.out e]
             · rw [List.set_comm _ _ e]
           exact ⟨by rw [← e]; exact h2, ((((hgr.setS (p := ⟨g, j * 2, none⟩) (.inl rfl) _).setS (p := ⟨g, j * 2 + 1, none⟩) (.inl rfl) _).setS (p := ⟨g, i * 2, none⟩) (.inl rfl) _).setS (p := ⟨g, i * 2 + 1, none⟩) (.inl rfl) _).drew⟩)
  · subst hij
    have hxy := HIJ.out rfl
    subst hxy
    clear c2 c3 f2 f3 hj2 hj0
    go_enter Tryz.func275, Tryz.ntmps275
    go_wp2_with fail
    go_region_with (fail)
    all_goals
      go_wp2_with fail
      go_end0
      refine ⟨rfl, ?_⟩
      unfold ORow at HO ⊢
      rw [HLN.out]
      have h1 := ext_put rfl HO.out i HI.out x
      have h2 := ext_put (by simp) h1 i (by simpa using HJ.out) x
      exact ⟨by rw [HSW.out]; exact h2, ((((hgr.setS (p := ⟨g, i * 2, none⟩) (.inl rfl) _).setS (p := ⟨g, i * 2 + 1, none⟩) (.inl rfl) _).setS (p := ⟨g, i * 2, none⟩) (.inl rfl) _).setS (p := ⟨g, i * 2 + 1, none⟩) (.inl rfl) _).drew⟩
  · go_enter Tryz.func275, Tryz.ntmps275
    go_wp2_with fail
    go_region_with (fail)
    all_goals
      go_wp2_with fail
      go_end0
      refine ⟨rfl, ?_⟩
      unfold ORow at HO ⊢
      rw [HLN.out]
      first
        | (have h1 := ext_put rfl HO.out i HI.out y
           have h2 := ext_put (by simp) h1 j (by simpa using HJ.out) x
           exact ⟨by rw [HSW.out]; exact h2, ((((hgr.setS (p := ⟨g, i * 2, none⟩) (.inl rfl) _).setS (p := ⟨g, i * 2 + 1, none⟩) (.inl rfl) _).setS (p := ⟨g, j * 2, none⟩) (.inl rfl) _).setS (p := ⟨g, j * 2 + 1, none⟩) (.inl rfl) _).drew⟩)
        | (have h1 := ext_put rfl HO.out j HJ.out x
           have h2 := ext_put (by simp) h1 i (by simpa using HI.out) y
           have e : (l.set j x).set i y = Z := by
             rw [HSW.out]
             by_cases e : i = j
             · rw [e, List.set_set, List.set_set, HIJ.out e]
             · rw [List.set_comm _ _ e]
           exact ⟨by rw [← e]; exact h2, ((((hgr.setS (p := ⟨g, j * 2, none⟩) (.inl rfl) _).setS (p := ⟨g, j * 2 + 1, none⟩) (.inl rfl) _).setS (p := ⟨g, i * 2, none⟩) (.inl rfl) _).setS (p := ⟨g, i * 2 + 1, none⟩) (.inl rfl) _).drew⟩)
end Go.Proofs.YtklgknepamebdaaGreatDoor
/- The queue: what is in it; Push and Pop of its own. -/
namespace Go.Proofs.YtklgknepamebdaaGreatDoor
open Go.RowKit

/-- All stays but block gq and rows of exits from base on. -/
def KeepQ (base gq : Nat) (w w' : World) : Prop :=
  w'.os = w.os ∧ w'.tape = w.tape ∧ w'.output = w.output ∧ w.heap.size ≤ w'.heap.size ∧ ∀ k o, w.heap[k]? = some o → k ≠ gq → (k < base ∨ ∀ cs z, o ≠ .cells cs 219 z) → w'.heap[k]? = some o
section
variable {base gq : Nat} {w w' w'' : World} {v : Value} {l : List Ext}
theorem lt_of_heap {w : World} {k : Nat} {o : Obj} (h : w.heap[k]? = some o) : k < w.heap.size := (Array.getElem?_eq_some_iff.1 h).1
theorem KeepQ.refl (w : World) : KeepQ base gq w w := ⟨rfl, rfl, rfl, Nat.le_refl _, fun _ _ h _ _ => h⟩
theorem KeepQ.trans (h : KeepQ base gq w w') (k : KeepQ base gq w' w'') : KeepQ base gq w w'' :=
  ⟨k.1.trans h.1, k.2.1.trans h.2.1, k.2.2.1.trans h.2.2.1, Nat.le_trans h.2.2.2.1 k.2.2.2.1, fun i o ho hi hn => k.2.2.2.2 i o (h.2.2.2.2 i o ho hi hn) hi hn⟩
theorem KeepQ.of_nx (h : Nx w w') : KeepQ base gq w w' :=
  ⟨h.os, h.tape, h.output, h.sz, fun i _ ho _ _ => (h.block i (lt_of_heap ho)).trans ho⟩
theorem KeepQ.of_grown (hO : ORow base w v l) (h : w.grownBy w' v.ownBlock) : KeepQ base gq w w' :=
  ⟨h.os, h.tape, h.output, h.size, fun i o ho _ hn => (h.block i (lt_of_heap ho) (fun e => by
    rcases hO.2 with ⟨rfl, _⟩ | ⟨g, cap, cur, rfl, hb, hg, _⟩
    · cases e
    · injection e with e
      subst e
      rw [hg] at ho
      injection ho with ho
      rcases hn with hn | hn
      · omega
      · exact hn _ _ ho.symm)).trans ho⟩
theorem KeepQ.set (h : KeepQ base gq w w') (i : Nat) (u : Value) : KeepQ base gq w (w'.setCell ⟨gq, i, none⟩ u) :=
  ⟨h.1, h.2.1, h.2.2.1, by simpa [World.setCell] using h.2.2.2.1, fun k o ho hk hn => (Below.heap_setCell w' ⟨gq, i, none⟩ u k hk).trans (h.2.2.2.2 k o ho hk hn)⟩
theorem KeepQ.drew (h : KeepQ base gq w w') : KeepQ base gq w w'.drew := h.trans (.of_nx (Nx.refl _).drew)
theorem KeepQ.sz (h : KeepQ base gq w w') : w.heap.size ≤ w'.heap.size := h.2.2.2.1
/-- The queue's variable is block gq; its exits lie in a row from base on. -/
def QM (base gq : Nat) (w : World) (l : List Ext) : Prop := ∃ v, w.heap[gq]? = some (.cells #[v] 213 (0, 0)) ∧ ORow base w v l ∧ gq < base ∧ base ≤ w.heap.size
theorem QM.nx (h : QM base gq w l) (hn : Nx w w') : QM base gq w' l := by
  obtain ⟨v, h1, h2, h3, h4⟩ := h
  exact ⟨v, (hn.block gq (lt_of_heap h1)).trans h1, own_nx h2 hn, h3, Nat.le_trans h4 hn.sz⟩
theorem QM.cell (h : QM base gq w l) (h0 : 0 < l.length) : ∃ g cap, w.cell? ⟨gq, 0, none⟩ = some (.slice (some ⟨g, 0, none⟩) l.length cap) ∧ ORow base w (.slice (some ⟨g, 0, none⟩) l.length cap) l ∧ base ≤ g ∧ gq < base := by
  obtain ⟨v, h1, h2, h3, h4⟩ := h
  obtain ⟨g, cap, rfl, hb, _⟩ := h2.form h0
  exact ⟨g, cap, (cell_of_row w gq 0 _ _ _ h1).trans rfl, h2, hb, h3⟩
end
theorem ORow.app {base : Nat} {w : World} {v : Value} {l : List Ext} {x : Ext} (h : w.ownsRow base 219 2 v (l.length + 1) (l.flatMap encExt ++ [.int .i64 x.at_, .int .i64 (x.arc : Int)])) : ORow base w v (l ++ [x]) := by
  unfold ORow
  rw [List.length_append, List.flatMap_append]
  exact h
/-- The queue's row does not lie in block ex. -/
def NotOwn (gq ex : Nat) (w : World) : Prop := ∀ v z, w.heap[gq]? = some (.cells #[v] 213 z) → v.ownBlock ≠ some ex
/-- A block that is no part of the queue stays, and stays none. -/
def FrQ (gq : Nat) (w w' : World) : Prop := ∀ ex, ex < w.heap.size → ex ≠ gq → NotOwn gq ex w → w'.heap[ex]? = w.heap[ex]? ∧ NotOwn gq ex w'
theorem FrQ.trans {gq : Nat} {w w' w'' : World} (h : FrQ gq w w') (k : FrQ gq w' w'') : FrQ gq w w'' := fun ex h1 h2 h3 => by
  obtain ⟨a, b⟩ := h ex h1 h2 h3
  have hlt : ex < w'.heap.size := by
    rw [Array.getElem?_eq_getElem h1] at a
    exact (Array.getElem?_eq_some_iff.1 a).1
  obtain ⟨c, d⟩ := k ex hlt h2 b
  exact ⟨c.trans a, d⟩
theorem FrQ.nx {gq : Nat} {w w' : World} (hq : gq < w.heap.size) (h : Nx w w') : FrQ gq w w' := fun ex h1 _ h3 => ⟨h.block ex h1, fun v z hv => h3 v z ((h.block gq hq).symm.trans hv)⟩
theorem FrQ.set {gq : Nat} {w : World} {p : Addr} {u : Value} (hp : p.block ≠ gq) (hx : ∀ ex, ex = p.block → NotOwn gq ex w → False) : FrQ gq w (w.setCell p u) := fun ex _ _ h3 =>
  ⟨Below.heap_setCell w p u ex (fun e => hx ex e h3), fun v z hv => h3 v z ((Below.heap_setCell w p u gq (Ne.symm hp)).symm.trans hv)⟩
theorem frozen_blkQ {w : World} {g j : Nat} {cs : Array Value} {t : TypeId} (h : w.heap[g]? = some (.cells cs t (0, 0))) : w.frozen? ⟨g, j, none⟩ = false := by simp [World.frozen?, h]
theorem q_assert (T : TypeId) (x y : Int) (W : World) : (Instr.typeAssert (.iface 219 (.agg #[.int .i64 x, .int .i64 y])) T 219 false).run Tryz.prog W = .ok (.agg #[.int .i64 x, .int .i64 y]) W := by kernel_rfl
set_option maxRecDepth 100000 in
set_option maxHeartbeats 2000000 in
theorem w_QPush (base gq : Nat) (l : List Ext) (x : Ext) (w : World) (h : QM base gq w l) (hl : l.length ≤ 1000000) :
    Calls Tryz.prog 277 #[.pointer (some ⟨gq, 0, none⟩), .iface 219 (.agg #[.int .i64 x.at_, .int .i64 (x.arc : Int)])] w fun e w' => e = .returned (.tuple #[]) ∧ QM base gq w' (l ++ [x]) ∧ KeepQ base gq w w' ∧ FrQ gq w w' := by
  obtain ⟨v, h1, h2, h3, h4⟩ := h
  have hgl := lt_of_heap h1
  have c0 : w.cell? ⟨gq, 0, none⟩ = some v := (cell_of_row w gq 0 _ _ _ h1).trans rfl
  have cA : ∀ o, (w.alloc o).cell? ⟨gq, 0, none⟩ = some v := fun o => nx_cell ((Nx.refl w).alloc o) hgl c0
  have H1 := hide h1
  have HO := hide h2
  have hTA := q_assert
  obtain ⟨iA, zA, e1, e2, e3, e4, e5⟩ := el_Ext.hi
  have E1 := hide e1
  have E2 := hide e2
  have E3 := hide e3
  have E4 := hide e4
  have E5 := hide e5
  clear h1 h2 e1 e2 e3 e4 e5
  go_enter Tryz.func277, Tryz.ntmps277
  go_wp2_with fail
  go_region_law
    (first
      | (refine step_append_lies _ rfl _ _ _ rfl base _ iA zA 2 16 Tryz.underlying213 E1.out E2.out E3.out E4.out E5.out (by omega) v l.length (l.flatMap encExt) rfl (World.ownsRow.alloc HO.out _) _ 1 1 [.int .i64 x.at_, .int .i64 (x.arc : Int)] rfl rfl (news_of (hnew rfl) rfl) (by intro u hu; simp at hu; rcases hu with rfl | rfl <;> rfl) (by omega) (by unfold maxLen; omega) (by omega) (by simp; omega) _ rfl ?_; intro g6 c6 w6 hown6 hg6 hat6 hlt6; (have b6 : w6.heap[gq]? = some (.cells #[v] 213 (0, 0)) := (hg6.block gq (by simp; omega) (fun e => by have := own_blk_lt HO.out gq e.symm; omega)).trans ((((Nx.refl w).alloc _).block gq hgl).trans H1.out)); (have d6 : w6.cell? ⟨gq, 0, none⟩ = some v := (cell_of_row w6 gq 0 _ _ _ b6).trans rfl); (have f6 := frozen_blkQ (j := 0) b6)))
  all_goals
    go_wp2_with fail
    go_end0
    have hb6 := own_blk_lt hown6 g6 rfl
    refine ⟨rfl, ⟨_, heap_set b6, ORow.app (World.ownsRow.kept hown6 ((Gr.refl gq w6).setS (p := ⟨gq, 0, none⟩) (.inl rfl) _) (.inr (fun e => by injection e with e; have e : g6 = gq := e; omega))), h3, by simp [World.setCell]; omega⟩, ?_⟩
    have hk : ∀ W, Nx w W → W.grownBy w6 v.ownBlock → KeepQ base gq w (w6.setCell ⟨gq, 0, none⟩ (.slice (some ⟨g6, 0, none⟩) (l.length + 1) c6)) := fun W hx hg => ((KeepQ.of_nx hx).trans (KeepQ.of_grown (own_nx HO.out hx) hg)).set _ _
    have hk2 := hk _ (by repeat (first | with_reducible exact Nx.refl _ | with_reducible refine Nx.drew ?_ | with_reducible refine Nx.alloc ?_ _)) hg6
    have hf : ∀ W, Nx w W → W.grownBy w6 v.ownBlock → (v.ownBlock = some g6 ∨ g6 = W.heap.size) → FrQ gq w (w6.setCell ⟨gq, 0, none⟩ (.slice (some ⟨g6, 0, none⟩) (l.length + 1) c6)) := fun W hx hg ha ex h1 h2 h3 => by
      have hv := h3 v _ H1.out
      refine ⟨(Below.heap_setCell _ _ _ _ h2).trans ((hg.block ex (Nat.lt_of_lt_of_le h1 hx.sz) (fun e => hv e.symm)).trans (hx.block ex h1)), fun v' z hv' => ?_⟩
      rw [heap_set b6] at hv'
      injection hv' with hv'
      injection hv' with hv' _ _
      have e : v' = .slice (some ⟨g6, 0, none⟩) (l.length + 1) c6 := by
        have := congrArg (fun x : Array Value => x[0]?) hv'
        simpa using this.symm
      rw [e]
      intro e2
      have e2 : some g6 = some ex := e2
      rcases ha with ha | ha
      · exact hv (ha.trans e2)
      · injection e2 with e2
        have := hx.sz
        omega
    have hf2 := hf _ (by repeat (first | with_reducible exact Nx.refl _ | with_reducible refine Nx.drew ?_ | with_reducible refine Nx.alloc ?_ _)) hg6 hat6
    first | exact ⟨hk2, hf2⟩ | exact ⟨hk2.drew, fun ex h1 h2 h3 => hf2 ex h1 h2 h3⟩
end Go.Proofs.YtklgknepamebdaaGreatDoor
