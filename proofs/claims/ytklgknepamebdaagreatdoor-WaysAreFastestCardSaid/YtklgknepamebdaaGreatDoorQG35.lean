/- Both ends of a way asked for. -/
import Derived.Test.YtklgknepamebdaaGreatDoorQNewW
import Derived.Test.YtklgknepamebdaaGreatDoorQG24
import Derived.Test.YtklgknepamebdaaGreatDoorQCheckR
import Derived.Test.YtklgknepamebdaaGreatDoorQG28
import Derived.Deep.DeepCutAuto
import Derived.Test.YtklgknepamebdaaGreatDoorQG4
import Derived.Test.YtklgknepamebdaaGreatDoorQG21
import Derived.Deep.RegionWith
import Derived.Deep.RegionHeld3
import Derived.Deep.AppendLies
namespace Go.Proofs.YtklgknepamebdaaGreatDoor
open Go.RowKit
set_option maxRecDepth 100000 in
set_option maxHeartbeats 4000000 in
theorem w_Ends (g0 lo : Nat) (A B C : Option Addr) (ca cb cc : Nat) (ns : List Node) (rs : List Arc) (bs : List Ban) (f t : ByteArray) (ad : Int) (i j : Nat) (w : World) (hBox : BoxR w g0 lo A B C ca cb cc ns rs bs) (hS : SmallN ns) (hF : roadsF ns rs bs = 0) (hOK : NewOk ns rs bs) (hi : nodeI ns f = (i : Int)) (hj : nodeI ns t = (j : Int)) (ha : momB ad = true) :
    Calls Tryz.prog 83 #[.pointer (some ⟨g0, 0, none⟩), .string f, .string t, .int .i64 ad] w fun e w' => ∃ (bm : Nat) (M : MapA), e = .returned (.tuple #[.pointer (some ⟨bm, 0, none⟩), .int .i64 (i : Int), .int .i64 (j : Int), .int .i64 0]) ∧ w.heap.size ≤ bm ∧ MapR w' bm g0 lo A B C ca cb cc M ns rs bs ∧ Nx w w' := by
  have b0 := hBox.g0
  have b1 := hBox.g1
  have b2 := hBox.g2
  have HC := hide (w_CheckRoads lo lo lo A B C ca cb cc ns rs bs w hBox.hN hS hBox.nl hBox.hA hBox.al hBox.hB hBox.bl)
  have HB := hide hBox
  have HF := hide hF
  have HOK := hide hOK
  have HI := hide hi
  have HJ := hide hj
  have ti : decide ((i : Int) < 0) = false := decide_eq_false (by omega)
  have tj : decide ((j : Int) < 0) = false := decide_eq_false (by omega)
  clear hBox hF hOK hi hj
  go_enter Tryz.func83, Tryz.ntmps83
  go_wp2_with fail
  refine (HC.out).mono ?_
  rintro e w1 ⟨rfl, hn1⟩
  rw [HF.out]
  clear b0 b1 b2
  have HN1 := hide hn1
  clear hn1
  go_wp2_with fail
  have hb1 := HB.out.nx HN1.out
  have hA := w_nodeR g0 lo A ca ns f w1 hb1.g0 hb1.hN (by have := hb1.nl; omega) HOK.out.sn
  rw [HI.out] at hA
  refine hA.mono ?_
  rintro e w2 ⟨rfl, hn2⟩
  have HN2 := hide (HN1.out.trans hn2)
  clear hn2 hA hb1
  go_wp2_with fail
  have hb1 := HB.out.nx HN2.out
  have hA := w_nodeR g0 lo A ca ns t w2 hb1.g0 hb1.hN (by have := hb1.nl; omega) HOK.out.sn
  rw [HJ.out] at hA
  refine hA.mono ?_
  rintro e w3 ⟨rfl, hn3⟩
  have HN3 := hide (HN2.out.trans hn3)
  clear hn3 hA hb1
  go_wp2_with fail
  refine (w_Moment _ _).mono ?_
  rintro e w4 ⟨rfl, rfl⟩
  rw [ha]
  go_wp2_with fail
  refine (w_New g0 lo A B C ca cb cc ns rs bs w3 (HB.out.nx HN3.out) HOK.out).mono ?_
  rintro e w5 ⟨bm, M, rfl, hbm, hM, hn5⟩
  have HM := hide hM
  have HN5 := hide (HN3.out.trans hn5)
  have HBM := hide (Nat.le_trans HN3.out.sz hbm)
  clear hM hn5 hbm
  go_wp2_with fail
  exact bodyPost_ret (v := .tuple #[.pointer (some ⟨bm, 0, none⟩), .int .i64 (i : Int), .int .i64 (j : Int), .int .i64 0]) (by simp [results, Tryz.results83, go_sem]) rfl ⟨bm, M, rfl, HBM.out, HM.out, HN5.out⟩
end Go.Proofs.YtklgknepamebdaaGreatDoor
/- The queue's methods, and how an interface finds them. -/
namespace Go.Proofs.YtklgknepamebdaaGreatDoor
open Go.RowKit

theorem m_Push (a : Addr) (w : World) : (method 432 217 (.pointer (some a)) "Push").run Tryz.prog w = .ok (277, .pointer (some a)) w := by kernel_rfl
theorem m_Pop (a : Addr) (w : World) : (method 432 217 (.pointer (some a)) "Pop").run Tryz.prog w = .ok (276, .pointer (some a)) w := by kernel_rfl
theorem m_Len0 (a : Addr) (w : World) : (method 432 217 (.pointer (some a)) "Len").run Tryz.prog w = (do let v ← loadVar 213 a; pure (273, v) : Sem (FuncId × Value)).run Tryz.prog w := by kernel_rfl
theorem m_Less0 (a : Addr) (w : World) : (method 432 217 (.pointer (some a)) "Less").run Tryz.prog w = (do let v ← loadVar 213 a; pure (274, v) : Sem (FuncId × Value)).run Tryz.prog w := by kernel_rfl
theorem m_Swap0 (a : Addr) (w : World) : (method 432 217 (.pointer (some a)) "Swap").run Tryz.prog w = (do let v ← loadVar 213 a; pure (275, v) : Sem (FuncId × Value)).run Tryz.prog w := by kernel_rfl
section
variable (g : Nat) (A : Option Addr) (n c : Nat) (w : World) (h : w.cell? ⟨g, 0, none⟩ = some (.slice A n c))
include h
theorem m_Len : (method 432 217 (.pointer (some ⟨g, 0, none⟩)) "Len").run Tryz.prog w = .ok (273, .slice A n c) w := by
  rw [m_Len0]
  simp only [Sem.run_bind, Sem.run_pure]
  go_simp
theorem m_Less : (method 432 217 (.pointer (some ⟨g, 0, none⟩)) "Less").run Tryz.prog w = .ok (274, .slice A n c) w := by
  rw [m_Less0]
  simp only [Sem.run_bind, Sem.run_pure]
  go_simp
theorem m_Swap : (method 432 217 (.pointer (some ⟨g, 0, none⟩)) "Swap").run Tryz.prog w = .ok (275, .slice A n c) w := by
  rw [m_Swap0]
  simp only [Sem.run_bind, Sem.run_pure]
  go_simp
end
def encExt (x : Ext) : List Value := [.int .i64 x.at_, .int .i64 (x.arc : Int)]
theorem encExt_len (x : Ext) : (encExt x).length = 2 := rfl
theorem encExt_one (x : Ext) : ∀ v ∈ encExt x, v.oneCell' = true := by
  intro v hv; simp [encExt] at hv; rcases hv with rfl | rfl <;> rfl
theorem el_Ext : ElemOf Tryz.prog 213 219 2 16 := ElemOf.mk' (z := .agg #[.int .i64 0, .int .i64 0]) Tryz.underlying213 (by kernel_rfl) rfl
/-- A row of exits, owned. -/
def ORow (base : Nat) (w : World) (v : Value) (l : List Ext) : Prop := w.ownsRow base 219 2 v l.length (l.flatMap encExt)
theorem ext_put {base g cap n : Nat} {w : World} {l : List Ext} (hn : l.length = n) (h : w.ownsRow base 219 2 (.slice (some ⟨g, 0, none⟩) n cap) n (l.flatMap encExt)) (i : Nat) (hi : i < l.length) (y : Ext) :
    ((w.setCell ⟨g, i * 2, none⟩ (.int .i64 y.at_)).setCell ⟨g, i * 2 + 1, none⟩ (.int .i64 (y.arc : Int))).ownsRow base 219 2 (.slice (some ⟨g, 0, none⟩) n cap) n ((l.set i y).flatMap encExt) := by
  have h1 := own_set encExt_len hn h i hi 0 (by omega) (.int .i64 y.at_) ⟨y.at_, l[i].arc⟩ rfl (i * 2) (by omega)
  have h2 := own_set encExt_len (by simpa using hn) h1 i (by simpa using hi) 1 (by omega) (.int .i64 (y.arc : Int)) y (by simp [encExt]) (i * 2 + 1) rfl
  rw [List.set_set] at h2
  exact h2
set_option maxRecDepth 100000 in
theorem w_QLen (A : Option Addr) (n c : Nat) (w : World) : Calls Tryz.prog 273 #[.slice A n c] w fun e w' => e = .returned (.int .i64 (n : Int)) ∧ w = w' := by
  go_enter Tryz.func273, Tryz.ntmps273
  go_wp2
  go_ret
  exact ⟨rfl, rfl⟩
def extC (a b : Ext) : Int := if cmpI a.at_ b.at_ = 0 then cmpI (a.arc : Int) (b.arc : Int) else cmpI a.at_ b.at_
theorem extC_neg (a b : Ext) : decide (extC a b < 0) = extLt a b := by
  unfold extC extLt cmpI
  have e : (a.at_ < b.at_) ∨ (a.at_ = b.at_) ∨ (b.at_ < a.at_) := by omega
  rcases e with h | h | h
  · have : ¬ b.at_ < a.at_ := by omega
    simp [h]
  · by_cases h1 : a.arc < b.arc
    · simp [h, h1]
    · by_cases h2 : b.arc < a.arc
      · simp [h, h1, h2]
      · simp [h, h1, h2]
  · have h1 : ¬ a.at_ < b.at_ := by omega
    have h2 : a.at_ ≠ b.at_ := by omega
    simp [h, h1, h2]
set_option maxRecDepth 100000 in
set_option maxHeartbeats 2000000 in
theorem w_QLess (base g cap : Nat) (l : List Ext) (i j : Nat) (w : World) (hO : ORow base w (.slice (some ⟨g, 0, none⟩) l.length cap) l) (hi : i < l.length) (hj : j < l.length) :
    Calls Tryz.prog 274 #[.slice (some ⟨g, 0, none⟩) l.length cap, .int .i64 (i : Int), .int .i64 (j : Int)] w fun e w' => e = .returned (.bool (extLt (gx l i) (gx l j))) ∧ Nx w w' := by
  have hlt : g < w.heap.size := (hO.lt g rfl).2
  have c0 : w.cell? ⟨g, i * 2, none⟩ = some (.int .i64 l[i].at_) := by have := own_cell encExt_len rfl hO i hi 0 _ rfl; simpa using this
  have c1 : w.cell? ⟨g, i * 2 + 1, none⟩ = some (.int .i64 (l[i].arc : Int)) := own_cell encExt_len rfl hO i hi 1 _ rfl
  have c2 : w.cell? ⟨g, j * 2, none⟩ = some (.int .i64 l[j].at_) := by have := own_cell encExt_len rfl hO j hj 0 _ rfl; simpa using this
  have c3 : w.cell? ⟨g, j * 2 + 1, none⟩ = some (.int .i64 (l[j].arc : Int)) := own_cell encExt_len rfl hO j hj 1 _ rfl
  rw [gx_lt hi, gx_lt hj, ← extC_neg]
  have hi2 : (i : Int) < (l.length : Int) := by omega
  have hj2 : (j : Int) < (l.length : Int) := by omega
  have hi0 : (0 : Int) ≤ (i : Int) := by omega
  have hj0 : (0 : Int) ≤ (j : Int) := by omega
  have hE : extC l[i] l[j] = if cmpI l[i].at_ l[j].at_ = 0 then cmpI (l[i].arc : Int) (l[j].arc : Int) else cmpI l[i].at_ l[j].at_ := rfl
  generalize extC l[i] l[j] = E at *
  have HOR := hide (fun g c W (hg : W.heap[g]? = some (.cells #[.int .i64 (cmpI l[i].at_ l[j].at_), .int .i64 (cmpI (l[i].arc : Int) (l[j].arc : Int))] 3 (0, 0))) => w_OrI2 (cmpI l[i].at_ l[j].at_) (cmpI (l[i].arc : Int) (l[j].arc : Int)) g c W hg)
  rw [← hE] at HOR
  clear hO hE
  generalize l[i].at_ = z0 at *
  generalize (l[i].arc : Int) = z1 at *
  generalize l[j].at_ = z2 at *
  generalize (l[j].arc : Int) = z3 at *
  generalize l.length = n at *
  go_enter Tryz.func274, Tryz.ntmps274
  go_wp2_with fail
  go_region_held3 (fun w' => w'.cell? ⟨g, i * 2, none⟩ = some (.int .i64 z0) ∧ w'.cell? ⟨g, i * 2 + 1, none⟩ = some (.int .i64 z1) ∧ w'.cell? ⟨g, j * 2, none⟩ = some (.int .i64 z2) ∧ w'.cell? ⟨g, j * 2 + 1, none⟩ = some (.int .i64 z3))
    (go_keep)
    (first
      | (go_at_call 190; refine (w_Compare _ _ _).mono ?_; rintro e w' ⟨rfl, rfl⟩)
      | (go_at_call 136; refine (HOR.out w.heap.size _ _ (hnew_drew rfl)).mono ?_; rintro e w' ⟨rfl, rfl⟩))
  go_wp2
  go_ret
  exact ⟨rfl, by repeat (first | with_reducible exact Nx.refl _ | with_reducible refine Nx.drew ?_ | with_reducible refine Nx.alloc ?_ _)⟩
end Go.Proofs.YtklgknepamebdaaGreatDoor
