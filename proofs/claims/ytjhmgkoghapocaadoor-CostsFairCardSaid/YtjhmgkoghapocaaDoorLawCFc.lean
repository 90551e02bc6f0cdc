/- jitlaw1.CostsFair, its last part: the refund. -/
import Derived.Test.YtjhmgkoghapocaaDoorLawB
import Derived.Test.YtjhmgkoghapocaaDoorStage
import Derived.Test.YtjhmgkoghapocaaDoorStrS
import Derived.Test.YtjhmgkoghapocaaDoorRefund
import Derived.Test.YtjhmgkoghapocaaDoorPriced
import Derived.Deep.DeepCutAuto
namespace Go.Proofs.YtjhmgkoghapocaaDoor
open Go.RowKit Go.Sort Go.Shelf

noncomputable def codeCF (r : Nat) : Code := fromReg r (Tryd.f3.body.getD .skip)

set_option maxRecDepth 100000 in
set_option maxHeartbeats 8000000 in
theorem st_CF22 {w wc : World} {s k : Nat} (hg : Gr s w wc) (hS : Str wc s k) (hs : w.heap.size ≤ s) (hk : k < 600000) (u0 u1 u2 u4 u5 u6 u7 u8 u9 u10 u11 u12 u13 u14 u15 u16 u17 u18 u19 u20 u21 u22 u23 u24 u25 u26 u27 u28 u29 u30 u31 u32 u33 u34 u35 u36 u37 u38 u39 u40 u41 u42 u43 u44 u45 u46 u47 u48 u49 u50 u51 u52 u53 u54 u55 u56 u57 u58 u59 u60 u61 u62 u63 u64 u65 u66 u67 u68 u69 u70 u71 u72 u73 u74 u75 u76 u77 u78 u79 u80 u81 u82 u83 u84 u85 u86 u87 u88 u89 u90 u91 u92 u93 u94 u95 u96 u97 u98 u99 u100 u101 u102 u103 u104 u105 u106 u107 u108 u109 u110 u111 u112 u113 u114 u115 u116 u117 u118 u119 u120 u121 u122 u123 u124 u125 u126 u127 u128 u129 u130 u131 u132 u133 u134 u135 u136 u137 u138 u139 u140 u141 u142 u143 u144 u145 u146 u147 u148 u149 u150 u151 u152 u153 u154 u155 u156 u157 u158 u159 u160 u161 u162 u163 u164 u165 u166 u167 u168 u169 u170 u171 u172 u173 : Value) :
    Code.wp Tryd.prog (codeCF 22) (bodyPost Tryd.prog Tryd.f3 (TrueNx w)) ⟨#[u0, u1, u2, .pointer (some ⟨s, 0, none⟩), u4, u5, u6, u7, u8, u9, u10, u11, u12, u13, u14, u15, u16, u17, u18, u19, u20, u21, u22, u23, u24, u25, u26, u27, u28, u29, u30, u31, u32, u33, u34, u35, u36, u37, u38, u39, u40, u41, u42, u43, u44, u45, u46, u47, u48, u49, u50, u51, u52, u53, u54, u55, u56, u57, u58, u59, u60, u61, u62, u63, u64, u65, u66, u67, u68, u69, u70, u71, u72, u73, u74, u75, u76, u77, u78, u79, u80, u81, u82, u83, u84, u85, u86, u87, u88, u89, u90, u91, u92, u93, u94, u95, u96, u97, u98, u99, u100, u101, u102, u103, u104, u105, u106, u107, u108, u109, u110, u111, u112, u113, u114, u115, u116, u117, u118, u119, u120, u121, u122, u123, u124, u125, u126, u127, u128, u129, u130, u131, u132, u133, u134, u135, u136, u137, u138, u139, u140, u141, u142, u143, u144, u145, u146, u147, u148, u149, u150, u151, u152, u153, u154, u155, u156, u157, u158, u159, u160, u161, u162, u163, u164, u165, u166, u167, u168, u169, u170, u171, u172, u173], []⟩ wc := by
  conv => arg 2; whnf
  have hsl := hS.lt
  go_wp2_with fail
  refine (w_PickI _ [0, 99, 1000, -1] _ _ _ _ (hS.nx ((Nx.refl _).alloc _)) (by omega) (hnew rfl) (by omega) rfl (by simp) (by simp)).mono ?_
  rintro e w1 ⟨due, hdue, rfl, hg1, hS1⟩
  have hs1 := hS1.lt
  go_wp2_with fail
  refine (w_PickI _ [0, 1, 50, 100, 500, 345686400001] _ _ _ _ (hS1.nx ((Nx.refl _).alloc _)) (by omega) (hnew rfl) (by omega) rfl (by simp) (by simp)).mono ?_
  rintro e w2 ⟨late, hlate, rfl, hg2, hS2⟩
  go_wp2_with fail
  refine (w_Tiers 0 100 _ _ _ hS2 (by omega) (by omega)).mono ?_
  rintro e w3 ⟨A, c, l, rfl, hl, hR, hg3, hS3⟩
  have hn3 : Nx w w3 := Nx.of_gr ((((hg.alloc _).trans hg1).alloc _).trans hg2 |>.trans hg3) hs
  clear hS hS1 hS2 hS3 hg hg1 hg2 hg3 hdue hlate
  have HL := hide (show l.length ≤ 65536 by omega)
  by_cases h0 : refF due late l = 0
  · have t1 : (refF due late l != 0) = false := by rw [h0]; rfl
    have t2 : (refF due late l == 0) = true := by rw [h0]; rfl
    have t3 : (refV due late l == refI due late l) = true := by unfold refV; rw [if_pos h0]; simp
    have H0 := hide h0
    clear h0
    go_wp2_with (first
      | (go_at_call 20; refine (w_Refund _ _ _ _ _ _ _ hR HL.out).mono ?_; rintro e w4 ⟨rfl, hn4⟩)
      | (go_at_call 21; refine (w_RefundFault _ _ _ _ _ _ _ (hR.nx hn4) HL.out).mono ?_; rintro e w5 ⟨rfl, hn5⟩)
      | (go_at_call 23; refine (w_RefundOf _ _ _ _ _ _ _ ((hR.nx hn4).nx hn5) HL.out H0.out).mono ?_; rintro e w6 ⟨rfl, hn6⟩)
      | (go_at_call 22; refine (w_priced _).mono ?_; rintro e w7 ⟨rfl, hn7⟩))
    go_ret
    exact ⟨rfl, (((hn3.trans hn4).trans hn5).trans hn6).trans hn7⟩
  · have t1 : (refF due late l != 0) = true := by simpa using h0
    have t2 : (refF due late l == refF due late l) = true := by simp
    have t3 : (refV due late l == 0) = true := by unfold refV; rw [if_neg h0]; rfl
    clear h0
    go_wp2_with (first
      | (go_at_call 20; refine (w_Refund _ _ _ _ _ _ _ hR HL.out).mono ?_; rintro e w4 ⟨rfl, hn4⟩)
      | (go_at_call 21; refine (w_RefundFault _ _ _ _ _ _ _ (hR.nx hn4) HL.out).mono ?_; rintro e w5 ⟨rfl, hn5⟩)
      | (go_at_call 22; refine (w_priced _).mono ?_; rintro e w7 ⟨rfl, hn7⟩))
    go_ret
    exact ⟨rfl, ((hn3.trans hn4).trans hn5).trans hn7⟩
end Go.Proofs.YtjhmgkoghapocaaDoor
