/- The stream's roads: an arc is added. -/
import Derived.Test.YtepbamacebjopaaGreatDoorQG34
import Derived.Test.YtepbamacebjopaaGreatDoorQG15
import Derived.Deep.DeepCutAuto
import Derived.Deep.AppendLies
import Derived.Deep.RegionHeld3
namespace Go.Proofs.YtepbamacebjopaaGreatDoor
open Go.RowKit Go.Proofs Go.Shelf

set_option maxRecDepth 100000 in
set_option maxHeartbeats 8000000 in
theorem rg9 (w0 : World) (s g3 k : Nat) (w : World) (vN vA vB : Value) (ns : List Node) (rs : List Arc) (bs : List Ban) (h : RQ w0 s g3 w vN vA vB ns rs bs k) (hk : k < 650000) (hbl : rs.length ≤ 100)
    (Q : Exit → Act → World → Prop) (u1 u2 u4 u5 u6 u7 u8 u9 u10 u11 u12 u13 u14 u15 u16 u17 u18 u19 u20 u21 u22 u23 u24 u25 u26 u27 u28 u29 u30 u31 u32 u33 u34 u35 u36 u37 u38 u39 u40 u41 u42 u43 u44 u45 u46 u47 u48 u49 u50 u51 u52 u53 u54 u55 u56 u57 u58 u59 u60 u61 u62 u63 u64 u65 u66 u67 u68 u69 u70 u71 u72 u73 u74 u75 u76 u77 u78 u79 u80 u81 u82 u83 u84 u85 u86 u87 u88 u89 u90 u91 u92 u93 u94 u95 u96 u97 u98 u99 u100 u101 u102 u103 u104 u105 u106 u107 u108 u109 u110 u111 u112 u113 u114 u115 u116 u117 : Value)
    (hQ : Hid (∀ (vA' : Value) (rs' : List Arc) (w' : World) (u41 u42 u43 u44 u45 u46 u47 u48 u49 u50 u51 u52 u53 u54 u55 u56 : Value), rs'.length = rs.length + 1 → RQ w0 s g3 w' vN vA' vB ns rs' bs (k + 40) → Q .normal ⟨#[.pointer (some ⟨s, 0, none⟩), u1, u2, .pointer (some ⟨g3, 0, none⟩), u4, u5, u6, u7, u8, u9, u10, u11, u12, u13, u14, u15, u16, u17, u18, u19, u20, u21, u22, u23, u24, u25, u26, u27, u28, u29, u30, u31, u32, u33, u34, u35, u36, u37, u38, u39, u40, u41, u42, u43, u44, u45, u46, u47, u48, u49, u50, u51, u52, u53, u54, u55, u56, u57, u58, u59, u60, u61, u62, u63, u64, u65, u66, u67, u68, u69, u70, u71, u72, u73, u74, u75, u76, u77, u78, u79, u80, u81, u82, u83, u84, u85, u86, u87, u88, u89, u90, u91, u92, u93, u94, u95, u96, u97, u98, u99, u100, u101, u102, u103, u104, u105, u106, u107, u108, u109, u110, u111, u112, u113, u114, u115, u116, u117], []⟩ w')) :
    Code.wp Tryz.prog (regR 9) Q ⟨#[.pointer (some ⟨s, 0, none⟩), u1, u2, .pointer (some ⟨g3, 0, none⟩), u4, u5, u6, u7, u8, u9, u10, u11, u12, u13, u14, u15, u16, u17, u18, u19, u20, u21, u22, u23, u24, u25, u26, u27, u28, u29, u30, u31, u32, u33, u34, u35, u36, u37, u38, u39, u40, u41, u42, u43, u44, u45, u46, u47, u48, u49, u50, u51, u52, u53, u54, u55, u56, u57, u58, u59, u60, u61, u62, u63, u64, u65, u66, u67, u68, u69, u70, u71, u72, u73, u74, u75, u76, u77, u78, u79, u80, u81, u82, u83, u84, u85, u86, u87, u88, u89, u90, u91, u92, u93, u94, u95, u96, u97, u98, u99, u100, u101, u102, u103, u104, u105, u106, u107, u108, u109, u110, u111, u112, u113, u114, u115, u116, u117], []⟩ w := by
  conv => arg 2; whnf
  refine wp_region_noPanic ?_
  have HR := hide h
  have cb := h.cellA
  have cbA : ∀ o, (w.alloc o).cell? ⟨g3, 1, none⟩ = some vA := fun o => (h.nx ((Nx.refl w).alloc o)).cellA
  have cbB : ∀ o1 o2, ((w.alloc o1).alloc o2).cell? ⟨g3, 1, none⟩ = some vA := fun o1 o2 => (h.nx (((Nx.refl w).alloc o1).alloc o2)).cellA
  have hs := h.str.lt
  have hS := h.str
  have hz := h.sz
  have hg3 := h.g3gt
  obtain ⟨iA, zA, e1, e2, e3, e4, e5⟩ := el_ArcO.hi
  have E1 := hide e1
  have E2 := hide e2
  have E3 := hide e3
  have E4 := hide e4
  have E5 := hide e5
  clear h e1 e2 e3 e4 e5
  go_region_law
    (first
      | (go_simp; go_at_call 8; refine (w_Some _ [⟨#[110, 98]⟩, ⟨#[110, 97]⟩, ⟨#[122, 122]⟩] _ _ _ _ (hS2.nx (by repeat (first | with_reducible exact Nx.refl _ | with_reducible refine Nx.drew ?_ | with_reducible refine Nx.alloc ?_ _))) (by omega) (by first | exact hnew (by simp) | exact (World.grownBy.block (row := some s) hg2 _ (by simp <;> omega) (by simp <;> omega)).trans (blkA _ _ _) | exact (World.grownBy.block (row := some s) hg2 _ (by simp <;> omega) (by simp <;> omega)).trans (blkB _ _ _)) (by omega) rfl (by simp) (by simp)).mono ?_; rintro e w3 ⟨r3, hr3, rfl, hg3, hS3⟩; (have hR3 := hR2.gr (Gr.trans (by repeat (first | with_reducible exact Gr.refl _ _ | with_reducible refine Gr.drew ?_ | with_reducible refine Gr.alloc ?_ _)) hg3) hS3); (have hs3 := hS3.lt); (have cb3 := hR3.cellA); (have cb3A : ∀ o, (w3.alloc o).cell? ⟨g3, 1, none⟩ = some vA := fun o => (hR3.nx ((Nx.refl w3).alloc o)).cellA); (have cb3B : ∀ o1 o2, ((w3.alloc o1).alloc o2).cell? ⟨g3, 1, none⟩ = some vA := fun o1 o2 => (hR3.nx (((Nx.refl w3).alloc o1).alloc o2)).cellA))
      | (go_simp; go_at_call 8; refine (w_Some _ [⟨#[98]⟩, ⟨#[97, 48]⟩, ⟨#[]⟩] _ _ _ _ (hS.nx (by repeat (first | with_reducible exact Nx.refl _ | with_reducible refine Nx.drew ?_ | with_reducible refine Nx.alloc ?_ _))) (by omega) (by first | exact blkA _ _ _ | exact blkB _ _ _ | exact hnew_drew (by simp)) (by omega) rfl (by simp) (by simp)).mono ?_; rintro e w2 ⟨r2, hr2, rfl, hg2, hS2⟩; (have hR2 := HR.out.gr (Gr.trans (by repeat (first | with_reducible exact Gr.refl _ _ | with_reducible refine Gr.drew ?_ | with_reducible refine Gr.alloc ?_ _)) hg2) hS2); (have hs2 := hS2.lt); (have cb2 := hR2.cellA); (have cb2A : ∀ o, (w2.alloc o).cell? ⟨g3, 1, none⟩ = some vA := fun o => (hR2.nx ((Nx.refl w2).alloc o)).cellA); (have cb2B : ∀ o1 o2, ((w2.alloc o1).alloc o2).cell? ⟨g3, 1, none⟩ = some vA := fun o1 o2 => (hR2.nx (((Nx.refl w2).alloc o1).alloc o2)).cellA))
      | (go_simp; go_at_call 29; refine (w_Odd 1 1000000 _ _ _ (hS3.nx (by repeat (first | with_reducible exact Nx.refl _ | with_reducible refine Nx.drew ?_ | with_reducible refine Nx.alloc ?_ _))) (by omega) (by omega) (by omega)).mono ?_; rintro e w4 ⟨r4, _, _, rfl, hg4, hS4⟩; (have hR4 := hR3.gr (Gr.trans (by repeat (first | with_reducible exact Gr.refl _ _ | with_reducible refine Gr.drew ?_ | with_reducible refine Gr.alloc ?_ _)) hg4) hS4); (have hs4 := hS4.lt); (have cb4 := hR4.cellA); (have cb4A : ∀ o, (w4.alloc o).cell? ⟨g3, 1, none⟩ = some vA := fun o => (hR4.nx ((Nx.refl w4).alloc o)).cellA); (have cb4B : ∀ o1 o2, ((w4.alloc o1).alloc o2).cell? ⟨g3, 1, none⟩ = some vA := fun o1 o2 => (hR4.nx (((Nx.refl w4).alloc o1).alloc o2)).cellA))
      | (go_simp; go_at_call 30; refine (w_knots s _ _ hS4 (by omega)).mono ?_; rintro e w5 ⟨v5, l5, rfl, hown5, hl5, hg5, hS5⟩; (obtain ⟨A5, c5, rfl, _, _⟩ := Rd.of_own encKnot_len rfl hown5); (have hR5 := hR4.gr (Gr.trans (by repeat (first | with_reducible exact Gr.refl _ _ | with_reducible refine Gr.drew ?_ | with_reducible refine Gr.alloc ?_ _)) hg5) hS5); (have hs5 := hS5.lt); (have cb5 := hR5.cellA); (have cb5A : ∀ o, (w5.alloc o).cell? ⟨g3, 1, none⟩ = some vA := fun o => (hR5.nx ((Nx.refl w5).alloc o)).cellA); (have cb5B : ∀ o1 o2, ((w5.alloc o1).alloc o2).cell? ⟨g3, 1, none⟩ = some vA := fun o1 o2 => (hR5.nx (((Nx.refl w5).alloc o1).alloc o2)).cellA); (have HK5 := hide hown5); clear hown5)
      | (refine step_append_lies _ rfl _ _ _ rfl (w0.heap.size + 1) _ iA zA 5 80 Tryz.underlying27 E1.out E2.out E3.out E4.out E5.out (by omega) vA rs.length (rs.flatMap encArc) rfl (hR5.nx ((Nx.refl w5).alloc (.cells #[.string r2, .string ⟨#[110, 97]⟩, .string r3, .int .i64 r4, .slice A5 l5.length c5] 37))).own.rowA _ 1 1 [.string r2, .string ⟨#[110, 97]⟩, .string r3, .int .i64 r4, .slice A5 l5.length c5] rfl rfl (news_of (hnew rfl) rfl) (by intro u hu; simp at hu; rcases hu with rfl | rfl | rfl | rfl | rfl <;> rfl) (by omega) (by unfold maxLen; omega) (by omega) (by have := hR5.sz; simp; omega) _ rfl ?_; intro g6 c6 w6 hown6 hg6 hat6 hlt6; (have hR8 := hR5.nx ((Nx.refl w5).alloc (.cells #[.string r2, .string ⟨#[110, 97]⟩, .string r3, .int .i64 r4, .slice A5 l5.length c5] 37))); (have hO5 : w6.ownsRow (w0.heap.size + 1) 37 5 (.slice (some ⟨g6, 0, none⟩) (rs.length + 1) c6) (rs ++ [(⟨r2, ⟨#[110, 97]⟩, r3, r4, A5, c5, l5⟩ : Arc)]).length ((rs ++ [(⟨r2, ⟨#[110, 97]⟩, r3, r4, A5, c5, l5⟩ : Arc)]).flatMap encArc) := by (rw [List.length_append, List.flatMap_append]; exact hown6)); (have hO6 := hR8.own.appA (rs' := rs ++ [(⟨r2, ⟨#[110, 97]⟩, r3, r4, A5, c5, l5⟩ : Arc)]) hg6 hO5 (fun a ha => by
          rcases List.mem_append.1 ha with ha | ha
          · exact ⟨hR8.own.smA a ha, hR8.own.each a ha⟩
          · simp at ha
            subst ha
            exact ⟨⟨by show l5.length ≤ 400; omega, (by (show (r2 : ByteArray).size ≤ 1000000); simp at hr2; rcases hr2 with h | h | h <;> rw [h] <;> decide), (show (⟨#[110, 97]⟩ : ByteArray).size ≤ 1000000 by decide), (by (show (r3 : ByteArray).size ≤ 1000000); simp at hr3; rcases hr3 with h | h | h <;> rw [h] <;> decide)⟩, (HK5.out.mono (by have := hR4.sz; omega)).alloc _⟩)); (have hb6 := (hR8.row hR8.own.rowA (by decide) (Nat.le_refl _) hg6 hO6).1); (have hd6 : w6.cell? ⟨g3, 1, none⟩ = some vA := cell_of_row w6 _ 1 _ _ _ hb6); (have hf6 : w6.frozen? ⟨g3, 1, none⟩ = false := frozen_blk hb6); (have HO6 := hide hO6); clear hO5 hO6))
  all_goals
    show Q .normal _ _
    have hR9 := RQ.set (j := 1) hR8 hR8.own.rowA (by decide) (Nat.le_refl _) hg6 HO6.out rfl
    exact hQ.out _ _ _ _ _ _ _ _ _ _ _ _ _ _ _ _ _ _ _ (by rw [List.length_append]; rfl) (hR9.more (by omega))
end Go.Proofs.YtepbamacebjopaaGreatDoor
