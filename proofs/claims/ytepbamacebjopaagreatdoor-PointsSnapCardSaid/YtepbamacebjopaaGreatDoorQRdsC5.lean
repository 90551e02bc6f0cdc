/- The stream's roads: a ban is added. -/
import Derived.Test.YtepbamacebjopaaGreatDoorQG34
import Derived.Test.YtepbamacebjopaaGreatDoorQG15
import Derived.Deep.DeepCutAuto
import Derived.Deep.AppendLies
import Derived.Deep.RegionHeld3
namespace Go.Proofs.YtepbamacebjopaaGreatDoor
open Go.RowKit Go.Proofs Go.Shelf

set_option maxRecDepth 100000 in
set_option maxHeartbeats 4000000 in
theorem rg17 (w0 : World) (s g3 k : Nat) (w : World) (vN vA vB : Value) (ns : List Node) (rs : List Arc) (bs : List Ban) (h : RQ w0 s g3 w vN vA vB ns rs bs k) (hk : k < 800000) (hbl : bs.length ≤ 100)
    (Q : Exit → Act → World → Prop) (u1 u2 u4 u5 u6 u7 u8 u9 u10 u11 u12 u13 u14 u15 u16 u17 u18 u19 u20 u21 u22 u23 u24 u25 u26 u27 u28 u29 u30 u31 u32 u33 u34 u35 u36 u37 u38 u39 u40 u41 u42 u43 u44 u45 u46 u47 u48 u49 u50 u51 u52 u53 u54 u55 u56 u57 u58 u59 u60 u61 u62 u63 u64 u65 u66 u67 u68 u69 u70 u71 u72 u73 u74 u75 u76 u77 u78 u79 u80 u81 u82 u83 u84 u85 u86 u87 u88 u89 u90 u91 u92 u93 u94 u95 u96 u97 u98 u99 u100 u101 u102 u103 u104 u105 u106 u107 u108 u109 u110 u111 u112 u113 u114 u115 u116 u117 : Value)
    (hQ : Hid (∀ (vB' : Value) (bs' : List Ban) (w' : World) (u105 u106 u107 u108 u109 u110 u111 u112 u113 u114 u115 u116 : Value), bs'.length = bs.length + 1 → RQ w0 s g3 w' vN vA vB' ns rs bs' (k + 10) → Q .normal ⟨#[.pointer (some ⟨s, 0, none⟩), u1, u2, .pointer (some ⟨g3, 0, none⟩), u4, u5, u6, u7, u8, u9, u10, u11, u12, u13, u14, u15, u16, u17, u18, u19, u20, u21, u22, u23, u24, u25, u26, u27, u28, u29, u30, u31, u32, u33, u34, u35, u36, u37, u38, u39, u40, u41, u42, u43, u44, u45, u46, u47, u48, u49, u50, u51, u52, u53, u54, u55, u56, u57, u58, u59, u60, u61, u62, u63, u64, u65, u66, u67, u68, u69, u70, u71, u72, u73, u74, u75, u76, u77, u78, u79, u80, u81, u82, u83, u84, u85, u86, u87, u88, u89, u90, u91, u92, u93, u94, u95, u96, u97, u98, u99, u100, u101, u102, u103, u104, u105, u106, u107, u108, u109, u110, u111, u112, u113, u114, u115, u116, u117], []⟩ w')) :
    Code.wp Tryz.prog (regR 17) Q ⟨#[.pointer (some ⟨s, 0, none⟩), u1, u2, .pointer (some ⟨g3, 0, none⟩), u4, u5, u6, u7, u8, u9, u10, u11, u12, u13, u14, u15, u16, u17, u18, u19, u20, u21, u22, u23, u24, u25, u26, u27, u28, u29, u30, u31, u32, u33, u34, u35, u36, u37, u38, u39, u40, u41, u42, u43, u44, u45, u46, u47, u48, u49, u50, u51, u52, u53, u54, u55, u56, u57, u58, u59, u60, u61, u62, u63, u64, u65, u66, u67, u68, u69, u70, u71, u72, u73, u74, u75, u76, u77, u78, u79, u80, u81, u82, u83, u84, u85, u86, u87, u88, u89, u90, u91, u92, u93, u94, u95, u96, u97, u98, u99, u100, u101, u102, u103, u104, u105, u106, u107, u108, u109, u110, u111, u112, u113, u114, u115, u116, u117], []⟩ w := by
  conv => arg 2; whnf
  refine wp_region_noPanic ?_
  have HR := hide h
  have cb := h.cellB
  have cbA : ∀ o, (w.alloc o).cell? ⟨g3, 2, none⟩ = some vB := fun o => (h.nx ((Nx.refl w).alloc o)).cellB
  have cbB : ∀ o1 o2, ((w.alloc o1).alloc o2).cell? ⟨g3, 2, none⟩ = some vB := fun o1 o2 => (h.nx (((Nx.refl w).alloc o1).alloc o2)).cellB
  have hs := h.str.lt
  have hS := h.str
  have hz := h.sz
  have hg3 := h.g3gt
  obtain ⟨iB, zB, e1, e2, e3, e4, e5⟩ := el_BanO.hi
  have E1 := hide e1
  have E2 := hide e2
  have E3 := hide e3
  have E4 := hide e4
  have E5 := hide e5
  clear h e1 e2 e3 e4 e5
  go_region_law
    (first
      | (go_simp; go_at_call 8; refine (w_Some _ [⟨#[97, 49]⟩, ⟨#[97, 48]⟩] _ _ _ _ (hS2.nx (by repeat (first | with_reducible exact Nx.refl _ | with_reducible refine Nx.drew ?_ | with_reducible refine Nx.alloc ?_ _))) (by omega) (by first | exact hnew (by simp) | exact (World.grownBy.block (row := some s) hg2 _ (by simp <;> omega) (by simp <;> omega)).trans (blkA _ _ _) | exact (World.grownBy.block (row := some s) hg2 _ (by simp <;> omega) (by simp <;> omega)).trans (blkB _ _ _)) (by omega) rfl (by simp) (by simp)).mono ?_; rintro e w3 ⟨r2, hr2, rfl, hg3', hS3⟩; (have hR3 := hR2.gr (Gr.trans (by repeat (first | with_reducible exact Gr.refl _ _ | with_reducible refine Gr.drew ?_ | with_reducible refine Gr.alloc ?_ _)) hg3') hS3); (have cb3 := hR3.cellB); (have cb3A : ∀ o, (w3.alloc o).cell? ⟨g3, 2, none⟩ = some vB := fun o => (hR3.nx ((Nx.refl w3).alloc o)).cellB))
      | (go_simp; go_at_call 8; refine (w_Some _ [⟨#[97, 48]⟩, ⟨#[122, 122]⟩] _ _ _ _ (hS.nx (by repeat (first | with_reducible exact Nx.refl _ | with_reducible refine Nx.drew ?_ | with_reducible refine Nx.alloc ?_ _))) (by omega) (by first | exact blkA _ _ _ | exact blkB _ _ _ | exact hnew_drew (by simp)) (by omega) rfl (by simp) (by simp)).mono ?_; rintro e w2 ⟨r1, hr1, rfl, hg2, hS2⟩; (have hR2 := HR.out.gr (Gr.trans (by repeat (first | with_reducible exact Gr.refl _ _ | with_reducible refine Gr.drew ?_ | with_reducible refine Gr.alloc ?_ _)) hg2) hS2); (have hs2 := hS2.lt); (have cb2 := hR2.cellB); (have cb2A : ∀ o, (w2.alloc o).cell? ⟨g3, 2, none⟩ = some vB := fun o => (hR2.nx ((Nx.refl w2).alloc o)).cellB))
      | (refine step_append_lies _ rfl _ _ _ rfl (w0.heap.size + 1) _ iB zB 2 32 Tryz.underlying28 E1.out E2.out E3.out E4.out E5.out (by omega) vB bs.length (bs.flatMap encBan) rfl (hR3.own.rowB.alloc _) _ 1 1 [.string r1, .string r2] rfl rfl (news_of (hnew rfl) rfl) (by intro u hu; simp at hu; rcases hu with rfl | rfl <;> rfl) (by omega) (by unfold maxLen; omega) (by omega) (by have := hR3.sz; simp; omega) _ rfl ?_; intro g5 c5 w5 hown5 hg5 hat5 hlt5; (have hR4 := hR3.nx ((Nx.refl w3).alloc (.cells #[.string r1, .string r2] 80))); (have hO5 : w5.ownsRow (w0.heap.size + 1) 80 2 (.slice (some ⟨g5, 0, none⟩) (bs.length + 1) c5) (bs ++ [(⟨r1, r2⟩ : Ban)]).length ((bs ++ [(⟨r1, r2⟩ : Ban)]).flatMap encBan) := by (rw [List.length_append, List.flatMap_append]; exact hown5)); (have hO6 := hR4.own.appB (bs' := bs ++ [(⟨r1, r2⟩ : Ban)]) hg5 hO5); (have hb5 := (hR4.row hR4.own.rowB (by decide) (Nat.le_refl _) hg5 hO6).1); (have hd5 : w5.cell? ⟨g3, 2, none⟩ = some vB := cell_of_row w5 _ 2 _ _ _ hb5); (have hf5 : w5.frozen? ⟨g3, 2, none⟩ = false := frozen_blk hb5); (have HO6 := hide hO6); clear hO5 hO6))
  all_goals
    show Q .normal _ _
    have hR5 := RQ.set (j := 2) hR4 hR4.own.rowB (by decide) (Nat.le_refl _) hg5 HO6.out rfl
    exact hQ.out _ _ _ _ _ _ _ _ _ _ _ _ _ _ _ (by rw [List.length_append]; rfl) (hR5.more (by omega))
end Go.Proofs.YtepbamacebjopaaGreatDoor
