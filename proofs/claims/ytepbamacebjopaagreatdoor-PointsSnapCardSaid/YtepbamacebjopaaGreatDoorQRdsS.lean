/- The stream's roads. -/
import Derived.Test.YtepbamacebjopaaGreatDoorQRdsC1
import Derived.Test.YtepbamacebjopaaGreatDoorQRdsC2
import Derived.Test.YtepbamacebjopaaGreatDoorQRdsC3
import Derived.Test.YtepbamacebjopaaGreatDoorQRdsC5
import Derived.Test.YtepbamacebjopaaGreatDoorQG34
import Derived.Test.YtepbamacebjopaaGreatDoorQRdsR
namespace Go.Proofs.YtepbamacebjopaaGreatDoor
open Go.RowKit Go.Proofs Go.Shelf

/-- Roads: three rows of the call's own. -/
def StrRd (s k : Nat) (w : World) (e : Ending) (w' : World) : Prop :=
  ∃ (vN vA vB : Value) (ns : List Node) (rs : List Arc) (bs : List Ban), e = .returned (.agg #[vN, vA, vB]) ∧ OwnR w' w.heap.size vN vA vB ns rs bs ∧ 0 < ns.length ∧ ns.length ≤ 5 ∧ rs.length ≤ 10 ∧ bs.length ≤ 101 ∧ Gr s w w' ∧ Str w' s k
theorem RQ.of_row {w0 w w' : World} {s g3 K n base K2 : Nat} {v vN vA vB vN' vA' vB' : Value} {e : TypeId} {xs : List Value} {ns ns' : List Node} {rs rs' : List Arc} {bs bs' : List Ban} (h : RQ w0 s g3 w vN vA vB ns rs bs K) (ho : w.ownsRow base e K2 v n xs) (hne : 30 ≠ e) (hb : w0.heap.size + 1 ≤ base) (hg : w.grownBy w' v.ownBlock) (ho' : OwnR w' (w0.heap.size + 1) vN' vA' vB' ns' rs' bs') (hv : (#[vN, vA, vB] : Array Value) = #[vN', vA', vB']) : RQ w0 s g3 w' vN' vA' vB' ns' rs' bs' K := by
  obtain ⟨h1, h2, h4, h5, h6⟩ := h.row ho hne hb hg ho'
  exact ⟨h6, hv ▸ h1, h2, h4, h5, h.slt, h.g3gt⟩

set_option maxRecDepth 100000 in
set_option maxHeartbeats 8000000 in
theorem w_RoadsS (s k : Nat) (w : World) (hS : Str w s k) (hk : k < 200000) :
    Calls Tryz.prog 4 #[.pointer (some ⟨s, 0, none⟩)] w (StrRd s (k + 470) w) := by
  have hsl := hS.lt
  go_enter Tryz.func4, Tryz.ntmps4
  go_wp2_with fail
  refine (w_RightRoads s k _ (hS.nx ((Nx.refl w).alloc _)) (by omega)).mono ?_
  rintro e w1 ⟨vN, vA, vB, ns, rs, bs, rfl, hown, hn0, hn5, hr9, hb100, hg1, hS1⟩
  have hsz : (w.alloc (.cells #[.slice none 0 0, .slice none 0 0, .slice none 0 0] 30)).heap.size = w.heap.size + 1 := by simp
  rw [hsz] at hown
  have hz1 := hg1.sz
  rw [hsz] at hz1
  have hres : w1.heap[w.heap.size]? = some (.cells #[.slice none 0 0, .slice none 0 0, .slice none 0 0] 30 (0, 0)) := (World.grownBy.block (row := some s) hg1 _ (by rw [hsz]; omega) (by simp; omega)).trans (hnew rfl)
  have hgr1 : Gr s w w1 := ((Gr.refl s w).alloc _).trans hg1
  have hRQ0 : RQ w s w1.heap.size (w1.alloc (.cells #[vN, vA, vB] 30)) vN vA vB ns rs bs (k + 400) :=
    ⟨hown.nx ((Nx.refl w1).alloc _), hnew rfl, ⟨_, (((Nx.refl w1).alloc _).block _ (by omega)).trans hres, rfl⟩, hgr1.alloc _, hS1.nx ((Nx.refl w1).alloc _), hsl, by omega⟩
  obtain ⟨A, B, C, ca, cb, cc, e1, e2, e3, _, _, _⟩ := hown.rd
  subst e1 e2 e3
  have HR0 := hide hRQ0
  have hs1 := hS1.lt
  clear hRQ0 hown hres hg1 hS hgr1
  go_wp2_with fail
  generalize w1.heap.size = g3 at *
  refine (w_Flip 10 _ _ _ HR0.out.str (by omega) (by omega)).mono ?_
  rintro e w2 ⟨fl, rfl, hg2, hS2⟩
  have HR2 := hide (HR0.out.gr hg2 hS2)
  clear HR0 hg2 hS2
  go_upto_if 8 with fail
  go_cut [] (fun wx => ∃ (vN vA vB : Value) (ns : List Node) (rs : List Arc) (bs : List Ban), 0 < ns.length ∧ ns.length ≤ 5 ∧ rs.length ≤ 10 ∧ bs.length ≤ 101 ∧ RQ w s g3 wx vN vA vB ns rs bs (k + 470))
  case first =>
    cases fl
    · go_wp2_with fail
      go_meet
      exact ⟨_, _, _, ns, rs, bs, hn0, hn5, by omega, by omega, HR2.out.more (by omega)⟩
    · go_wp2_with fail
      refine (w_Next 7 _ _ _ HR2.out.str (by omega) (by omega)).mono ?_
      rintro e w3 ⟨r, hr1, hr2, rfl, hg3', hS3⟩
      have hR := HR2.out.gr hg3' hS3
      clear HR2 hg3' hS3
      have hzR := hR.sz
      have hg3l := hR.g3gt
      rcases (by omega : r = 0 ∨ r = 1 ∨ r = 2 ∨ r = 3 ∨ r = 4 ∨ r = 5 ∨ r = 6) with rfl | rfl | rfl | rfl | rfl | rfl | rfl
      · clear hr1 hr2
        obtain ⟨gn, rfl⟩ : ∃ gn, A = some ⟨gn, 0, none⟩ := by
          rcases hR.own.rowN.2 with ⟨h, h'⟩ | ⟨g, cap, cur, h, _⟩
          · omega
          · injection h with h; exact ⟨g, h⟩
        have cbN := hR.cellN
        have HR := hide hR
        clear hR
        go_upto_region 6 with fail
        have hn1 : (1 : Int) ≤ (ns.length : Int) := by omega
        go_cut [4] (fun v wx => ∃ q : Nat, q < ns.length ∧ v = .pointer (some ⟨gn, q * 3, none⟩) ∧ RQ w s g3 wx (.slice (some ⟨gn, 0, none⟩) ns.length ca) (.slice B rs.length cb) (.slice C bs.length cc) ns rs bs (k + 403))
        case first =>
          go_region_law
            (first | (go_simp; go_at_call 28; refine (w_Next (ns.length : Int) _ _ _ (HR.out.str.nx (Nx.refl w3).drew) (by omega) (by omega)).mono ?_; rintro e w4 ⟨q, hq1, hq2, rfl, hg4, hS4⟩; (obtain ⟨q, rfl⟩ := Int.eq_ofNat_of_zero_le hq1); (have hR4 := HR.out.gr ((Gr.refl s w3).drew.trans hg4) hS4); (have cb4 := hR4.cellN); (have hq3 : (q : Int) < (ns.length : Int) := by omega)))
          all_goals
            go_wp2
            go_meet
            exact ⟨q, by omega, rfl, hR4⟩
        case rest =>
          obtain ⟨q, hq, rfl, hR4⟩ := hcut
          clear HR cbN
          have hs4 := hR4.str.lt
          have d0 : wc.cell? ⟨gn, q * 3, none⟩ = some (.string ns[q].key) := by have := own_cell encNode_len rfl hR4.own.rowN q hq 0 _ rfl; simpa using this
          have hk0 := hR4.own.smN _ (List.getElem_mem hq)
          have HR4 := hide hR4
          clear hR4
          go_wp2_with fail
          refine (w_Some _ [ns[q].key, ⟨#[]⟩, ⟨#[110, 97]⟩, ⟨#[122, 122]⟩] _ _ _ _ (HR4.out.str.nx ((Nx.refl wc).alloc _)) (by omega) (hnew rfl) (by omega) rfl (by simp) (by simp)).mono ?_
          rintro e w5 ⟨ky, hky, rfl, hg5, hS5⟩
          have hR5 := HR4.out.gr (((Gr.refl s wc).alloc _).trans hg5) hS5
          clear d0 hg5 hS5
          go_wp2_with fail
          refine (w_Odd (-10000) 10000 _ _ _ hR5.str (by omega) (by omega) (by omega)).mono ?_
          rintro e w6 ⟨x', _, _, rfl, hg6, hS6⟩
          have hR6 := hR5.gr hg6 hS6
          clear hR5 hg6 hS6
          have e0 : w6.cell? ⟨gn, q * 3, none⟩ = some (.string ns[q].key) := by have := own_cell encNode_len rfl hR6.own.rowN q hq 0 _ rfl; simpa using this
          have e1 : w6.cell? ⟨gn, q * 3 + 1, none⟩ = some (.int .i64 ns[q].x) := own_cell encNode_len rfl hR6.own.rowN q hq 1 _ rfl
          have f0 := hR6.own.rowN.frozenAt (q * 3)
          have f1 := hR6.own.rowN.frozenAt (q * 3 + 1)
          have o1 := own_set encNode_len rfl hR6.own.rowN q hq 0 (by omega) (.string ky) ⟨ky, ns[q].x, ns[q].y⟩ rfl (q * 3) rfl
          have o2 := own_set encNode_len (by rw [List.length_set]) o1 q (by rw [List.length_set]; exact hq) 1 (by omega) (.int .i64 x') ⟨ky, x', ns[q].y⟩ (by simp [encNode]) (q * 3 + 1) rfl
          have hgg : Gr gn w6 ((w6.setCell ⟨gn, q * 3, none⟩ (.string ky)).setCell ⟨gn, q * 3 + 1, none⟩ (.int .i64 x')) := ((Gr.refl gn w6).setS (p := ⟨gn, q * 3, none⟩) (.inl rfl) _).setS (p := ⟨gn, q * 3 + 1, none⟩) (.inl rfl) _
          have hl : ((ns.set q ⟨ky, ns[q].x, ns[q].y⟩).set q ⟨ky, x', ns[q].y⟩).length = ns.length := by rw [List.length_set, List.length_set]
          have hkys : ky.size ≤ 1000000 := by
            simp at hky
            rcases hky with h | h | h | h <;> rw [h] <;> first | exact hk0 | decide
          have hO := hR6.own.appN (ns' := (ns.set q ⟨ky, ns[q].x, ns[q].y⟩).set q ⟨ky, x', ns[q].y⟩) hgg (by rw [hl]; exact o2) (fun y hy => by
            rcases List.mem_or_eq_of_mem_set hy with hy | rfl
            · rcases List.mem_or_eq_of_mem_set hy with hy | rfl
              · exact hR6.own.smN y hy
              · exact hkys
            · exact hkys)
          have hR7 := (hR6.of_row hR6.own.rowN (by decide) (Nat.le_refl _) hgg hO rfl).more (show k + 403 + 1 + 2 ≤ k + 470 by omega)
          have HR7 := hide hR7
          clear hR7 hO hgg o1 o2 hR6
          go_wp2_with fail
          go_meet
          exact ⟨_, _, _, _, rs, bs, by rw [hl]; exact hn0, by rw [hl]; exact hn5, by omega, by omega, HR7.out⟩
      · clear hr1 hr2
        go_upto_region 9 with fail
        refine rg9 w s g3 _ _ _ _ _ _ _ _ hR (by omega) (by omega) _ _ _ _ _ _ _ _ _ _ _ _ _ _ _ _ _ _ _ _ _ _ _ _ _ _ _ _ _ _ _ _ _ _ _ _ _ _ _ _ _ _ _ _ _ _ _ _ _ _ _ _ _ _ _ _ _ _ _ _ _ _ _ _ _ _ _ _ _ _ _ _ _ _ _ _ _ _ _ _ _ _ _ _ _ _ _ _ _ _ _ _ _ _ _ _ _ _ _ _ _ _ _ _ _ _ _ _ _ _ _ _ _ _ _ _ _ ?_
        refine hide ?_
        intro vA' rs' w' _ _ _ _ _ _ _ _ _ _ _ _ _ _ _ _ hl' hR'
        have hR2 := hR'.more (show k + 400 + 1 + 1 + 40 ≤ k + 470 by omega)
        clear hR hR'
        dsimp only [Exit.inBlock, Exit.then]
        go_wp2_with fail
        go_meet
        exact ⟨_, _, _, ns, rs', bs, hn0, hn5, by omega, by omega, hR2⟩
      · clear hr1 hr2
        go_upto_region 11 with fail
        refine rg11 w s g3 _ _ _ _ _ _ _ _ hR (by omega) (by omega) _ _ _ _ _ _ _ _ _ _ _ _ _ _ _ _ _ _ _ _ _ _ _ _ _ _ _ _ _ _ _ _ _ _ _ _ _ _ _ _ _ _ _ _ _ _ _ _ _ _ _ _ _ _ _ _ _ _ _ _ _ _ _ _ _ _ _ _ _ _ _ _ _ _ _ _ _ _ _ _ _ _ _ _ _ _ _ _ _ _ _ _ _ _ _ _ _ _ _ _ _ _ _ _ _ _ _ _ _ _ _ _ _ _ _ _ _ ?_
        refine hide ?_
        intro vA' rs' w' _ _ _ _ _ _ _ _ _ _ _ _ _ _ _ _ _ _ hl' hR'
        have hR2 := hR'.more (show k + 400 + 1 + 1 + 40 ≤ k + 470 by omega)
        clear hR hR'
        dsimp only [Exit.inBlock, Exit.then]
        go_wp2_with fail
        go_meet
        exact ⟨_, _, _, ns, rs', bs, hn0, hn5, by omega, by omega, hR2⟩
      · clear hr1 hr2
        go_upto_region 13 with fail
        refine rg13 w s g3 _ _ _ _ _ _ _ _ hR (by omega) (by omega) _ _ _ _ _ _ _ _ _ _ _ _ _ _ _ _ _ _ _ _ _ _ _ _ _ _ _ _ _ _ _ _ _ _ _ _ _ _ _ _ _ _ _ _ _ _ _ _ _ _ _ _ _ _ _ _ _ _ _ _ _ _ _ _ _ _ _ _ _ _ _ _ _ _ _ _ _ _ _ _ _ _ _ _ _ _ _ _ _ _ _ _ _ _ _ _ _ _ _ _ _ _ _ _ _ _ _ _ _ _ _ _ _ _ _ _ _ ?_
        refine hide ?_
        intro vA' rs' w' _ _ _ _ _ _ _ _ _ _ _ _ _ _ _ _ hl' hR'
        have hR2 := hR'.more (show k + 400 + 1 + 1 + 40 ≤ k + 470 by omega)
        clear hR hR'
        dsimp only [Exit.inBlock, Exit.then]
        go_wp2_with fail
        go_meet
        exact ⟨_, _, _, ns, rs', bs, hn0, hn5, by omega, by omega, hR2⟩
      · clear hr1 hr2
        have cb1 := hR.cellA
        have HR := hide hR
        clear hR
        go_wp2_with (at_builtin; refine wpApp rfl _ _ _ rfl el_ArcO encArc encArc_len encArc_one (by omega) (by omega) (w.heap.size + 1) _ rs rfl (HR.out.own.rowA.alloc _) _ ⟨⟨#[98]⟩, ⟨#[110, 97]⟩, ⟨#[110, 98]⟩, 1, none, 0, []⟩ _ rfl (hnew rfl) rfl (by omega) (by simp; omega) ?_; intro v5 w5 hown5 hg5; (obtain ⟨A5, c5, rfl, _, _⟩ := Rd.of_own encArc_len rfl hown5); (have hR8 := HR.out.nx ((Nx.refl w3).alloc (.cells #[.string ⟨#[98]⟩, .string ⟨#[110, 97]⟩, .string ⟨#[110, 98]⟩, .int .i64 1, .slice none 0 0] 37))); (have hO6 := hR8.own.appA hg5 hown5 (fun a ha => by
          rcases List.mem_append.1 ha with ha | ha
          · exact ⟨hR8.own.smA a ha, hR8.own.each a ha⟩
          · simp at ha
            subst ha
            exact ⟨⟨by show 0 ≤ 400; omega, (show (⟨#[98]⟩ : ByteArray).size ≤ 1000000 by decide), (show (⟨#[110, 97]⟩ : ByteArray).size ≤ 1000000 by decide), (show (⟨#[110, 98]⟩ : ByteArray).size ≤ 1000000 by decide)⟩, World.ownsRow_nil _ _ _ _⟩)); (have hb5 := (hR8.row hR8.own.rowA (by decide) (Nat.le_refl _) hg5 hO6).1); (have hd5 := cell_of_row w5 g3 1 _ _ _ hb5); (have hf5 : w5.frozen? ⟨g3, 1, none⟩ = false := frozen_blk hb5); (have HO6 := hide hO6); clear hO6 hown5)
        go_meet
        have hR9 := RQ.set (j := 1) hR8 hR8.own.rowA (by decide) (Nat.le_refl _) hg5 HO6.out rfl
        rw [List.length_append] at hR9
        exact ⟨_, _, _, ns, _, bs, hn0, hn5, by rw [List.length_append]; show rs.length + 1 ≤ 10; omega, by omega, hR9.more (by omega)⟩
      · clear hr1 hr2
        go_upto_region 17 with fail
        refine rg17 w s g3 _ _ _ _ _ _ _ _ hR (by omega) (by omega) _ _ _ _ _ _ _ _ _ _ _ _ _ _ _ _ _ _ _ _ _ _ _ _ _ _ _ _ _ _ _ _ _ _ _ _ _ _ _ _ _ _ _ _ _ _ _ _ _ _ _ _ _ _ _ _ _ _ _ _ _ _ _ _ _ _ _ _ _ _ _ _ _ _ _ _ _ _ _ _ _ _ _ _ _ _ _ _ _ _ _ _ _ _ _ _ _ _ _ _ _ _ _ _ _ _ _ _ _ _ _ _ _ _ _ _ _ ?_
        refine hide ?_
        intro vB' bs' w' _ _ _ _ _ _ _ _ _ _ _ _ hl' hR'
        have hR2 := hR'.more (show k + 400 + 1 + 1 + 10 ≤ k + 470 by omega)
        clear hR hR'
        dsimp only [Exit.inBlock, Exit.then]
        go_wp2_with fail
        go_meet
        exact ⟨_, _, _, ns, rs, bs', hn0, hn5, by omega, by omega, hR2⟩
      · clear hr1 hr2
        have cb2 := hR.cellB
        go_wp2_with (go_at_call 31; refine (w_RevB (w.heap.size + 1) _ bs _ hR.own.rowB (by omega)).mono ?_; rintro e w5 ⟨rfl, bs', hbl', hown5, hg5⟩)
        go_meet
        exact ⟨_, _, _, ns, rs, bs', hn0, hn5, by omega, by omega, (hR.of_row hR.own.rowB (by decide) (Nat.le_refl _) hg5 (hR.own.appB hg5 hown5) rfl).more (by omega)⟩
  case rest =>
    obtain ⟨vN, vA, vB, ns, rs, bs, hn0, hn5, hr10, hb101, hR⟩ := hcut
    obtain ⟨A, B, C, ca, cb, cc, e1, e2, e3, _, _, _⟩ := hR.own.rd
    subst e1 e2 e3
    have bb0 := hR.cellN
    have bb1 := hR.cellA
    have bb2 := hR.cellB
    obtain ⟨cs, hr1, hr2⟩ := hR.res
    have s0 : wc.cell? ⟨w.heap.size, 0, none⟩ = some (cs[0]'(by omega)) := (cell_of_row wc _ 0 _ _ _ hr1).trans (Array.getElem?_eq_getElem (by omega))
    have s1 : wc.cell? ⟨w.heap.size, 1, none⟩ = some (cs[1]'(by omega)) := (cell_of_row wc _ 1 _ _ _ hr1).trans (Array.getElem?_eq_getElem (by omega))
    have s2 : wc.cell? ⟨w.heap.size, 2, none⟩ = some (cs[2]'(by omega)) := (cell_of_row wc _ 2 _ _ _ hr1).trans (Array.getElem?_eq_getElem (by omega))
    have hf0 : wc.frozen? ⟨w.heap.size, 0, none⟩ = false := frozen_blk hr1
    have hf1 : wc.frozen? ⟨w.heap.size, 1, none⟩ = false := frozen_blk hr1
    have hf2 : wc.frozen? ⟨w.heap.size, 2, none⟩ = false := frozen_blk hr1
    generalize cs[0] = y0 at *
    generalize cs[1] = y1 at *
    generalize cs[2] = y2 at *
    go_wp2_with fail
    have hset : ∀ u0 u1 u2, Gr w.heap.size wc (((wc.setCell ⟨w.heap.size, 0, none⟩ u0).setCell ⟨w.heap.size, 1, none⟩ u1).setCell ⟨w.heap.size, 2, none⟩ u2) := fun u0 u1 u2 => (((Gr.refl _ wc).setS (p := ⟨w.heap.size, 0, none⟩) (.inl rfl) u0).setS (p := ⟨w.heap.size, 1, none⟩) (.inl rfl) u1).setS (p := ⟨w.heap.size, 2, none⟩) (.inl rfl) u2
    have z0 : ∀ u0 u1 u2, (((wc.setCell ⟨w.heap.size, 0, none⟩ u0).setCell ⟨w.heap.size, 1, none⟩ u1).setCell ⟨w.heap.size, 2, none⟩ u2).cell? ⟨w.heap.size, 0, none⟩ = some u0 := fun u0 u1 u2 => cell_of_row _ _ 0 _ _ _ (heap_set (i := 2) (u := u2) (heap_set (i := 1) (u := u1) (heap_set (i := 0) (u := u0) hr1))) |>.trans (by simp [hr2])
    have z1 : ∀ u0 u1 u2, (((wc.setCell ⟨w.heap.size, 0, none⟩ u0).setCell ⟨w.heap.size, 1, none⟩ u1).setCell ⟨w.heap.size, 2, none⟩ u2).cell? ⟨w.heap.size, 1, none⟩ = some u1 := fun u0 u1 u2 => cell_of_row _ _ 1 _ _ _ (heap_set (i := 2) (u := u2) (heap_set (i := 1) (u := u1) (heap_set (i := 0) (u := u0) hr1))) |>.trans (by simp [hr2])
    have z2 : ∀ u0 u1 u2, (((wc.setCell ⟨w.heap.size, 0, none⟩ u0).setCell ⟨w.heap.size, 1, none⟩ u1).setCell ⟨w.heap.size, 2, none⟩ u2).cell? ⟨w.heap.size, 2, none⟩ = some u2 := fun u0 u1 u2 => cell_of_row _ _ 2 _ _ _ (heap_set (i := 2) (u := u2) (heap_set (i := 1) (u := u1) (heap_set (i := 0) (u := u0) hr1))) |>.trans (by simp [hr2])
    refine bodyPost_ret (v := .agg #[.slice A ns.length ca, .slice B rs.length cb, .slice C bs.length cc]) (by simp [results, Tryz.results4, go_sem, z0, z1, z2]) rfl ?_
    exact ⟨_, _, _, ns, rs, bs, rfl, (hR.own.gr (hset _ _ _) (by omega)).low (by omega), hn0, hn5, hr10, hb101,
      ((hR.gr_.setS (p := ⟨w.heap.size, 0, none⟩) (.inr (Nat.le_refl _)) _).setS (p := ⟨w.heap.size, 1, none⟩) (.inr (Nat.le_refl _)) _).setS (p := ⟨w.heap.size, 2, none⟩) (.inr (Nat.le_refl _)) _,
      hR.str.row (hset _ _ _) (fun j hj => by injection hj with hj; omega)⟩
end Go.Proofs.YtepbamacebjopaaGreatDoor
