/- The stream's zones. -/
import Derived.Test.YtncnmadiiaidfaaGreatDoorQG24
import Derived.Deep.DeepCutAuto
import Derived.Deep.AppendLies
namespace Go.Proofs.YtncnmadiiaidfaaGreatDoor
open Go.RowKit Go.Sort Go.Proofs Go.Shelf

/-- Three zones. -/
def StrZones (s k : Nat) (w : World) (e : Ending) (w' : World) : Prop :=
  ∃ (A : Option Addr) (c : Nat) (zs : List Zone), e = .returned (.slice A zs.length c) ∧ zs.length = 3 ∧ RdZones w' w.heap.size A zs ∧ Gr s w w' ∧ Str w' s k
def zL0 : List Zone := [⟨⟨#[122, 97]⟩, none, 0, []⟩, ⟨⟨#[122, 98]⟩, none, 0, []⟩, ⟨⟨#[122, 99]⟩, none, 0, []⟩]
def nL : List ByteArray := [⟨#[110, 97]⟩, ⟨#[110, 98]⟩, ⟨#[110, 99]⟩, ⟨#[110, 100]⟩, ⟨#[110, 101]⟩]
theorem nL_small : Small nL := by
  intro x hx
  simp [nL] at hx
  rcases hx with rfl | rfl | rfl | rfl | rfl <;> decide
theorem zL0_own {w : World} {cs : Array Value} (hc : cs.toList = zL0.flatMap encZone) : OwnZones (w.alloc (.cells cs 61)) w.heap.size (w.heap.size + 2) w.heap.size zL0 := by
  have h0 := own_lit (w := w.alloc (.cells cs 61)) (e := 61) (g := w.heap.size) (n := 3) (m := 3) (base := w.heap.size) (xs := zL0) encZone_len (hnew rfl) (Nat.le_refl _) hc rfl (by omega) (by unfold maxLen; omega)
  refine ⟨h0, fun i hi => ?_, fun i j hi hj _ b hb => ?_⟩
  · have hi' : i < 3 := hi
    have : i = 0 ∨ i = 1 ∨ i = 2 := by omega
    rcases this with rfl | rfl | rfl
    · exact ⟨World.ownsRow_nil _ _ _ _, (fun x hx => by cases hx), (show (2 : Nat) ≤ 1000000 by omega)⟩
    · exact ⟨World.ownsRow_nil _ _ _ _, (fun x hx => by cases hx), (show (2 : Nat) ≤ 1000000 by omega)⟩
    · exact ⟨World.ownsRow_nil _ _ _ _, (fun x hx => by cases hx), (show (2 : Nat) ≤ 1000000 by omega)⟩
  · have hi' : i < 3 := hi
    have : i = 0 ∨ i = 1 ∨ i = 2 := by omega
    rcases this with rfl | rfl | rfl
    all_goals cases hb

set_option maxRecDepth 100000 in
set_option maxHeartbeats 4000000 in
theorem w_Zones (s k : Nat) (w : World) (hS : Str w s k) (hk : k < 700000) :
    Calls Tryz.prog 4 #[.pointer (some ⟨s, 0, none⟩)] w (StrZones s (k + 20) w) := by
  have hsl := hS.lt
  have hown0 := (zL0_own (w := w) (cs := #[.string ⟨#[122, 97]⟩, .slice none 0 0, .string ⟨#[122, 98]⟩, .slice none 0 0, .string ⟨#[122, 99]⟩, .slice none 0 0]) rfl).nx ((Nx.refl _).alloc (.cells (nL.map Value.string).toArray 9))
  have HST := hide (And.intro hown0 (And.intro ((Gr.refl s w).alloc (.cells #[.string ⟨#[122, 97]⟩, .slice none 0 0, .string ⟨#[122, 98]⟩, .slice none 0 0, .string ⟨#[122, 99]⟩, .slice none 0 0] 61)) (hS.nx (((Nx.refl _).alloc (.cells #[.string ⟨#[122, 97]⟩, .slice none 0 0, .string ⟨#[122, 98]⟩, .slice none 0 0, .string ⟨#[122, 99]⟩, .slice none 0 0] 61)).alloc (.cells (nL.map Value.string).toArray 9)))))
  clear hown0 hS
  go_enter Tryz.func4, Tryz.ntmps4
  go_wp2_with fail
  obtain ⟨g0, hg0⟩ : ∃ g0, g0 = w.heap.size := ⟨_, rfl⟩
  have HLIT := hide (show ((w.alloc (.cells #[.string ⟨#[122, 97]⟩, .slice none 0 0, .string ⟨#[122, 98]⟩, .slice none 0 0, .string ⟨#[122, 99]⟩, .slice none 0 0] 61)).alloc (.cells (nL.map Value.string).toArray 9)).heap[g0 + 1]? = some (.cells (nL.map Value.string).toArray 9 (0, 0)) from hnew (by simp; omega))
  rw [← hg0] at HST ⊢
  have hgs : s < g0 := by omega
  have hgw1 : w.heap.size ≤ g0 := by omega
  have hgw2 : g0 ≤ w.heap.size := by omega
  clear hg0
  go_loopw [14] (fun i wr => ∃ (j : Nat) (zs : List Zone), j ≤ 5 ∧ i = .int .i64 j ∧ zs.length = 3 ∧ (∀ x ∈ zs, x.nodes.length ≤ j) ∧ OwnZones wr g0 (g0 + 2) g0 zs ∧ wr.heap[g0 + 1]? = some (.cells (nL.map Value.string).toArray 9 (0, 0)) ∧ Gr s w wr ∧ Str wr s (k + j)) (fun i _ => 5 - (intOf i).toNat)
  case atStart => exact ⟨0, zL0, by omega, rfl, rfl, by simp [zL0], HST.out.1, HLIT.out, HST.out.2.1.alloc _, HST.out.2.2⟩
  case round =>
    clear HST HLIT
    obtain ⟨j, zs, hj, rfl, hzl, hzn, hown, hlit, hgr, hSr⟩ := hrel
    have hsz := hgr.sz
    by_cases hjl : j < 5
    · have hjn : j < nL.length := hjl
      have c0 : wr.cell? ⟨g0 + 1, j, none⟩ = some (.string nL[j]) := (cell_of_row wr (g0 + 1) j _ _ _ hlit).trans (by rw [← Array.getElem?_toList]; simp [List.getElem?_map, List.getElem?_eq_getElem hjn])
      have hks := nL_small _ (List.getElem_mem hjn)
      generalize nL[j] = ky at *
      have hlt : g0 + 1 < wr.heap.size := (Array.getElem?_eq_some_iff.1 hlit).1
      have HLIT := hide hlit
      clear hlit
      go_wp2_with fail
      refine (w_Next 4 _ _ _ hSr (by omega) (by omega)).mono ?_
      rintro e w2 ⟨q, hq1, hq2, rfl, hg2, hS2⟩
      obtain ⟨q, rfl⟩ := Int.eq_ofNat_of_zero_le hq1
      have hown2 := hown.gr hg2 hgs (by omega)
      have hgr2 := hgr.trans hg2
      have hsz2 := hg2.sz
      have HL2 := hide ((World.grownBy.block (row := some s) hg2 (g0 + 1) hlt (by simp; omega)).trans HLIT.out)
      clear hown hgr hSr hg2 HLIT c0
      by_cases hq3 : q < 3
      · have t1 : decide ((q : Int) < 3) = true := decide_eq_true (by omega)
        have hql : q < zs.length := by omega
        have d0 := own_cell encZone_len rfl hown2.row q hql 1 _ rfl
        obtain ⟨hrq, hsq, hkq⟩ := hown2.each q hql
        have hlq := hzn zs[q] (List.getElem_mem hql)
        have HO2 := hide hown2
        have HRQ := hide hrq
        have HZN := hide hzn
        obtain ⟨iS, zS, e1, e2, e3, e4, e5⟩ := el_S.hi
        have E := hide (And.intro e1 (And.intro e2 (And.intro e3 (And.intro e4 e5))))
        unfold rowZ at HRQ
        obtain ⟨z, hz⟩ : ∃ z, z = zs[q] := ⟨_, rfl⟩
        have HZ := hide hz
        rw [← hz] at HRQ d0 hlq
        clear e1 e2 e3 e4 e5 hown2 hrq hzn hz hsq hkq
        go_wp2_with (at_builtin; refine wpList_append_lies _ rfl _ _ _ rfl (g0 + 2) _ iS zS 1 16 Tryz.underlying48 E.out.1 E.out.2.1 E.out.2.2.1 E.out.2.2.2.1 E.out.2.2.2.2 (by omega) (.slice z.a z.nodes.length z.cap) z.nodes.length (z.nodes.flatMap encS) rfl (HRQ.out.alloc _) _ 1 1 [.string ky] rfl rfl (news_of (hnew rfl) rfl) (by intro u hu; simp at hu; subst hu; rfl) (by omega) (by unfold maxLen; omega) (by omega) (by simp; omega) _ rfl ?_; intro g5 c5 w5 hown5 hg5 hat5 hlt5; (have hr5 := (HO2.out.row.alloc (.cells #[.string ky] 9)).kept hg5 (own_apart HO2.out.row HRQ.out (by decide))); (have d5 := own_cell encZone_len rfl hr5 q hql 1 _ rfl); (have f5 : w5.frozen? ⟨g0, q * 2 + 1, none⟩ = false := hr5.frozenAt (q * 2 + 1)); (have HO5 := hide hown5); (have HAT := hide hat5); clear hown5 hat5 hr5)
        go_roundw
        case rel =>
          have hz := HZ.out
          subst hz
          have hA := OwnZones.app (HO2.out.nx ((Nx.refl _).alloc (.cells #[.string ky] 9))) hql hg5 HO5.out HAT.out hks
          have hblk := own_blk_lt HRQ.out
          have hL5 : w5.heap[g0 + 1]? = some (.cells (nL.map Value.string).toArray 9 (0, 0)) := (hg5.block (g0 + 1) (by simp; omega) (fun e => by have := hblk _ e.symm; omega)).trans ((((Nx.refl _).alloc _).block (g0 + 1) (by omega)).trans HL2.out)
          have hl5 : g0 + 1 < w5.heap.size := (Array.getElem?_eq_some_iff.1 hL5).1
          refine ⟨j + 1, _, by omega, by go_num, by rw [List.length_set]; exact hzl, ?_, hA, ?_, ?_, ?_⟩
          · intro x hx
            rcases List.mem_or_eq_of_mem_set hx with hx | rfl
            · have := HZN.out x hx; omega
            · simp; omega
          · exact (((Gr.refl g0 w5).setS (p := ⟨g0, q * 2 + 1, none⟩) (.inl rfl) (.slice (some ⟨g5, 0, none⟩) (zs[q].nodes.length + 1) c5)).block (g0 + 1) hl5 (by simp)).trans hL5
          · exact ((hgr2.alloc (.cells #[.string ky] 9)).grown hg5 (fun b hb => .inr (by have := hblk b hb; omega))).setS (p := ⟨g0, q * 2 + 1, none⟩) (.inr hgw1) _
          · exact (((hS2.nx ((Nx.refl _).alloc (.cells #[.string ky] 9))).row hg5 (fun b hb => by have := hblk b hb; omega)).row ((Gr.refl g0 _).setS (p := ⟨g0, q * 2 + 1, none⟩) (.inl rfl) (.slice (some ⟨g5, 0, none⟩) (zs[q].nodes.length + 1) c5)) (fun b hb => by injection hb with hb; omega)).more (by omega)
        case measure => simp [intOf]; omega
      · have t1 : decide ((q : Int) < 3) = false := decide_eq_false (by omega)
        go_wp2_with fail
        go_roundw
        case rel => exact ⟨j + 1, zs, by omega, by go_num, hzl, fun x hx => (by have := hzn x hx; omega), hown2, HL2.out, hgr2, hS2.more (by omega)⟩
        case measure => simp [intOf]; omega
    · have ej : j = 5 := by omega
      subst ej
      clear hjl hj hlit
      have HOW := hide hown
      have HZN := hide hzn
      clear hown hzn
      go_wp2_with fail
      refine (w_Flip _ _ _ _ hSr (by omega) (by omega)).mono ?_
      rintro e w2 ⟨fl, rfl, hg2, hS2⟩
      have HW2 := hide (HOW.out.gr hg2 hgs (by omega))
      have hgr2 := hgr.trans hg2
      have hsz2 := hgr2.sz
      clear HOW hgr hSr hg2
      cases fl
      · go_wp2_with fail
        go_ret
        exact ⟨some ⟨g0, 0, none⟩, 3, zs, (by rw [hzl]; first | done | rfl), hzl, by
          have := HW2.out.rd (by omega) (fun x hx => by have := HZN.out x hx; omega)
          exact ⟨this.1.low (by omega), fun x hx => ⟨(this.2 x hx).1.low (by omega), (this.2 x hx).2⟩⟩, hgr2, hS2.more (by omega)⟩
      · go_wp2_with fail
        refine (w_Next 3 _ _ _ hS2 (by omega) (by omega)).mono ?_
        rintro e w3 ⟨q, hq1, hq2, rfl, hg3, hS3⟩
        obtain ⟨q, rfl⟩ := Int.eq_ofNat_of_zero_le hq1
        have hql : q < zs.length := by omega
        have HW3 := hide (HW2.out.gr hg3 hgs (by omega))
        have hgr3 := hgr2.trans hg3
        have hsz3 := hg3.sz
        clear HW2 hgr2 hS2 hg3
        have d0 : w3.cell? ⟨g0, q * 2, none⟩ = some (.string zs[q].key) := by have := own_cell encZone_len rfl HW3.out.row q hql 0 _ rfl; simpa using this
        have d1 : w3.cell? ⟨g0, q * 2 + 1, none⟩ = some (.slice zs[q].a zs[q].nodes.length zs[q].cap) := own_cell encZone_len rfl HW3.out.row q hql 1 _ rfl
        obtain ⟨hrx, hsx, hkx⟩ := HW3.out.each q hql
        have hlx := HZN.out zs[q] (List.getElem_mem hql)
        have HRX := hide (rd_ownv encS_len rfl hrx)
        have HSX := hide hsx
        have HKX := hide hkx
        have HLX := hide hlx
        have hs3 := hS3.lt
        clear hrx hsx hkx hlx
        have hglt := (HW3.out.row.lt g0 rfl).2
        go_upto_region 11 with fail
        have D0 := hide d0
        have D1 := hide d1
        generalize zs[q].a = xa at *
        generalize zs[q].cap = xc at *
        generalize zs[q].nodes = xr at *
        generalize zs[q].key = xk at *
        obtain ⟨iS, zS, e1, e2, e3, e4, e5⟩ := el_S.hi
        have E1 := hide e1
        have E2 := hide e2
        have E3 := hide e3
        have E4 := hide e4
        have E5 := hide e5
        clear e1 e2 e3 e4 e5
        go_region_law
          (first
            | (refine step_append_lies _ rfl _ _ _ rfl w3.heap.size _ iS zS 1 16 Tryz.underlying48 E1.out E2.out E3.out E4.out E5.out (by omega) v4 xr.length (xr.flatMap encS) rfl (HV4.out.alloc _) _ 1 1 [.string y2] rfl rfl (news_of (hnew rfl) rfl) (by intro u hu; simp at hu; subst hu; rfl) (by omega) (by have := HLX.out; unfold maxLen; omega) (by have := HLX.out; omega) (by have := hgwT.sz; simp at this ⊢; omega) _ rfl ?_; intro g5 c5 w5 hown5 hg5 hat5 hlt5; (have hg35 : Gr s w3 w5 := (hgwT.alloc (.cells #[.string y2] 9)).grown hg5 (fun j hj => .inr (by have := own_blk_lt HV4.out j hj; omega))); (have HW5 := hide (HW3.out.gr hg35 hgs (by omega))); (have d5 : w5.cell? ⟨g0, q * 2, none⟩ = some (.string xk) := World.grownBy.cell hg35 D0.out (by simp; omega)); (have d5b : w5.cell? ⟨g0, q * 2 + 1, none⟩ = some (.slice xa xr.length xc) := World.grownBy.cell hg35 D1.out (by simp; omega)); (have f5 : w5.frozen? ⟨g0, q * 2, none⟩ = false := HW5.out.row.frozenAt _); (have f5b : w5.frozen? ⟨g0, q * 2 + 1, none⟩ = false := HW5.out.row.frozenAt _); (have f6 : (w5.setCell ⟨g0, q * 2, none⟩ (.string y)).frozen? ⟨g0, q * 2 + 1, none⟩ = false := ((HW5.out.row.stored (q * 2) (.string y)).1).frozenAt _); (have HO5 := hide hown5); clear hown5)
            | (go_simp; first
              | (go_at_call 22; refine (w_CloneS _ _ _ _ _ (HRX.out.gr (s := s) (by repeat (first | exact hgwA | refine Gr.drew ?_ | refine Gr.alloc ?_ _)) (by omega)) (by have := HLX.out; omega)).mono ?_; rintro e wc ⟨v4, rfl, hownc, hnc⟩; (have hszc := hnc.sz); (have hgwC : Gr s w3 wc := by refine Gr.then_nx ?_ hnc; repeat (first | exact hgwA | refine Gr.drew ?_ | refine Gr.alloc ?_ _)))
              | (go_at_call 21; first
                | (refine (w_Some _ [⟨#[110, 97]⟩, ⟨#[122, 122]⟩, ⟨#[]⟩] _ _ _ _ (hSs.nx (by repeat (first | exact Nx.refl _ | refine Nx.drew ?_ | refine Nx.alloc ?_ _ | refine Nx.trans ?_ hnc))) (by omega) (by first | exact hnew rfl | exact hnew_drew rfl | exact (hnc.block _ (by simp)).trans (hnew rfl) | exact (hnc.block _ (by have h9 := hgs1.sz; simp at h9 ⊢; omega)).trans ((World.grownBy.block (row := some s) hgs1 _ (by simp) (by simp; omega)).trans (hnew_drew (by simp))) | exact (hnc.block _ (by have h9 := hgs1.sz; simp at h9 ⊢; omega)).trans ((World.grownBy.block (row := some s) hgs1 _ (by simp; omega) (by simp; omega)).trans ((((Nx.refl _).alloc _).block _ (by simp)).trans (hnew (by simp))))) (by first | omega | (simp at hszc; omega)) rfl (by simp) (by simp)).mono ?_; rintro e wt ⟨y2, hy2, rfl, hgt, hSt⟩;  (have HV4 : Hid (wt.ownsRow w3.heap.size 9 1 v4 xr.length (xr.flatMap encS)) := hide (by first | exact (own_gr hownc hgt (by omega)).mono (by omega) | exact (own_gr (hownc.alloc _) hgt (by omega)).mono (by omega) | exact (own_gr hownc hgt (by first | omega | (simp; omega))).mono (by first | omega | (simp; omega)))); (have hgwT : Gr s w3 wt := by refine Gr.trans ?_ hgt; repeat (first | exact hgwC | refine Gr.drew ?_ | refine Gr.alloc ?_ _)))
                | (refine (w_Some _ [xk, ⟨#[]⟩, ⟨#[122, 97]⟩] _ _ _ _ (hS3.nx (by repeat (first | exact Nx.refl _ | refine Nx.drew ?_ | refine Nx.alloc ?_ _))) (by omega) (by first | exact hnew_drew rfl | exact hnew_drew (by simp) | exact hnew (by simp) | exact ((((Nx.refl _).alloc _).block _ (by simp)).trans (hnew (by simp)))) (by first | omega | (simp; omega)) rfl (by simp) (by simp)).mono ?_; rintro e ws ⟨y, hy, rfl, hgs1, hSs⟩; (have hgwA : Gr s w3 ws := by refine Gr.trans ?_ hgs1; repeat (first | exact Gr.refl _ _ | refine Gr.drew ?_ | refine Gr.alloc ?_ _)); (have hszs := hgwA.sz); (have dS : ws.cell? ⟨g0, q * 2 + 1, none⟩ = some (.slice xa xr.length xc) := World.grownBy.cell hgwA D1.out (by simp; omega)); (have dSA : ∀ o, (ws.alloc o).cell? ⟨g0, q * 2 + 1, none⟩ = some (.slice xa xr.length xc) := fun o => (Below.cell ((Nx.refl ws).alloc o) (p := ⟨g0, _, none⟩) (show g0 < ws.heap.size by have := hgwA.sz; omega)).trans dS)))))
        all_goals
          (go_wp2_with fail
           go_ret
           have HTW := OwnZones.twist (b2 := w3.heap.size) (nodes := xr ++ [y2]) (ky := y) HW5.out hql (by omega) (by omega) (by rw [List.flatMap_append]; exact HO5.out) (by simp) (fun t ht => by
             rcases List.mem_append.1 ht with ht | ht
             · exact HSX.out t ht
             · simp at ht; subst ht; simp at hy2; rcases hy2 with rfl | rfl | rfl <;> decide) (by simp at hy; rcases hy with h | h | h <;> rw [h] <;> first | exact HKX.out | decide) (by have := HLX.out; simp; omega) (fun x hx => by have := HZN.out x hx; omega)
           exact ⟨some ⟨g0, 0, none⟩, 3, zs.set q ⟨y, some ⟨g5, 0, none⟩, c5, xr ++ [y2]⟩, (by rw [List.length_set, hzl]; first | done | rfl), (by rw [List.length_set]; exact hzl), ⟨HTW.1.low hgw1, fun x hx => ⟨(HTW.2 x hx).1.low hgw1, (HTW.2 x hx).2⟩⟩,
             ((hgr3.trans hg35).setS (p := ⟨g0, q * 2, none⟩) (.inr hgw1) (.string y)).setS (p := ⟨g0, q * 2 + 1, none⟩) (.inr hgw1) _,
             ((((hSt.nx ((Nx.refl _).alloc _)).row hg5 (fun j hj => by have := own_blk_lt HV4.out j hj; omega)).row ((Gr.refl g0 _).setS (p := ⟨g0, q * 2, none⟩) (.inl rfl) (.string y)) (fun j hj => by injection hj with hj; omega)).row ((Gr.refl g0 _).setS (p := ⟨g0, q * 2 + 1, none⟩) (.inl rfl) _) (fun j hj => by injection hj with hj; omega)).more (by omega)⟩)
end Go.Proofs.YtncnmadiiaidfaaGreatDoor
