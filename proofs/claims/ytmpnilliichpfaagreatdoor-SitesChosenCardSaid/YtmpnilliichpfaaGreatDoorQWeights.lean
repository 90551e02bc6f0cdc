/- Weights: the stream's. -/
import Derived.Test.YtmpnilliichpfaaGreatDoorQG14
import Derived.Test.YtmpnilliichpfaaGreatDoorQG27
import Derived.Test.YtmpnilliichpfaaGreatDoorQG8
import Derived.Test.YtmpnilliichpfaaGreatDoorQG17
import Derived.Deep.RegionHeldLaw
import Derived.Deep.DeepCutAuto
namespace Go.Proofs.YtmpnilliichpfaaGreatDoor
open Go.RowKit

theorem el_Wgt : ElemOf Tryz.prog 34 117 2 24 := ElemOf.mk' (z := .agg #[.string ByteArray.empty, .int .i64 0]) Tryz.underlying34 (by kernel_rfl) rfl
def StrWs (s k most : Nat) (w : World) (e : Ending) (w' : World) : Prop := ∃ (D : Option Addr) (cd : Nat) (l : List Wgt), e = .returned (.slice D l.length cd) ∧ l.length ≤ most ∧ Rd w' w.heap.size D 2 encW l ∧ Gr s w w' ∧ Str w' s k
set_option maxRecDepth 100000 in
set_option maxHeartbeats 4000000 in
theorem w_Weights (s k lo : Nat) (A B C : Option Addr) (n1 n2 ca cb cc : Nat) (ns : List Node) (w : World) (hS : Str w s k) (hk : k < 600000) (hR : Rd w lo A 3 encNode ns) (hl : ns.length ≤ 400) (hlo : s < lo) :
    Calls Tryz.prog 13 #[.pointer (some ⟨s, 0, none⟩), .agg #[.slice A ns.length ca, .slice B n1 cb, .slice C n2 cc]] w (StrWs s (k + 2 * ns.length + 5) ns.length w) := by
  have hsl := hS.lt
  obtain ⟨wa, hwa⟩ : ∃ wa, wa = w.alloc (.cells #[.slice A ns.length ca, .slice B n1 cb, .slice C n2 cc] 30) := ⟨_, rfl⟩
  have hna : Nx w wa := hwa ▸ (Nx.refl w).alloc _
  have hgw : w.heap.size < wa.heap.size := by rw [hwa]; simp
  have b0 : wa.cell? ⟨w.heap.size, 0, none⟩ = some (.slice A ns.length ca) := by rw [hwa]; go_simp
  have HRN := hide (hR.nx hna)
  have HSA := hide (hS.nx hna)
  have HWA := hide hwa
  have HNA := hide hna
  have hsa : s < wa.heap.size := by omega
  clear hwa hna hR hS
  have hsz := HNA.out.sz
  generalize hn : ns.length = n at *
  have HN := hide hn
  clear hn
  go_enter Tryz.func13, Tryz.ntmps13
  go_upto_region 1 with fail
  rw [← HWA.out]
  generalize hg : w.heap.size = g at *
  go_wp2_with fail
  clear b0
  go_loopw [5, 12] (fun v u wr => ∃ (j : Nat) (l : List Wgt), j ≤ n ∧ u = .int .i64 (j : Int) ∧ l.length ≤ j ∧ wr.ownsRow wa.heap.size 117 2 v l.length (l.flatMap encW) ∧ Gr s wa wr ∧ Str wr s (k + 2 * j)) (fun _ u _ => n - (intOf u).toNat)
  case atStart => exact ⟨0, [], Nat.zero_le _, rfl, Nat.zero_le _, World.ownsRow_nil _ _ _ _, Gr.refl _ _, HSA.out⟩
  case round =>
    obtain ⟨j, l, hj, rfl, hlj, hown, hgr, hSr⟩ := hrel
    have HO := hide hown
    have HGR := hide hgr
    have HSR := hide hSr
    have HLJ := hide hlj
    have hszr := hgr.sz
    clear hown hgr hSr hlj
    by_cases hlt : j < n
    · have hlt' : j < ns.length := by have := HN.out; omega
      obtain ⟨yb, yo, rfl, _, hyb, hyb1, hyc⟩ := (HRN.out.gr HGR.out hlo).open_ (Nx.refl wr) (by omega)
      have c0 : wr.cell? ⟨yb, yo + j * 3, none⟩ = some (.string ns[j].key) := hyc j hlt' 0 _ rfl
      have c1 : wr.cell? ⟨yb, yo + j * 3 + 1, none⟩ = some (.int .i64 ns[j].x) := hyc j hlt' 1 _ rfl
      have c2 : wr.cell? ⟨yb, yo + j * 3 + 2, none⟩ = some (.int .i64 ns[j].y) := hyc j hlt' 2 _ rfl
      clear hyc
      generalize ns[j].key = key at *
      generalize ns[j].x = nx at *
      generalize ns[j].y = ny at *
      obtain ⟨wb, hwb⟩ : ∃ wb, wb = wr.alloc (.cells #[.string key, .int .i64 nx, .int .i64 ny] 39) := ⟨_, rfl⟩
      have hnb : Nx wr wb := hwb ▸ (Nx.refl wr).alloc _
      have hsb : wr.heap.size < wb.heap.size := by rw [hwb]; simp
      have HLT := hide (fun x (hx : u5.ownBlock = some x) => (HO.out.lt x hx).2)
      have k0 : wb.cell? ⟨wr.heap.size, 0, none⟩ = some (.string key) := by rw [hwb]; go_simp
      have HOB := hide (own_nx HO.out hnb)
      have HGB := hide (HGR.out.then_nx hnb)
      have HSB := hide (HSR.out.nx hnb)
      have HK0 := hide (fun W (h : Gr s wb W) => World.grownBy.cell (row := some s) h k0 (by simp; omega))
      have HWB := hide hwb
      clear hwb hnb k0
      go_upto_region 5 with fail
      rw [← HWB.out]
      clear HWB c0 c1 c2
      generalize wr.heap.size = p7 at *
      go_wp2_with fail
      refine (w_Flip 4 s _ wb HSB.out (by omega) (by omega)).mono ?_
      rintro e w3 ⟨fl, rfl, hg3, hS3⟩
      have HO3 := hide (own_gr HOB.out hg3 hsa)
      have HG3 := hide (HGB.out.trans hg3)
      have HK3 := hide hg3
      cases fl
      · have m0 := HK0.out w3 HK3.out
        have hd := (Nx.refl w3).drew
        have HOD := hide (own_nx HO3.out hd)
        have HGD := hide (HG3.out.then_nx hd)
        have HSD := hide (hS3.nx hd)
        have HKD := hide (HK3.out.then_nx hd)
        go_upto_region 6 with fail
        refine wp_region_held_drew (S := fun w' => w'.cell? ⟨p7, 0, none⟩ = some (.string key)) (by kernel_rfl) ?_ (fun hHeld => ?_)
        · exact m0
        clear m0 hd hS3 hg3
        refine wpAnyH_take (i := 0) (oi := ⟨some 19, _, _, _, _, _⟩) (v := ?_) rfl (by kernel_rfl) (by kernel_rfl) (by kernel_rfl) (fun _ _ _ h => h) (Or.inl ⟨by rfl, ?_⟩) (by assumption) ?_
        rotate_left 1
        · intro w hSw
          (try dsimp only at hSw)
          go_simp
          try with_reducible rfl
        try simp only [Act.put, List.setIfInBounds_toArray, List.set_cons_zero, List.set_cons_succ]
        refine wpAnyH_take (i := 1) (oi := ⟨some 20, _, _, _, _, _⟩) (v := ?_) rfl (by kernel_rfl) (by kernel_rfl) (by kernel_rfl) (fun _ _ _ h => h) (Or.inl ⟨by rfl, ?_⟩) (by assumption) ?_
        rotate_left 1
        · intro w hSw
          (try dsimp only at hSw)
          go_simp
          try with_reducible rfl
        try simp only [Act.put, List.setIfInBounds_toArray, List.set_cons_zero, List.set_cons_succ]
        refine wpAnyH_take (i := 2) (oi := ⟨some 21, _, _, _, _, _⟩) (v := ?_) rfl (by kernel_rfl) (by kernel_rfl) (by kernel_rfl) (fun _ _ _ h => h) (Or.inl ⟨by rfl, ?_⟩) (by assumption) ?_
        rotate_left 1
        · intro w hSw
          (try dsimp only at hSw)
          go_simp
          try with_reducible rfl
        try simp only [Act.put, List.setIfInBounds_toArray, List.set_cons_zero, List.set_cons_succ]
        refine wpAnyH_take (i := 3) (oi := ⟨some 22, _, _, _, _, _⟩) (v := ?_) rfl (by kernel_rfl) (by kernel_rfl) (by kernel_rfl) (fun _ _ _ h => h) (Or.inl ⟨by rfl, ?_⟩) (by assumption) ?_
        rotate_left 1
        · intro w hSw
          (try dsimp only at hSw)
          go_simp
          try with_reducible rfl
        try simp only [Act.put, List.setIfInBounds_toArray, List.set_cons_zero, List.set_cons_succ]
        generalize w3.drew = wd at *
        have hsd := HSD.out.lt
        refine wpAnyH_ready (rs := [4]) (by kernel_rfl) (by simp) ?_
        refine AllReadyH.cons rfl (fun K hK => ?_) AllReadyH.nil
        go_simp
        refine hK.out _ _ (HK0.out _ (HKD.out.alloc _)) (fun hHeld => ?_)
        clear hK K
        try simp only [Act.put, List.setIfInBounds_toArray, List.set_cons_zero, List.set_cons_succ]
        refine wpAnyH_ready (rs := [5]) (by kernel_rfl) (by simp) ?_
        refine AllReadyH.cons rfl (fun K hK => ?_) AllReadyH.nil
        go_simp
        go_at_call 15
        refine (w_PickI wd.heap.size [0, 1, 5, 10] _ _ _ _ (HSD.out.nx ((Nx.refl wd).alloc _)) (by omega) (hnew rfl) (by omega) rfl (by simp) (by simp)).mono ?_
        rintro e w4 ⟨z, hz, rfl, hg4, hS4⟩
        have HO4 := hide (own_gr (HOD.out.alloc _) hg4 hsa)
        have HG4 := hide ((HGD.out.alloc _).trans hg4)
        have HK4 := hide ((HKD.out.alloc _).trans hg4)
        have HS4 := hide hS4
        clear hg4 hS4 hz
        go_simp
        refine hK.out _ _ (HK0.out _ HK4.out) (fun hHeld => ?_)
        clear hK K
        try simp only [Act.put, List.setIfInBounds_toArray, List.set_cons_zero, List.set_cons_succ]
        refine wpAnyH_take (i := 6) (oi := ⟨some 25, _, _, _, _, _⟩) (v := ?_) rfl (by kernel_rfl) (by kernel_rfl) (by kernel_rfl) (fun _ _ _ h => h) (Or.inl ⟨by rfl, ?_⟩) (by assumption) ?_
        rotate_left 1
        · intro w hSw
          (try dsimp only at hSw)
          go_simp
          try with_reducible rfl
        try simp only [Act.put, List.setIfInBounds_toArray, List.set_cons_zero, List.set_cons_succ]
        refine wpAnyH_ready (rs := [7]) (by kernel_rfl) (by simp) ?_
        refine AllReadyH.cons rfl (fun K hK => ?_) AllReadyH.nil
        go_simp
        refine hK.out _ _ (HK0.out _ (HK4.out.alloc _)) (fun hHeld => ?_)
        clear hK K
        try simp only [Act.put, List.setIfInBounds_toArray, List.set_cons_zero, List.set_cons_succ]
        refine wpAnyH_ready (rs := [8]) (by kernel_rfl) (by simp) ?_
        refine AllReadyH.cons rfl (fun K hK => ?_) AllReadyH.nil
        refine step_app rfl _ _ _ rfl el_Wgt encW encW_len encW_one (by omega) (by omega) wa.heap.size _ l rfl (HO4.out.alloc _) _ ⟨key, z⟩ _ rfl (hnew rfl) rfl (by have := HLJ.out; omega) (by have := HG4.out.sz; simp; omega) ?_
        intro v9 w9 hown9 hg9 _
        have HO9 := hide hown9
        have HG9 := hide ((HG4.out.alloc (.cells #[.string key, .int .i64 z] 117)).grown hg9 (fun x hx => .inr (own_blk_lt HO4.out x hx)))
        have HS9 := hide ((HS4.out.nx ((Nx.refl w4).alloc (.cells #[.string key, .int .i64 z] 117))).row hg9 (fun x hx => Nat.lt_of_lt_of_le hsa (own_blk_lt HO4.out x hx)))
        have HC9 := hide (World.grownBy.cell hg9 (HK0.out _ (HK4.out.alloc _)) (show some p7 ≠ _ from fun e => absurd (HLT.out p7 e.symm) (Nat.lt_irrefl _)))
        clear hown9 hg9
        refine hK.out _ _ HC9.out (fun hHeld => ?_)
        clear hK K
        try simp only [Act.put, List.setIfInBounds_toArray]
        refine wpAnyH_take (i := 9) (oi := ⟨some 5, _, _, _, _, _⟩) (v := ?_) rfl (by kernel_rfl) (by kernel_rfl) (by kernel_rfl) (fun _ _ _ h => h) (Or.inl ⟨by rfl, ?_⟩) (by assumption) ?_
        rotate_left 1
        · intro w hSw
          (try dsimp only at hSw)
          go_simp
          try with_reducible rfl
        try simp only [Act.put]
        refine wpAnyH_done (by kernel_rfl) ?_ _
        go_wp2
        go_roundw
        case rel => exact ⟨j + 1, l ++ [⟨key, z⟩], by omega, by go_num, by have := HLJ.out; simp; omega, HO9.out, HG9.out, HS9.out.more (by omega)⟩
        case measure => simp [intOf]; omega
      · go_wp2_with fail
        go_roundw
        case rel => exact ⟨j + 1, l, by omega, by go_num, by have := HLJ.out; omega, HO3.out, HG3.out, hS3.more (by omega)⟩
        case measure => simp [intOf]; omega
    · obtain rfl : n = j := by omega
      have HE := hide (fun (W : World) (l' : List Wgt) (D : Option Addr) (cd : Nat) (k' : Nat) (h1 : Gr s wa W) (h2 : Str W s k') (hk' : k' ≤ k + 2 * n + 5) (h3 : l'.length ≤ n) (h4 : Rd W wa.heap.size D 2 encW l') => (show StrWs s (k + 2 * n + 5) n w (.returned (.slice D l'.length cd)) W from ⟨D, cd, l', rfl, h3, h4.low (by omega), (Gr.of_nx HNA.out).trans h1, h2.more hk'⟩))
      rcases HO.out.2 with ⟨rfl, h0⟩ | ⟨g5, cap, cur, rfl, hg5, hh5, hcap5, _⟩
      · have hl0 := List.eq_nil_of_length_eq_zero h0
        subst hl0
        clear h0 HO
        go_wp2_with fail
        go_ret
        exact HE.out wr [] none 0 _ HGR.out HSR.out (by omega) (Nat.zero_le _) Rd.nil
      · have hlb : l.length ≤ n := HLJ.out
        have hg5l := lt_of_heap hh5
        clear hh5
        obtain ⟨m, hm⟩ : ∃ m, m = l.length := ⟨_, rfl⟩
        have HM := hide hm
        rw [← hm]
        rw [← hm] at hcap5 hlb
        have HO := hide (show wr.ownsRow wa.heap.size 117 2 (.slice (some ⟨g5, 0, none⟩) m cap) m (l.flatMap encW) by rw [hm]; exact HO.out)
        clear hm
        have hsr := HSR.out.lt
        have hgs : s ≠ g5 := by omega
        by_cases h0 : m = 0
        · subst h0
          go_wp2_with fail
          go_ret
          have hl0 : l = [] := List.eq_nil_of_length_eq_zero HM.out.symm
          subst hl0
          exact HE.out wr [] (some ⟨g5, 0, none⟩) cap _ HGR.out HSR.out (by omega) (Nat.zero_le _) Rd.nil
        · have t1 : decide ((m : Int) > 0) = true := decide_eq_true (by omega)
          have t1' : decide ((0 : Int) < (m : Int)) = true := t1
          go_wp2_with fail
          refine (w_Flip 15 s _ wr HSR.out (by omega) (by omega)).mono ?_
          rintro e w3 ⟨fl, rfl, hg3, hS3⟩
          have HO3 := hide (own_gr HO.out hg3 hsa)
          have HG3 := hide (HGR.out.trans hg3)
          have HS3 := hide hS3
          clear hg3 hS3
          cases fl
          · go_wp2_with fail
            go_ret
            rw [HM.out]
            exact HE.out w3 l _ cap _ HG3.out HS3.out (by omega) (by rw [← HM.out]; exact hlb) (by obtain ⟨D', c', e, h, _⟩ := Rd.of_own encW_len HM.out HO3.out; injection e with e1 _ _; rw [e1]; exact h)
          · go_wp2_with fail
            refine (w_Next (m : Int) s _ w3 HS3.out (by omega) (by omega)).mono ?_
            rintro e w4 ⟨r, hr1, hr2, rfl, hg4, hS4⟩
            obtain ⟨r, rfl⟩ := Int.eq_ofNat_of_zero_le hr1
            have hrm : r < m := by omega
            have hrl : r < l.length := by have := HM.out; omega
            have HO4 := hide (own_gr HO3.out hg4 hsa)
            have HG4 := hide (HG3.out.trans hg4)
            have HS4 := hide hS4
            have q1 : (0 : Int) ≤ (r : Int) := by omega
            have q2 : (r : Int) < (m : Int) := by omega
            clear hg4 hS4
            have e0 := own_cell encW_len HM.out.symm HO4.out r hrl 0 (.string l[r].node) rfl
            have e0' : w4.cell? ⟨g5, r * 2, none⟩ = some (.string l[r].node) := e0
            clear e0
            have hs4 := HS4.out.lt
            go_wp2_with fail
            refine (w_Some w4.heap.size [l[r].node, ⟨#[122, 122]⟩, ⟨#[110, 97]⟩] _ s _ _ (HS4.out.nx ((Nx.refl w4).alloc _)) (by omega) (hnew rfl) (by omega) rfl (by simp) (by simp)).mono ?_
            rintro e w5 ⟨nk, _, rfl, hg5', hS5⟩
            have HO5 := hide (own_gr (HO4.out.alloc _) hg5' hsa)
            have HG5 := hide ((HG4.out.alloc _).trans hg5')
            have HS5 := hide hS5
            clear hg5' hS5 e0'
            go_wp2_with fail
            refine (w_Odd 0 1000000000 s _ w5 HS5.out (by omega) (by omega) (by omega)).mono ?_
            rintro e w6 ⟨mk, _, _, rfl, hg6, hS6⟩
            have HO6 := hide (own_gr HO5.out hg6 hsa)
            have HG6 := hide (HG5.out.trans hg6)
            have HS6 := hide hS6
            clear hg6 hS6
            have e1 : w6.cell? ⟨g5, r * 2, none⟩ = some (.string l[r].node) := own_cell encW_len HM.out.symm HO6.out r hrl 0 (.string l[r].node) rfl
            have hfz : ∀ (W : World) (xs : List Value) j, W.ownsRow wa.heap.size 117 2 (.slice (some ⟨g5, 0, none⟩) m cap) m xs → W.frozen? ⟨g5, j, none⟩ = false := by
              intro W xs j h
              rcases h.2 with ⟨e, _⟩ | ⟨g', cap', cur', e, _, hh, _⟩
              · cases e
              · injection e with e _ _
                injection e with e
                injection e with e _ _
                subst e
                exact frozen_blkQ hh
            have f1 := hfz w6 _ (r * 2) HO6.out
            have HO7 := hide (own_set encW_len HM.out.symm HO6.out r hrl 0 (by omega) (.string nk) ⟨nk, l[r].many⟩ rfl (r * 2) (by omega))
            have hll : (l.set r ⟨nk, l[r].many⟩).length = m := by rw [List.length_set]; exact HM.out.symm
            have e2 : (w6.setCell ⟨g5, r * 2, none⟩ (.string nk)).cell? ⟨g5, r * 2 + 1, none⟩ = some (.int .i64 l[r].many) := own_cell encW_len hll HO7.out r (by rw [hll]; exact hrm) 1 (.int .i64 l[r].many) (by rw [List.getElem_set_self]; rfl)
            have f2 := hfz _ _ (r * 2 + 1) HO7.out
            have HO8 := hide (own_set encW_len hll HO7.out r (by rw [hll]; exact hrm) 1 (by omega) (.int .i64 mk) ⟨nk, mk⟩ (by rw [List.getElem_set_self]; rfl) (r * 2 + 1) rfl)
            have hl8 : m = ((l.set r ⟨nk, l[r].many⟩).set r ⟨nk, mk⟩).length := by rw [List.length_set]; exact hll.symm
            have HL8 := hide hl8
            clear hfz hll hl8
            go_wp2_with fail
            go_ret
            rw [HL8.out]
            have hgr2 := ((Gr.refl g5 w6).setS (p := ⟨g5, r * 2, none⟩) (.inl rfl) (.string nk)).setS (p := ⟨g5, r * 2 + 1, none⟩) (.inl rfl) (.int .i64 mk)
            exact HE.out _ _ _ cap (k + 2 * n + 1 + 1 + 1 + 2) ((HG6.out.setS (p := ⟨g5, r * 2, none⟩) (.inr hg5) _).setS (p := ⟨g5, r * 2 + 1, none⟩) (.inr hg5) _) (HS6.out.row hgr2 (fun x hx => by injection hx with hx; omega)) (by omega) (by rw [← HL8.out]; exact hlb) (by obtain ⟨D', c', e, h, _⟩ := Rd.of_own encW_len HL8.out HO8.out; injection e with e1 _ _; rw [e1]; exact h)
end Go.Proofs.YtmpnilliichpfaaGreatDoor
