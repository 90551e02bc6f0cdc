/- Why the reference refuses an event. -/
import Derived.Test.YtfkmbeppckelfaaGreatDoorQRfU
import Derived.Deep.DeepCutAuto
import Derived.Deep.RegionWith
import Derived.BigQuiet
namespace Go.Proofs.YtfkmbeppckelfaaGreatDoor
open Go.RowKit Go.Maps

theorem idx_bools (a b c d : Bool) (w : World) : (Instr.index 142 (.agg #[.bool a, .bool b, .bool c, .bool d]) (.int .i64 0)).run Tryz.prog w = .ok (.bool a) w := by kernel_rfl
theorem intW_inj (a b : Int) (h : Value.int .i64 a = Value.int .i64 b) : a = b := by injection h
theorem must_map (k : Int) : ((if k = 6 then some (2 : Int) else if k = 4 then some 3 else if k = 3 then some 2 else none : Option Int)).getD 0 = mustR k := by
  unfold mustR
  by_cases h3 : k = 3
  · subst h3; decide
  · by_cases h4 : k = 4
    · subst h4; decide
    · by_cases h6 : k = 6
      · subst h6; decide
      · simp [h3, h4, h6]
/-- The reasons, by the walk's own tests. -/
def whyB (is_ free onOff stop k1 k2 k5 k8 ur br care : Bool) (must how : Int) : Int :=
  if (k1 && is_) || (k8 && br) then 6
  else if !k1 && ur && !is_ then 8
  else if ((k2 || k5) && !free) || (must != 0 && how != must) then 11
  else if onOff && !care then 13
  else if stop then 16 else 0
theorem whyR_B (D : DayR) (x : Ev) (s : St) (hs : s = (D.rides x.ride).getD st0) : whyR D x = whyB (D.rides x.ride).isSome (s.how == 1 || s.how == 2) (x.kind == 3 || x.kind == 4) (brokenR D x.car && (x.kind == 2 || x.kind == 3 || x.kind == 7)) (x.kind == 1) (x.kind == 2) (x.kind == 5) (x.kind == 8) (uRide x.kind) (brokenR D x.car) (decide (s.car = x.car)) (mustR x.kind) s.how := by
  unfold whyR whyB
  rw [← hs]
  have e1 : ((x.kind = 1 ∧ (D.rides x.ride).isSome = true) ∨ (x.kind = 8 ∧ brokenR D x.car = true)) ↔ (((x.kind == 1) && (D.rides x.ride).isSome) || ((x.kind == 8) && brokenR D x.car)) = true := by simp
  have e2 : (x.kind ≠ 1 ∧ uRide x.kind = true ∧ (D.rides x.ride).isSome = false) ↔ ((!(x.kind == 1)) && uRide x.kind && !(D.rides x.ride).isSome) = true := by simp [and_assoc]
  have e3 : (((x.kind = 2 ∨ x.kind = 5) ∧ ¬ (s.how = 1 ∨ s.how = 2)) ∨ (mustR x.kind ≠ 0 ∧ s.how ≠ mustR x.kind)) ↔ ((((x.kind == 2) || (x.kind == 5)) && !(s.how == 1 || s.how == 2)) || (mustR x.kind != 0 && s.how != mustR x.kind)) = true := by simp
  have e4 : ((x.kind = 3 ∨ x.kind = 4) ∧ s.car ≠ x.car) ↔ ((x.kind == 3 || x.kind == 4) && !decide (s.car = x.car)) = true := by simp
  have e5 : (brokenR D x.car = true ∧ (x.kind = 2 ∨ x.kind = 3 ∨ x.kind = 7)) ↔ (brokenR D x.car && (x.kind == 2 || x.kind == 3 || x.kind == 7)) = true := by simp [or_assoc]
  simp only [e1, e2, e3, e4, e5]
set_option maxRecDepth 100000 in
set_option maxHeartbeats 4000000 in
theorem w_why (d rb cb bb N : Nat) (D : DayR) (x : Ev) (w : World) (h : DayRW w d rb cb bb N D) (hok : okEv x) :
    Calls Tryz.prog 95 #[.pointer (some ⟨d, 0, none⟩), .agg (evA x)] w fun e w' => e = .returned (.int .i64 (whyR D x)) ∧ Nx w w' := by
  rw [whyR_B D x _ rfl]
  have hkr := domS_1000 hok.ride
  have hkc := domS_1000 hok.car
  have hki := wf_15 hok.kind
  obtain ⟨so, no, at_, ki, ri, ca, nd, up, dn, fo, nu⟩ := x
  simp only at hkr hkc hki
  unfold evA
  obtain ⟨w1, hw1⟩ : ∃ w1, w1 = w.alloc (.cells #[.string so, .int .i64 no, .int .i64 at_, .int .i64 ki, .string ri, .string ca, .string nd, .int .i64 up, .int .i64 dn, .string fo, .int .i64 nu] 31 (0, 0)) := ⟨_, rfl⟩
  obtain ⟨bx, hbx⟩ : ∃ bx, bx = w.heap.size := ⟨_, rfl⟩
  have hn1 : Nx w w1 := hw1 ▸ (Nx.refl w).alloc _
  have hb1 : w1.heap[bx]? = some (.cells #[.string so, .int .i64 no, .int .i64 at_, .int .i64 ki, .string ri, .string ca, .string nd, .int .i64 up, .int .i64 dn, .string fo, .int .i64 nu] 31 (0, 0)) := by rw [hw1, hbx]; exact heap_alloc_new w _
  have hD1 := h.nx hn1
  have hnd : Nx w1 w1.drew := (Nx.refl w1).drew
  have hna : Nx w1 (w1.alloc (.cells #[.string ⟨#[]⟩, .string ⟨#[]⟩, .int .i64 0, .int .i64 0, .int .i64 0, .int .i64 0, .int .i64 0] 59 (0, 0))).drew := ((Nx.refl w1).alloc _).drew
  have hl1 := look_stRk (hD1.rides.nx hnd) hkr
  have hl2 := look_stRk (hD1.rides.nx hna) hkr
  obtain ⟨d0, d1, d2⟩ := dayR_cells hD1.blk
  have hdl := (Array.getElem?_eq_some_iff.1 hD1.blk).1
  have hbl := (Array.getElem?_eq_some_iff.1 hb1).1
  have a3 : w1.cell? ⟨bx, 3, none⟩ = some (.int .i64 ki) := cell_of_row w1 _ 3 _ _ _ hb1
  have a4 : w1.cell? ⟨bx, 4, none⟩ = some (.string ri) := cell_of_row w1 _ 4 _ _ _ hb1
  have a5 : w1.cell? ⟨bx, 5, none⟩ = some (.string ca) := cell_of_row w1 _ 5 _ _ _ hb1
  obtain ⟨s, hs⟩ : ∃ s, s = (D.rides ri).getD st0 := ⟨_, rfl⟩
  obtain ⟨is_, his⟩ : ∃ b, b = (D.rides ri).isSome := ⟨_, rfl⟩
  rw [← hs, ← his] at hl1 hl2
  simp only
  rw [← hs, ← his]
  have HD1 := hide hD1
  have HB1 := hide hb1
  have HN1 := hide hn1
  obtain ⟨rid, car, how, sup, sdn, son, soff⟩ := s
  unfold stV staV at hl1 hl2
  simp only at hl1 hl2 ⊢
  obtain ⟨must, hmu⟩ : ∃ m, m = mustR ki := ⟨_, rfl⟩
  obtain ⟨br, hbr⟩ : ∃ b, b = (D.broken ca).getD false := ⟨_, rfl⟩
  obtain ⟨free, hfree⟩ : ∃ b, b = (how == 1 || how == 2) := ⟨_, rfl⟩
  obtain ⟨onOff, hon⟩ : ∃ b, b = (ki == 3 || ki == 4) := ⟨_, rfl⟩
  obtain ⟨stop, hst⟩ : ∃ b, b = (br && (ki == 2 || ki == 3 || ki == 7)) := ⟨_, rfl⟩
  obtain ⟨k1, hk1⟩ : ∃ b, b = (ki == 1) := ⟨_, rfl⟩
  obtain ⟨k2, hk2⟩ : ∃ b, b = (ki == 2) := ⟨_, rfl⟩
  obtain ⟨k5, hk5⟩ : ∃ b, b = (ki == 5) := ⟨_, rfl⟩
  obtain ⟨k8, hk8⟩ : ∃ b, b = (ki == 8) := ⟨_, rfl⟩
  obtain ⟨ur, hur⟩ : ∃ b, b = uRide ki := ⟨_, rfl⟩
  obtain ⟨care, hcare⟩ : ∃ b, b = decide (car = ca) := ⟨_, rfl⟩
  rw [show brokenR D ca = br from hbr.symm, ← hmu, ← hfree, ← hon, ← hst, ← hk1, ← hk2, ← hk5, ← hk8, ← hur, ← hcare]
  have HK1 := hide hk1
  have HK2 := hide hk2
  have HK5 := hide hk5
  have HK8 := hide hk8
  have HUR := hide hur
  have HCARE := hide hcare
  have HMU := hide hmu
  have HBRO := hide hbr
  have HFREE := hide hfree
  have HON := hide hon
  have HST := hide hst
  clear h hD1 hb1 hn1 hnd hna hs his hok hmu hbr hfree hon hst hk1 hk2 hk5 hk8 hur hcare
  go_enter Tryz.func95, Tryz.ntmps95
  go_upto_region 1 with fail
  rw [← hw1, ← hbx]
  clear hw1 hbx
  go_cut [5, 6] (fun v5 v6 wx => ∃ p : Nat, v5 = .pointer (some ⟨p, 0, none⟩) ∧ v6 = .bool is_ ∧ wx.heap[p]? = some (staO ⟨rid, car, how, sup, sdn, son, soff⟩) ∧ Nx w1 wx)
  case first =>
    go_region
    all_goals (go_wp2; go_meet)
    all_goals exact ⟨_, rfl, rfl, heap_alloc_new w1 _, ((Nx.refl w1).alloc _).drew⟩
  case rest =>
    obtain ⟨p, rfl, rfl, hpo, hnc⟩ := hcut
    have HD2 := hide (HD1.out.nx hnc)
    have hb2 := (hnc.block _ (Array.getElem?_eq_some_iff.1 HB1.out).1).trans HB1.out
    have HN2 := hide (HN1.out.trans hnc)
    obtain ⟨w2, hw2⟩ : ∃ w2, w2 = wc := ⟨_, rfl⟩
    rw [← hw2] at hpo HD2 hb2 HN2 ⊢
    have HPO := hide hpo
    have HB2 := hide hb2
    obtain ⟨d0, d1, d2⟩ := dayR_cells HD2.out.blk
    have hdl2 := (Array.getElem?_eq_some_iff.1 HD2.out.blk).1
    have hbl2 := (Array.getElem?_eq_some_iff.1 hb2).1
    have hpl2 := (Array.getElem?_eq_some_iff.1 hpo).1
    have a3 : w2.cell? ⟨bx, 3, none⟩ = some (.int .i64 ki) := cell_of_row w2 _ 3 _ _ _ hb2
    have a5 : w2.cell? ⟨bx, 5, none⟩ = some (.string ca) := cell_of_row w2 _ 5 _ _ _ hb2
    have s1 := (sta_cells hpo).2.1
    have s2 := (sta_cells hpo).2.2.1
    simp only at s1 s2
    clear hl1 hl2 hw2 hpo hb2 hnc
    go_upto_region 2 with fail
    go_cut [7] (fun v7 wx => v7 = .bool free ∧ wx = w2)
    case first =>
      go_wp2_with fail
      all_goals go_meet
      all_goals (rw [HFREE.out]; simp_all)
    case rest =>
      obtain ⟨rfl, hw3⟩ := hcut
      rw [hw3]
      clear hw3
      have hmm := @run_makeMap Tryz.prog
      have kd3 : domI 3 := by unfold domI; decide
      have kd4 : domI 4 := by unfold domI; decide
      have kd6 : domI 6 := by unfold domI; decide
      obtain ⟨v1, r1, M1, g1⟩ := (MgI.made (P := Tryz.prog) (K := 3) (ek := Value.int .i64) (dom := domI) (R := plainElem Tryz.prog 3) (dv := fun z : Int => (.lit (.int .i64 z) : DataW Unit)) w2).upd intE law_intE intW_inj Tryz.underlying88 (by decide) kd3 (key_int kd3) (2 : Int) (by decide)
      obtain ⟨v2, r2, M2, g2⟩ := M1.upd intE law_intE intW_inj Tryz.underlying88 (by decide) kd4 (key_int kd4) (3 : Int) (by decide)
      obtain ⟨v3, r3, M3, g3⟩ := M2.upd intE law_intE intW_inj Tryz.underlying88 (by decide) kd6 (key_int kd6) (2 : Int) (by decide)
      have hlm := (M3.look intE law_intE Tryz.underlying88 (z := (0 : Int)) (by decide) (zeroIntE v3) hki (key_int hki)).1
      have hmk : ((fun k' : Int => if k' = 6 then some (2 : Int) else (fun k' : Int => if k' = 4 then some (3 : Int) else (fun k' : Int => if k' = 3 then some (2 : Int) else none) k') k') ki).getD 0 = mustR ki := must_map ki
      rw [hmk, ← HMU.out] at hlm
      have hnv : Nx w2 v3 := (((((Nx.refl w2).alloc (.map #[] 0)).grown g1 (fun j hj => by injection hj with hj; omega)).grown g2 (fun j hj => by injection hj with hj; omega)).grown g3 (fun j hj => by injection hj with hj; omega))
      have a33 := nx_cell hnv hbl2 a3
      have HNV := hide hnv
      clear hmk M1 M2 M3 g1 g2 g3 hnv
      go_upto_region 3 with fail
      go_cut [8] (fun v8 wx => v8 = .int .i64 must ∧ Nx w2 wx)
      case first =>
        go_wp2_with fail
        go_meet
        exact ⟨rfl, HNV.out⟩
      case rest =>
        obtain ⟨rfl, hnd⟩ := hcut
        obtain ⟨w3, hw3⟩ : ∃ w3, w3 = wc := ⟨_, rfl⟩
        rw [← hw3] at hnd ⊢
        clear hw3 r1 r2 r3 hlm hmm a33
        have HD3 := hide (HD2.out.nx hnd)
        have HB3 := hide ((hnd.block _ (Array.getElem?_eq_some_iff.1 HB2.out).1).trans HB2.out)
        have HP3 := hide ((hnd.block _ (Array.getElem?_eq_some_iff.1 HPO.out).1).trans HPO.out)
        have HN3 := hide (HN2.out.trans hnd)
        have b3 := nx_cell hnd hbl2 a3
        have b5 := nx_cell hnd hbl2 a5
        have t1 := nx_cell hnd hpl2 s1
        have t2 := nx_cell hnd hpl2 s2
        have f2 := nx_cell hnd hdl2 d2
        have hdl3 := Nat.lt_of_lt_of_le hdl2 hnd.sz
        have hbl3 := Nat.lt_of_lt_of_le hbl2 hnd.sz
        have hpl3 := Nat.lt_of_lt_of_le hpl2 hnd.sz
        have hlb := fun n => look_boR (HD3.out.brk.nx ((Nx.refl w3).drewN n)) hkc
        rw [← HBRO.out] at hlb
        clear a3 a5 s1 s2 d0 d1 d2 hbl2 hdl2 hpl2 hnd HB2 HPO
        go_upto_region 4 with fail
        go_cut [9] (fun v9 wx => v9 = .bool onOff ∧ wx = w3)
        case first =>
          have q3 : (ki == 3) = true ∨ (ki == 3) = false := by cases (ki == 3) <;> simp
          have q4 : (ki == 4) = true ∨ (ki == 4) = false := by cases (ki == 4) <;> simp
          rcases q3 with q3 | q3 <;> rcases q4 with q4 | q4
          all_goals
            go_wp2_with fail
            go_meet
            exact ⟨by rw [HON.out]; simp [q3, q4], rfl⟩
        case rest =>
          obtain ⟨rfl, hw4⟩ := hcut
          rw [hw4]
          clear hw4
          go_upto_region 5 with fail
          go_cut [10] (fun v10 wx => v10 = .bool stop ∧ Nx w3 wx)
          case first =>
            cases br with
            | false =>
              go_quiet (fail)
              go_wp2
              go_meet
              exact ⟨by rw [HST.out]; rfl, (Nx.refl _).drewN _⟩
            | true =>
              have q2 : (ki == 2) = true ∨ (ki == 2) = false := by cases (ki == 2) <;> simp
              have q3 : (ki == 3) = true ∨ (ki == 3) = false := by cases (ki == 3) <;> simp
              rcases q2 with q2 | q2 <;> rcases q3 with q3 | q3
              all_goals
                go_quiet (fail)
                go_wp2
                go_meet
                exact ⟨by rw [HST.out]; simp [q2, q3], (Nx.refl _).drewN _⟩
          case rest =>
            obtain ⟨rfl, hnd⟩ := hcut
            obtain ⟨w4, hw4⟩ : ∃ w4, w4 = wc := ⟨_, rfl⟩
            rw [← hw4] at hnd ⊢
            clear hw4
            have c3 := nx_cell hnd hbl3 b3
            have c5 := nx_cell hnd hbl3 b5
            have u1 := nx_cell hnd hpl3 t1
            have u2 := nx_cell hnd hpl3 t2
            have g2 := nx_cell hnd hdl3 f2
            have hdl4 := Nat.lt_of_lt_of_le hdl3 hnd.sz
            have hbl4 := Nat.lt_of_lt_of_le hbl3 hnd.sz
            have hpl4 := Nat.lt_of_lt_of_le hpl3 hnd.sz
            have hlb4 := fun n => look_boR ((HD3.out.brk.nx hnd).nx ((Nx.refl w4).drewN n)) hkc
            rw [← HBRO.out] at hlb4
            have HN4 := hide (HN3.out.trans hnd)
            clear b3 b5 t1 t2 f2 hlb hdl3 hbl3 hpl3 hnd
            go_upto_region 6 with fail
            go_cut [64] (fun v wx => v = .bool (k1 && is_) ∧ wx = w4)
            case first =>
              have q1 := HK1.out.symm
              cases k1 <;> cases is_
              all_goals
                go_wp2_with fail
                go_meet
                exact ⟨rfl, rfl⟩
            case rest =>
              obtain ⟨rfl, hw5⟩ := hcut
              rw [hw5]
              clear hw5
              obtain ⟨e1, he1⟩ : ∃ b, b = (k1 && is_) := ⟨_, rfl⟩
              rw [← he1]
              have HE1 := hide he1
              clear he1
              cases e1 with
              | true =>
                have hv := hide (show whyB is_ free onOff stop k1 k2 k5 k8 ur br care must how = 6 by unfold whyB; rw [← HE1.out]; rfl)
                go_wp2_with fail
                go_ret
                exact ⟨by rw [hv.out] <;> rfl, HN4.out⟩
              | false =>
              go_upto_region 7 with fail
              go_cut [64] (fun v wx => v = .bool (k8 && br) ∧ Nx w4 wx)
              case first =>
                have q8 := HK8.out.symm
                cases k8 <;> cases br
                all_goals
                  go_quiet (fail)
                  go_wp2
                  go_meet
                  exact ⟨rfl, (Nx.refl _).drewN _⟩
              case rest =>
                obtain ⟨rfl, hnd⟩ := hcut
                obtain ⟨w5, hw5⟩ : ∃ w5, w5 = wc := ⟨_, rfl⟩
                rw [← hw5] at hnd ⊢
                clear hw5
                have r3 := nx_cell hnd hbl4 c3
                have r5 := nx_cell hnd hbl4 c5
                have y1 := nx_cell hnd hpl4 u1
                have y2 := nx_cell hnd hpl4 u2
                have hbl5 := Nat.lt_of_lt_of_le hbl4 hnd.sz
                have hpl5 := Nat.lt_of_lt_of_le hpl4 hnd.sz
                have HN5 := hide (HN4.out.trans hnd)
                clear c3 c5 u1 u2 g2 hlb4 hdl4 hbl4 hpl4 hnd
                obtain ⟨e2, he2⟩ : ∃ b, b = (k8 && br) := ⟨_, rfl⟩
                rw [← he2]
                have HE2 := hide he2
                clear he2
                cases e2 with
                | true =>
                  have hv := hide (show whyB is_ free onOff stop k1 k2 k5 k8 ur br care must how = 6 by unfold whyB; rw [← HE1.out, ← HE2.out]; rfl)
                  go_wp2_with fail
                  go_ret
                  exact ⟨by rw [hv.out] <;> rfl, HN5.out⟩
                | false =>
                go_upto_region 9 with fail
                go_cut [83] (fun v wx => v = .bool (!k1 && ur && !is_) ∧ Nx w5 wx)
                case first =>
                  have q1 := HK1.out.symm
                  have i0 := idx_bools
                  have HU := hide (fun W => w_usesR ki W)
                  rw [← HUR.out] at HU
                  cases k1 with
                  | true =>
                    have q1n : (ki != 1) = false := by simp [bne, q1]
                    go_wp2_with fail
                    go_meet
                    exact ⟨rfl, Nx.refl _⟩
                  | false =>
                    have q1n : (ki != 1) = true := by simp [bne, q1]
                    cases ur <;> cases is_
                    all_goals
                      go_wp2_with (go_at_call 80; refine (HU.out _).mono ?_; rintro e w7 ⟨rfl, hn7⟩)
                      go_meet
                      exact ⟨rfl, hn7⟩
                case rest =>
                  obtain ⟨rfl, hnd⟩ := hcut
                  obtain ⟨w6, hw6⟩ : ∃ w6, w6 = wc := ⟨_, rfl⟩
                  rw [← hw6] at hnd ⊢
                  clear hw6
                  have m3 := nx_cell hnd hbl5 r3
                  have m5 := nx_cell hnd hbl5 r5
                  have n1 := nx_cell hnd hpl5 y1
                  have n2 := nx_cell hnd hpl5 y2
                  have HN6 := hide (HN5.out.trans hnd)
                  clear r3 r5 y1 y2 hbl5 hpl5 hnd
                  obtain ⟨e3, he3⟩ : ∃ b, b = (!k1 && ur && !is_) := ⟨_, rfl⟩
                  rw [← he3]
                  have HE3 := hide he3
                  clear he3
                  cases e3 with
                  | true =>
                    have hv := hide (show whyB is_ free onOff stop k1 k2 k5 k8 ur br care must how = 8 by unfold whyB; rw [← HE1.out, ← HE2.out, ← HE3.out]; rfl)
                    go_wp2_with fail
                    go_ret
                    exact ⟨by rw [hv.out] <;> rfl, HN6.out⟩
                  | false =>
                  go_upto_region 11 with fail
                  go_cut [97] (fun v wx => v = .bool ((k2 || k5) && !free) ∧ wx = w6)
                  case first =>
                    have q2 := HK2.out.symm
                    have q5 := HK5.out.symm
                    cases k2 <;> cases k5 <;> cases free
                    all_goals
                      go_wp2_with fail
                      go_meet
                      exact ⟨rfl, rfl⟩
                  case rest =>
                    obtain ⟨rfl, hw7⟩ := hcut
                    rw [hw7]
                    clear hw7
                    obtain ⟨e4, he4⟩ : ∃ b, b = ((k2 || k5) && !free) := ⟨_, rfl⟩
                    rw [← he4]
                    have HE4 := hide he4
                    clear he4
                    cases e4 with
                    | true =>
                      have hv := hide (show whyB is_ free onOff stop k1 k2 k5 k8 ur br care must how = 11 by unfold whyB; rw [← HE1.out, ← HE2.out, ← HE3.out, ← HE4.out]; rfl)
                      go_wp2_with fail
                      go_ret
                      exact ⟨by rw [hv.out] <;> rfl, HN6.out⟩
                    | false =>
                    go_upto_region 12 with fail
                    go_cut [97] (fun v wx => v = .bool (must != 0 && how != must) ∧ wx = w6)
                    case first =>
                      have qm : (must != 0) = true ∨ (must != 0) = false := by cases (must != 0) <;> simp
                      have qh : (how != must) = true ∨ (how != must) = false := by cases (how != must) <;> simp
                      rcases qm with qm | qm <;> rcases qh with qh | qh
                      all_goals
                        go_wp2_with fail
                        go_meet
                        exact ⟨by rw [qm, qh] <;> rfl, rfl⟩
                    case rest =>
                      obtain ⟨rfl, hw8⟩ := hcut
                      rw [hw8]
                      clear hw8
                      obtain ⟨e5, he5⟩ : ∃ b, b = (must != 0 && how != must) := ⟨_, rfl⟩
                      rw [← he5]
                      have HE5 := hide he5
                      clear he5
                      cases e5 with
                      | true =>
                        have hv := hide (show whyB is_ free onOff stop k1 k2 k5 k8 ur br care must how = 11 by unfold whyB; rw [← HE1.out, ← HE2.out, ← HE3.out, ← HE4.out, ← HE5.out]; rfl)
                        go_wp2_with fail
                        go_ret
                        exact ⟨by rw [hv.out] <;> rfl, HN6.out⟩
                      | false =>
                      have te : (car.toList == ca.toList) = care := by rw [eqS_iff]; exact HCARE.out.symm
                      have te2 : (car.toList != ca.toList) = !care := by rw [bne, te]
                      have hv := hide (show whyB is_ free onOff stop k1 k2 k5 k8 ur br care must how = (if onOff && !care then 13 else if stop then 16 else 0) by unfold whyB; rw [← HE1.out, ← HE2.out, ← HE3.out, ← HE4.out, ← HE5.out]; rfl)
                      cases onOff <;> cases care <;> cases stop
                      all_goals
                        go_wp2_with fail
                        go_ret
                        exact ⟨by rw [hv.out] <;> rfl, HN6.out⟩
end Go.Proofs.YtfkmbeppckelfaaGreatDoor
