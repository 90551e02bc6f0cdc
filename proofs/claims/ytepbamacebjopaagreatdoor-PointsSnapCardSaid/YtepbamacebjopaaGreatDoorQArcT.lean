/- How long an arc takes: the reference. -/
import Derived.Test.YtepbamacebjopaaGreatDoorQRoadT
import Derived.Test.YtepbamacebjopaaGreatDoorQG23
import Derived.Test.YtepbamacebjopaaGreatDoorQG0
import Derived.Test.YtepbamacebjopaaGreatDoorQG12
import Derived.Deep.AppendLies
import Derived.Deep.Onto
import Derived.Deep.RegionHeld3
import Derived.Deep.DeepCutAuto
namespace Go.Proofs.YtepbamacebjopaaGreatDoor
open Go.RowKit Go.Proofs Go.Shelf

theorem line_floor (k y : Knot) (t : Int) (hd : 1 ≤ y.at_ - k.at_) : k.time + (y.time - k.time) * (t - k.at_) / (y.at_ - k.at_) = lineI k y t := by
  unfold lineI
  have e : k.time * (y.at_ - t) + y.time * (t - k.at_) = (y.time - k.time) * (t - k.at_) + (y.at_ - k.at_) * k.time := by
    rw [Int.mul_sub, Int.mul_sub, Int.sub_mul, Int.mul_sub, Int.mul_sub, Int.sub_mul, Int.mul_comm y.at_ k.time, Int.mul_comm k.at_ k.time]
    omega
  rw [e, Int.add_mul_ediv_left _ _ (by omega)]
  omega
/-- The knots with the one behind the last. -/
def ringK (l : List Knot) : List Knot := l ++ [⟨dayMs, (l.getD 0 default).time⟩]
theorem ring_at {l : List Knot} {i : Nat} (hi : i < l.length) : (ringK l)[i]'(by unfold ringK; simp; omega) = l[i] := by
  unfold ringK; rw [List.getElem_append_left hi]
theorem ring_after {l : List Knot} {i : Nat} (hi : i < l.length) : (ringK l)[i + 1]'(by unfold ringK; simp; omega) = afterK l i := by
  unfold ringK afterK
  by_cases h : i + 1 < l.length
  · rw [List.getElem_append_left h, if_pos h, knot_at h]
  · rw [List.getElem_append_right (by omega), if_neg h]; simp

set_option maxRecDepth 100000 in
set_option maxHeartbeats 4000000 in
theorem w_ArcTime (lo : Nat) (a : Arc) (at_ : Int) (w : World) (hK : Rd w lo a.ka 2 encKnot a.knots) (hk : KOk a.knots) (ha : 0 ≤ at_ ∧ at_ ≤ 345686399999) :
    Calls Tryz.prog 137 #[.agg #[.string a.key, .string a.from_, .string a.to_, .int .i64 a.long, .slice a.ka a.knots.length a.kc], .int .i64 at_] w fun e w' => e = .returned (.int .i64 (timeI a.knots at_)) ∧ Nx w w' := by
  have hpos := hk.pos
  have hle := hk.le
  have htb : 0 ≤ at_ % 86400000 ∧ at_ % 86400000 ≤ 86399999 := by omega
  obtain ⟨t, ht⟩ : ∃ t, t = at_ % 86400000 := ⟨_, rfl⟩
  rw [← ht] at htb
  have hrem : Int.tmod at_ 86400000 = t := by rw [ht, Int.tmod_eq_emod_of_nonneg ha.1]
  have HTI := hide (show timeI a.knots at_ = lineI (a.knots.getD (segI a.knots t) default) (afterK a.knots (segI a.knots t)) t by rw [ht]; rfl)
  have HOK := hide hk
  obtain ⟨wa, hwa⟩ : ∃ wa, wa = w.alloc (.cells #[.string a.key, .string a.from_, .string a.to_, .int .i64 a.long, .slice a.ka a.knots.length a.kc] 37) := ⟨_, rfl⟩
  have hna : Nx w wa := hwa ▸ (Nx.refl w).alloc _
  have hgw : w.heap.size < wa.heap.size := by rw [hwa]; simp
  have b4 : wa.cell? ⟨w.heap.size, 4, none⟩ = some (.slice a.ka a.knots.length a.kc) := by rw [hwa]; go_simp
  have HKA := hide (hK.nx hna)
  obtain ⟨b, off, hka, _, hb, _, hc⟩ := (hK.nx hna).open_ (Nx.refl wa) hpos
  have cz : wa.cell? ⟨b, off + 1, none⟩ = some (.int .i64 a.knots[0].time) := by have := hc 0 hpos 1 _ rfl; simpa using this
  rw [← knot_at hpos] at cz
  rw [hka] at b4 HKA hwa ⊢
  clear hc hK hk ht
  generalize a.knots = ks at *
  generalize hz0 : (ks.getD 0 default).time = z0 at *
  have HZ0 := hide hz0
  clear hz0
  have HCL := hide (fun W hx => w_CloneK lo (some ⟨b, off, none⟩) a.kc ks W hx (by omega))
  generalize timeI ks at_ = V at *
  generalize hn : ks.length = n at *
  have HN := hide hn
  clear hn
  obtain ⟨iK, zK, e1, e2, e3, e4, e5⟩ := el_Knot.hi
  have E1 := hide e1
  have E2 := hide e2
  have E3 := hide e3
  have E4 := hide e4
  have E5 := hide e5
  clear e1 e2 e3 e4 e5
  go_enter Tryz.func137, Tryz.ntmps137
  go_upto_region 2 with fail
  rw [← hwa]
  have HWA := hide hwa
  clear hwa
  generalize w.heap.size = g0 at *
  have q0 : (0 : Int) < (n : Int) := by omega
  go_cut [6] (fun v wx => wx.ownsRow wa.heap.size 78 2 v (n + 1) ((ringK ks).flatMap encKnot) ∧ Nx wa wx)
  case first =>
    go_region_law
      (first
        | (go_simp; go_at_call 46; refine (HCL.out _ (HKA.out.nx (by repeat (first | with_reducible exact Nx.refl _ | with_reducible refine Nx.drew ?_ | with_reducible refine Nx.alloc ?_ _)))).mono ?_; rintro e wc ⟨v4, rfl, hownc, hnc⟩; (have hnac : Nx wa wc := Nx.trans (by repeat (first | with_reducible exact Nx.refl _ | with_reducible refine Nx.drew ?_ | with_reducible refine Nx.alloc ?_ _)) hnc); (have cb4 := nx_cell hnac hgw b4); (have cbz := nx_cell hnac hb cz); (have HV4 : Hid (wc.ownsRow wa.heap.size 78 2 v4 n (ks.flatMap encKnot)) := hide (hownc.mono (by simp))))
        | (refine step_append_lies _ rfl _ _ _ rfl wa.heap.size _ iK zK 2 16 Tryz.underlying35 E1.out E2.out E3.out E4.out E5.out (by omega) v4 n (ks.flatMap encKnot) rfl (by first | exact HV4.out | exact HV4.out.alloc _) _ 1 1 [.int .i64 dayMs, .int .i64 z0] rfl rfl (by first | exact news_of (hnew rfl) rfl | exact news_of ((hnc.block _ (by simp)).trans (hnew_drew rfl)) rfl) (by intro u hu; simp at hu; rcases hu with rfl | rfl <;> rfl) (by omega) (by unfold maxLen; omega) (by omega) (by have := hnac.sz; simp <;> omega) _ rfl ?_; intro g5 c5 w5 hown5 hg5 hat5 hlt5))
    all_goals (go_wp2; go_meet)
    all_goals
      have e : (ringK ks).flatMap encKnot = ks.flatMap encKnot ++ [.int .i64 dayMs, .int .i64 z0] := by
        unfold ringK; rw [List.flatMap_append, HZ0.out]; rfl
      refine ⟨by rw [e]; exact hown5, ?_⟩
      first
        | exact hnac.grown hg5 (own_blk_lt HV4.out)
        | exact (hnac.alloc _).grown hg5 (own_blk_lt HV4.out)
  case rest =>
    obtain ⟨hown, hx1⟩ := hcut
    obtain ⟨A6, c6, ev, hR6, _⟩ := Rd.of_own encKnot_len (by unfold ringK; simp [HN.out]) hown
    have HR6 := hide hR6
    have hrl : (ringK ks).length = n + 1 := by unfold ringK; simp [HN.out]
    have HRL := hide hrl
    rw [hrl] at ev
    subst ev
    clear hown hR6 hrl E1 E2 E3 E4 E5 HCL
    have n1 : IntKind.i64.wrap (((n + 1 : Nat) : Int) - 1) = (n : Int) := by rw [IntWalk.i64_in _ (by omega)]; omega
    go_wp2_with fail
    go_loopw [26] (fun i wr => ∃ k : Nat, k < n ∧ i = .int .i64 k ∧ (ks.getD k default).at_ ≤ t ∧ Nx wc wr) (fun i _ => n - (intOf i).toNat)
    case atStart => exact ⟨0, hpos, rfl, by rw [HOK.out.first]; exact htb.1, Nx.refl _⟩
    case round =>
      obtain ⟨k, hk, rfl, hkt, hbw⟩ := hrel
      have hk' : k < ks.length := by have := HN.out; omega
      obtain ⟨b6, off6, rfl, hlo6, hb6, hbr6, hc⟩ := HR6.out.open_ hbw (by have := HRL.out; omega)
      have c0 : wr.cell? ⟨b6, off6 + k * 2, none⟩ = some (.int .i64 ((ringK ks)[k]'(by have := HRL.out; omega)).at_) := hc k _ 0 _ rfl
      have c1 : wr.cell? ⟨b6, off6 + k * 2 + 1, none⟩ = some (.int .i64 ((ringK ks)[k]'(by have := HRL.out; omega)).time) := hc k _ 1 _ rfl
      have c2 : wr.cell? ⟨b6, off6 + (k + 1) * 2, none⟩ = some (.int .i64 ((ringK ks)[k + 1]'(by have := HRL.out; omega)).at_) := hc (k + 1) _ 0 _ rfl
      have c3 : wr.cell? ⟨b6, off6 + (k + 1) * 2 + 1, none⟩ = some (.int .i64 ((ringK ks)[k + 1]'(by have := HRL.out; omega)).time) := hc (k + 1) _ 1 _ rfl
      rw [ring_at hk'] at c0 c1
      rw [ring_after hk'] at c2 c3
      have hab := after_bd HOK.out hk'
      have hkb := HOK.out.bd k hk'
      have HSEG := hide (fun h : t < (afterK ks k).at_ => (show V = lineI (ks.getD k default) (afterK ks k) t by
        have hs : segI ks t = k := seg_of HOK.out hk' hkt (fun h1 => by unfold afterK at h; rw [if_pos h1] at h; exact h)
        rw [HTI.out, hs]))
      have HNEXT := hide (fun h : ¬ t < (afterK ks k).at_ => (show k + 1 < n ∧ (ks.getD (k + 1) default).at_ ≤ t by
        unfold afterK at h
        by_cases h1 : k + 1 < ks.length
        · rw [if_pos h1] at h
          exact ⟨by have := HN.out; omega, by omega⟩
        · rw [if_neg h1] at h
          exact absurd (show t < dayMs by unfold dayMs; omega) h))
      rw [knot_at hk'] at hkb hab HSEG hkt
      clear hc
      generalize afterK ks k = y at *
      generalize ks[k] = x at *
      have k1 : IntKind.i64.wrap ((k : Int) + 1) = (k : Int) + 1 := IntWalk.i64_in _ (by omega)
      have k2 : decide ((k : Int) < (n : Int)) = true := decide_eq_true (by omega)
      go_upto_region 6 with fail
      have k3 : ((k : Int) + 1).toNat = k + 1 := by omega
      have k4 : (k : Int) < (n : Int) := by omega
      have k5 : (0 : Int) ≤ (k : Int) + 1 := by omega
      have k6 : (k : Int) ≤ (n : Int) := by omega
      have k7 : (0 : Int) ≤ (k : Int) := by omega
      have k8 : (k : Int) < (n : Int) + 1 := by omega
      go_cut [8, 9] (fun v8 v9 wx => TimeMid x y wr v8 v9 wx)
      case first =>
        go_region_held3 (fun w' => w'.cell? ⟨b6, off6 + k * 2, none⟩ = some (.int .i64 x.at_) ∧ w'.cell? ⟨b6, off6 + k * 2 + 1, none⟩ = some (.int .i64 x.time) ∧ w'.cell? ⟨b6, off6 + (k + 1) * 2, none⟩ = some (.int .i64 y.at_) ∧ w'.cell? ⟨b6, off6 + (k + 1) * 2 + 1, none⟩ = some (.int .i64 y.time))
          (first | exact ⟨nx_cell (w := wr) (by repeat (first | with_reducible exact Nx.refl _ | with_reducible refine Nx.alloc ?_ _ | with_reducible refine Nx.drew ?_ | with_reducible refine Nx.setCell ?_ (by simp <;> omega) _)) hbr6 c0, nx_cell (w := wr) (by repeat (first | with_reducible exact Nx.refl _ | with_reducible refine Nx.alloc ?_ _ | with_reducible refine Nx.drew ?_ | with_reducible refine Nx.setCell ?_ (by simp <;> omega) _)) hbr6 c1, nx_cell (w := wr) (by repeat (first | with_reducible exact Nx.refl _ | with_reducible refine Nx.alloc ?_ _ | with_reducible refine Nx.drew ?_ | with_reducible refine Nx.setCell ?_ (by simp <;> omega) _)) hbr6 c2, nx_cell (w := wr) (by repeat (first | with_reducible exact Nx.refl _ | with_reducible refine Nx.alloc ?_ _ | with_reducible refine Nx.drew ?_ | with_reducible refine Nx.setCell ?_ (by simp <;> omega) _)) hbr6 c3⟩ | go_keep)
          (first | fail)
        all_goals (go_wp2; go_meet)
        all_goals exact ⟨_, _, rfl, rfl, by go_simp, by go_simp, by go_simp, by go_simp, (by repeat (first | with_reducible exact Nx.refl _ | with_reducible refine Nx.alloc ?_ _ | with_reducible refine Nx.drew ?_ | with_reducible refine Nx.setCell ?_ (by simp <;> omega) _))⟩
      case rest =>
        obtain ⟨p, q, rfl, rfl, d0, d1, d2, d3, hn4⟩ := hcut
        clear c0 c1 c2 c3 k3 k4 k5 k6 k7 k8
        by_cases hlt : t < y.at_
        · have t1 : decide (t < y.at_) = true := decide_eq_true hlt
          have HV := hide (HSEG.out hlt)
          have HVB : 0 ≤ V ∧ V ≤ 3600000 * 86400000 + 3600000 * 86400000 := by
            rw [HV.out]
            unfold lineI
            have m1 : 0 ≤ x.time * (y.at_ - t) ∧ x.time * (y.at_ - t) ≤ 3600000 * 86400000 := ⟨Int.mul_nonneg (by omega) (by omega), Int.mul_le_mul (by omega) (by omega) (by omega) (by omega)⟩
            have m2 : 0 ≤ y.time * (t - x.at_) ∧ y.time * (t - x.at_) ≤ 3600000 * 86400000 := ⟨Int.mul_nonneg (by omega) (by omega), Int.mul_le_mul (by omega) (by omega) (by omega) (by omega)⟩
            have h1 := Int.ediv_nonneg (a := x.time * (y.at_ - t) + y.time * (t - x.at_)) (b := y.at_ - x.at_) (by omega) (by omega)
            have h2 := Int.ediv_le_self (a := x.time * (y.at_ - t) + y.time * (t - x.at_)) (y.at_ - x.at_) (by omega)
            omega
          have HLF := hide (line_floor x y t (by omega))
          obtain ⟨M, hM⟩ : ∃ M, M = (y.time - x.time) * (t - x.at_) := ⟨_, rfl⟩
          have hMb : -3600000 * 86400000 ≤ M ∧ M ≤ 3600000 * 86400000 := by
            rw [hM]
            constructor
            · have h1 : (-3600000) * (t - x.at_) ≤ (y.time - x.time) * (t - x.at_) := Int.mul_le_mul_of_nonneg_right (by omega) (by omega)
              omega
            · have h1 : (y.time - x.time) * (t - x.at_) ≤ 3600000 * (t - x.at_) := Int.mul_le_mul_of_nonneg_right (by omega) (by omega)
              omega
          have hfl := fun W => w_floor M (y.at_ - x.at_) W (by omega) (by omega)
          have HFL := hide hfl
          have hW5 : IntKind.i64.wrap (x.time + M / (y.at_ - x.at_)) = V := by
            rw [hM, HLF.out, ← HV.out]; exact IntWalk.i64_in _ (by omega)
          have hW3 : IntKind.i64.wrap ((y.time - x.time) * (t - x.at_)) = M := by rw [← hM]; exact IntWalk.i64_in _ (by omega)
          have hW1 : IntKind.i64.wrap (y.time - x.time) = y.time - x.time := IntWalk.i64_in _ (by omega)
          have hW2 : IntKind.i64.wrap (t - x.at_) = t - x.at_ := IntWalk.i64_in _ (by omega)
          have hW4 : IntKind.i64.wrap (y.at_ - x.at_) = y.at_ - x.at_ := IntWalk.i64_in _ (by omega)
          clear hfl hM hMb HVB hlt
          go_upto_region 8 with fail
          go_quiet ((go_at_call 160; exact Calls.quiet_of_same (flipc (HFL.out _))))
          go_wp2
          go_ret
          exact ⟨rfl, hna.trans (hx1.trans (hbw.trans (hn4.drewN _)))⟩
        · have t1 : decide (t < y.at_) = false := decide_eq_false hlt
          obtain ⟨h1, h2⟩ := HNEXT.out hlt
          go_wp2_with fail
          go_roundw
          case rel => exact ⟨k + 1, h1, by go_num, h2, hbw.trans hn4⟩
          case measure => simp [intOf]; omega
end Go.Proofs.YtepbamacebjopaaGreatDoor
