/- jitlaw1.CallsCounted returns true. -/
import Derived.Test.YtjkpikhgknnbeaaCalls
import Derived.Test.YtjkpikhgknnbeaaTallies
import Derived.Deep.DeepCutAuto
namespace Go.Proofs.Ytjkpikhgknnbeaa
open Go.RowKit Go.Sort Go.Shelf Go.Maps
attribute [local go_sem ↓] neq_Cell eql_Cell neq_Tally
attribute [local go_sem] gd_Cell gd_Tally

theorem w_counted (w : World) : Calls Try.prog 24 #[] w fun e w' => e = .returned (.bool true) ∧ Nx w w' := by
  go_enter Try.func24, Try.ntmps24
  go_wp2_with (go_at_call 10; refine (w_CellOf_yes (-1) 250 100 _ (by decide) (by decide)).mono ?_; rintro e w1 ⟨rfl, hn1⟩)
  go_ret
  exact ⟨rfl, hn1.alloc _⟩

set_option maxRecDepth 100000 in
set_option maxHeartbeats 1000000 in
theorem w_EqualT (lo lo' : Nat) (A B : Option Addr) (c d : Nat) (l : List Tally) (w : World) (hA : Rd w lo A 4 encTally l) (hB : Rd w lo' B 4 encTally l) (hl : l.length ≤ 65536) :
    Calls Try.prog 23 #[.slice A l.length c, .slice B l.length d] w fun e w' => e = .returned (.bool true) ∧ Nx w w' := by
  generalize hn : l.length = n at *
  have HA := hide hA
  have HB := hide hB
  have HN := hide hn
  clear hA hB hn
  go_enter Try.func23, Try.ntmps23
  go_wp2
  go_loopw [5, 13] (fun _ i wr => ∃ k : Nat, k ≤ n ∧ i = .int .i64 k ∧ Nx w wr) (fun _ i _ => n - (intOf i).toNat)
  case atStart => exact ⟨0, Nat.zero_le _, rfl, Nx.refl _⟩
  case round =>
    obtain ⟨k, hk, rfl, hbw⟩ := hrel
    by_cases hlt : k < n
    · have hlt' : k < l.length := by have := HN.out; omega
      obtain ⟨b, off, rfl, _, hb, hbr, hc⟩ := HA.out.open_ hbw (by omega)
      obtain ⟨b', off', rfl, _, hb', hbr', hc'⟩ := HB.out.open_ hbw (by omega)
      have c0 : wr.cell? ⟨b, off + k * 4, none⟩ = some (.int .i64 l[k].x) := hc k hlt' 0 _ rfl
      have c1 : wr.cell? ⟨b, off + k * 4 + 1, none⟩ = some (.int .i64 l[k].y) := hc k hlt' 1 _ rfl
      have c2 : wr.cell? ⟨b, off + k * 4 + 2, none⟩ = some (.int .i64 l[k].hour) := hc k hlt' 2 _ rfl
      have c3 : wr.cell? ⟨b, off + k * 4 + 3, none⟩ = some (.int .i64 l[k].many) := hc k hlt' 3 _ rfl
      have d0 : wr.cell? ⟨b', off' + k * 4, none⟩ = some (.int .i64 l[k].x) := hc' k hlt' 0 _ rfl
      have d1 : wr.cell? ⟨b', off' + k * 4 + 1, none⟩ = some (.int .i64 l[k].y) := hc' k hlt' 1 _ rfl
      have d2 : wr.cell? ⟨b', off' + k * 4 + 2, none⟩ = some (.int .i64 l[k].hour) := hc' k hlt' 2 _ rfl
      have d3 : wr.cell? ⟨b', off' + k * 4 + 3, none⟩ = some (.int .i64 l[k].many) := hc' k hlt' 3 _ rfl
      clear hc hc'
      have q1 : (0 : Int) ≤ (k : Int) := by omega
      have q2 : (k : Int) < (n : Int) := by omega
      go_wp2_with fail
      go_quiet (fail)
      go_wp2
      go_roundw
      case rel => exact ⟨k + 1, by omega, by go_num, hbw.drewN _⟩
      case measure => simp [intOf]; omega
    · go_wp2
      go_ret
      exact ⟨rfl, hbw⟩

theorem w_Or2 (a b : Int) (g c : Nat) (w : World) (hg : w.heap[g]? = some (.cells #[.int .i64 a, .int .i64 b] 32 (0, 0))) :
    Calls Try.prog 11 #[.slice (some ⟨g, 0, none⟩) 2 c] w fun e w' => e = .returned (.int .i64 (orI [a, b])) ∧ w = w' := by
  have hR : Rd w 0 (some ⟨g, 0, none⟩) 1 encI [a, b] := Rd.lit hg (Nat.zero_le _) (fun _ => rfl) rfl
  exact w_OrE 0 _ c [a, b] w hR (by simp)
theorem w_Or3 (a b d : Int) (g c : Nat) (w : World) (hg : w.heap[g]? = some (.cells #[.int .i64 a, .int .i64 b, .int .i64 d] 32 (0, 0))) :
    Calls Try.prog 11 #[.slice (some ⟨g, 0, none⟩) 3 c] w fun e w' => e = .returned (.int .i64 (orI [a, b, d])) ∧ w = w' := by
  have hR : Rd w 0 (some ⟨g, 0, none⟩) 1 encI [a, b, d] := Rd.lit hg (Nat.zero_le _) (fun _ => rfl) rfl
  exact w_OrE 0 _ c [a, b, d] w hR (by simp)

theorem w_CellOf (x y size : Int) (w : World) :
    Calls Try.prog 10 #[.int .i64 x, .int .i64 y, .int .i64 size] w fun e w' => e = .returned (.tuple #[.agg #[.int .i64 (cellX (cellV x y size) x size), .int .i64 (cellX (cellV x y size) y size)], .int .i64 (argF (cellV x y size))]) ∧ Nx w w' := by
  cases h : cellV x y size
  · exact w_CellOf_no x y size w h
  · unfold cellV at h
    simp only [Bool.and_eq_true, Bool.not_eq_true'] at h
    exact w_CellOf_yes x y size w h.1 h.2

def hourX (v : Bool) (at_ zone : Int) : Int := if v then hourI at_ zone else 0
theorem w_HourOf' (at_ zone : Int) (w : World) : Calls Try.prog 15 #[.int .i64 at_, .int .i64 zone] w fun e w' => e = .returned (.tuple #[.int .i64 (hourX (hourV at_ zone) at_ zone), .int .i64 (argF (hourV at_ zone))]) ∧ w = w' := w_HourOf at_ zone w

/-- The law's world: what was there stays. -/
def TrueNx (w : World) (e : Ending) (w' : World) : Prop := e = .returned (.bool true) ∧ Nx w w'

set_option maxRecDepth 100000 in
set_option maxHeartbeats 4000000 in
theorem w_law (A : Option Addr) (n c : Nat) (w : World) (hn : n ≤ 9223372036854775807)
    (hL : 0 < n → ∃ b off, A = some ⟨b, off, none⟩ ∧ b < w.heap.size ∧ ∀ j, j < n → ∃ z : Int, w.cell? ⟨b, off + j, none⟩ = some (.int .i64 z) ∧ -9223372036854775808 ≤ z ∧ z ≤ 9223372036854775807) :
    Calls Try.prog 3 #[.slice A n c] w (TrueNx w) := by
  have hS0 : Str (w.alloc (.cells #[.slice A n c, .int .i64 0] 25)) w.heap.size 0 := by
    refine ⟨A, n, c, 0, Nat.le_refl _, hn, hnew rfl, fun hp => ?_⟩
    obtain ⟨b, off, e, hb, hz⟩ := hL hp
    refine ⟨b, off, e, hb, fun j hj => ?_⟩
    obtain ⟨z, h1, h2⟩ := hz j hj
    exact ⟨z, (Below.cell ((Nx.refl w).alloc _) (p := ⟨b, _, none⟩) hb).trans h1, h2⟩
  clear hL
  go_enter Try.func3, Try.ntmps3
  go_wp2_with fail
  refine (w_Range _ _ _ _ _ hS0 (by omega) (by omega) (by omega)).mono ?_
  rintro e w1 ⟨many, hm1, hm2, rfl, hg1, hS1⟩
  go_wp2_with fail
  refine (w_Calls _ _ _ _ hS1 (by omega) ⟨hm1, hm2⟩).mono ?_
  rintro e w2 ⟨cA, cc, cl, rfl, hcl, hR2, hg2, hS2⟩
  have hg02 := hg1.trans hg2
  go_wp2_with fail
  refine (w_PickI _ [1, 100, 100, 250, 0, 10001] _ _ _ _ (hS2.nx ((Nx.refl _).alloc _)) (by omega) (hnew rfl) (by have := hS2.lt; omega) rfl (by simp) (by simp)).mono ?_
  rintro e w3 ⟨size, hsize, rfl, hg3, hS3⟩
  have hg03 := (hg02.alloc _).trans hg3
  go_wp2_with fail
  refine (w_PickI _ [0, 60, -90, 1440, 1441] _ _ _ _ (hS3.nx ((Nx.refl _).alloc _)) (by omega) (hnew rfl) (by have := hS3.lt; omega) rfl (by simp) (by simp)).mono ?_
  rintro e w4 ⟨zone, hzone, rfl, hg4, hS4⟩
  have hg04 := (hg03.alloc _).trans hg4
  go_wp2_with fail
  refine (w_Odd _ _ _ _ _ hS4 (by omega) (by omega) (by omega)).mono ?_
  rintro e w5 ⟨x, hx1, hx2, rfl, hg5, hS5⟩
  have hg05 := hg04.trans hg5
  go_wp2_with fail
  refine (w_PickI _ [0, -100, 99, 10001] _ _ _ _ (hS5.nx ((Nx.refl _).alloc _)) (by omega) (hnew rfl) (by have := hS5.lt; omega) rfl (by simp) (by simp)).mono ?_
  rintro e w6 ⟨y, hy, rfl, hg6, hS6⟩
  have hg06 := (hg05.alloc _).trans hg6
  go_wp2_with fail
  refine (w_PickI _ [0, 5, 3600000, 604799999, 604800000, 345686399999, -1] _ _ _ _ (hS6.nx ((Nx.refl _).alloc _)) (by omega) (hnew rfl) (by have := hS6.lt; omega) rfl (by simp) (by simp)).mono ?_
  rintro e w7 ⟨at_, hat, rfl, hg7, hS7⟩
  have hg07 := (hg06.alloc _).trans hg7
  have hN7 : Nx w w7 := Nx.of_gr ((Gr.of_nx ((Nx.refl w).alloc _)).trans hg07) (Nat.le_refl _)
  have hR7 : Rd w7 w1.heap.size cA 3 encCall cl := hR2.gr ((((((((((Gr.refl _ w2).alloc _).trans hg3).alloc _).trans hg4).trans hg5).alloc _).trans hg6).alloc _).trans hg7) hS1.lt
  clear hR2 hg1 hg2 hg3 hg4 hg5 hg6 hg7 hg02 hg03 hg04 hg05 hg06 hg07 hS0 hS1 hS2 hS3 hS4 hS5 hS6 hS7
  go_upto_if 54 with (first
    | (go_at_call 10; refine (w_CellOf _ _ _ _).mono ?_; rintro e w8 ⟨rfl, hn8⟩)
    | (go_at_call 12; refine (w_PointFault _ _ _).mono ?_; rintro e w' ⟨rfl, rfl⟩)
    | (go_at_call 13; refine (w_SizeFault _ _).mono ?_; rintro e w' ⟨rfl, rfl⟩)
    | (go_at_call 11; refine (w_Or2 (ptF x y) (sizeF size) _ _ _ (hnew (by simp))).mono ?_; rintro e w9 ⟨rfl, rfl⟩))
  go_cut [] (fun wx => Nx w7 wx)
  case first =>
    have ho := or_cell x y size
    have t1 : (argF (cellV x y size) != orI [ptF x y, sizeF size]) = false := by rw [ho]; simp
    rcases Bool.eq_false_or_eq_true (cellV x y size) with hv | hv
    · have t2 : (orI [ptF x y, sizeF size] != 0) = false := by rw [ho, argF_ne, hv]; rfl
      have t3 : (argF (cellV x y size) != 0) = false := by rw [argF_ne, hv]; rfl
      have t4 : (cellX (cellV x y size) x size == x / size && cellX (cellV x y size) y size == y / size) = true := by rw [hv]; simp [cellX]
      have HV := hide hv
      clear ho hv
      go_wp2_with fail
      go_region_held3 (fun w' => w'.cell? ⟨w8.heap.size, 0, none⟩ = some (.int .i64 (cellX (cellV x y size) x size)) ∧ w'.cell? ⟨w8.heap.size, 1, none⟩ = some (.int .i64 (cellX (cellV x y size) y size)))
        (first | go_keep)
        (first
          | (go_at_call 14; refine (w_CellFor _ _ _ _ (by have := HV.out; unfold cellV at this; simp [outB_false] at this; omega) (by omega) (by have := HV.out; unfold cellV at this; simp [isPtB_true] at this; omega)).mono ?_; rintro e w' ⟨rfl, rfl⟩))
      go_wp2
      go_meet
      exact (by repeat (first | exact hn8 | exact hcut | refine Nx.drew ?_ | refine Nx.drewN ?_ _ | refine Nx.alloc ?_ _))
    · have t2 : (orI [ptF x y, sizeF size] != 0) = true := by rw [ho, argF_ne, hv]; rfl
      have t3 : (cellX (cellV x y size) x size == 0 && cellX (cellV x y size) y size == 0) = true := by rw [hv]; rfl
      clear ho hv
      go_wp2
      go_meet
      exact (hn8.alloc _).alloc _
  case rest =>
    go_upto_if 86 with (first
      | (go_at_call 15; refine (w_HourOf' _ _ _).mono ?_; rintro e w' ⟨rfl, rfl⟩)
      | (go_at_call 16; refine (w_MomentFault _ _).mono ?_; rintro e w' ⟨rfl, rfl⟩)
      | (go_at_call 17; refine (w_ZoneFault _ _).mono ?_; rintro e w' ⟨rfl, rfl⟩)
      | (go_at_call 11; refine (w_Or2 (momF at_) (zoneF zone) _ _ _ (hnew (by simp))).mono ?_; rintro e w9 ⟨rfl, rfl⟩))
    go_cut [] (fun wx => Nx w7 wx)
    case first =>
      have ho := or_hour at_ zone
      have t1 : (argF (hourV at_ zone) != orI [momF at_, zoneF zone]) = false := by rw [ho]; simp
      rcases Bool.eq_false_or_eq_true (hourV at_ zone) with hv | hv
      · have t2 : (orI [momF at_, zoneF zone] != 0) = false := by rw [ho, argF_ne, hv]; rfl
        have t3 : (argF (hourV at_ zone) != 0) = false := by rw [argF_ne, hv]; rfl
        have t4 : (hourX (hourV at_ zone) at_ zone != hourI at_ zone) = false := by rw [hv]; simp [hourX]
        have hv1 : momB at_ = true := by unfold hourV at hv; simp at hv; exact hv.1
        have hv2 : outB zone (-1440) 1440 = false := by unfold hourV at hv; simp at hv; exact hv.2
        have g1 := momB_true.1 hv1
        have g2 := outB_false.1 hv2
        clear ho hv hv1 hv2
        go_wp2_with (go_at_call 18; refine (w_HourFor _ _ _ g1 g2).mono ?_; rintro e w' ⟨rfl, rfl⟩)
        go_meet
        exact (by repeat (first | exact hn8 | exact hcut | refine Nx.drew ?_ | refine Nx.drewN ?_ _ | refine Nx.alloc ?_ _))
      · have t2 : (orI [momF at_, zoneF zone] != 0) = true := by rw [ho, argF_ne, hv]; rfl
        have t3 : (hourX (hourV at_ zone) at_ zone != 0) = false := by rw [hv]; rfl
        clear ho hv
        go_wp2
        go_meet
        exact (by repeat (first | exact hn8 | exact hcut | refine Nx.drew ?_ | refine Nx.drewN ?_ _ | refine Nx.alloc ?_ _))
    case rest =>
      have hR8 := hR7.nx hcut
      go_wp2_with (first
        | (go_at_call 19; refine (w_CallsFault _ _ _ _ _ hR8 (by omega)).mono ?_; rintro e wa ⟨rfl, hna⟩)
        | (go_at_call 20; refine (w_CheckCalls _ _ _ _ _ (hR8.nx hna) (by omega)).mono ?_; rintro e wb ⟨rfl, hnb⟩))
      have hRb := (hR8.nx hna).nx hnb
      have hNb := (hcut.trans hna).trans hnb
      by_cases hf : callsF cl = 0
      · cases hz : (outB size 1 10000 || outB zone (-1440) 1440)
        · have h1 : outB size 1 10000 = false := by simp at hz; exact hz.1
          have h2 : outB zone (-1440) 1440 = false := by simp at hz; exact hz.2
          have h3 : orI [callsF cl, sizeF size, zoneF zone] = 0 := by rw [hf]; unfold sizeF zoneF; rw [h1, h2]; rfl
          have HF := hide hf
          have HO := hide h3
          clear hf hz h3
          refine (w_Tallies _ _ _ _ _ _ _ hRb (by omega) HF.out h1 h2).mono ?_
          rintro e wt ⟨At, ct, yt, rfl, hLt, hRt, hnt⟩
          have t1 : (orI [callsF cl, sizeF size, zoneF zone] == 0) = true := by rw [HO.out]; rfl
          have HYL := hide (show yt.length ≤ 65536 by
            have h3 := listed_len hLt (cl.map (spotOf size zone)) (fun s hs => by obtain ⟨c, hc, rfl⟩ := cntF_pos hs; exact List.mem_map_of_mem hc)
            rw [List.length_map] at h3; omega)
          go_wp2_with (first
            | (go_at_call 13; refine (w_SizeFault _ _).mono ?_; rintro e w' ⟨rfl, rfl⟩) | (go_at_call 17; refine (w_ZoneFault _ _).mono ?_; rintro e w' ⟨rfl, rfl⟩)
            | (go_at_call 11; refine (w_Or3 (callsF cl) (sizeF size) (zoneF zone) _ _ _ (hnew (by simp))).mono ?_; rintro e w9 ⟨rfl, rfl⟩)
            | (go_at_call 22; refine (w_TalliesOf _ _ _ _ _ _ _ ((hRb.nx hnt).nx ((Nx.refl _).alloc _)) (by omega) HF.out h1 h2).mono ?_; rintro e wu ⟨Au, cu, yu, rfl, hLu, hRu, hnu⟩; (obtain rfl := listed_unique hLt hLu))
            | (go_at_call 23; refine (w_EqualT _ _ _ _ _ _ _ _ ((hRt.nx ((Nx.refl _).alloc _)).nx hnu) hRu HYL.out).mono ?_; rintro e wv ⟨rfl, hnv⟩)
            | (go_at_call 24; refine (w_counted _).mono ?_; rintro e wx ⟨rfl, hnx⟩))
          go_ret
          exact ⟨rfl, (((((hN7.trans hNb).trans hnt).alloc _).trans hnu).trans hnv).trans hnx⟩
        · have h3 : orI [callsF cl, sizeF size, zoneF zone] = 1 := by
            rw [hf]; unfold sizeF zoneF
            cases h1 : outB size 1 10000 <;> cases h2 : outB zone (-1440) 1440 <;> first | rfl | (rw [h1, h2] at hz; cases hz)
          have HF := hide hf
          have HO := hide h3
          have HZ := hide hz
          clear hf hz h3
          refine (w_Tallies_arg _ _ _ _ _ _ _ hRb (by omega) HF.out HZ.out).mono ?_
          rintro e wt ⟨rfl, hnt⟩
          have t1 : (orI [callsF cl, sizeF size, zoneF zone] == 0) = false := by rw [HO.out]; rfl
          have t2 : ((1 : Int) == orI [callsF cl, sizeF size, zoneF zone]) = true := by rw [HO.out]; rfl
          go_wp2_with (first
            | (go_at_call 13; refine (w_SizeFault _ _).mono ?_; rintro e w' ⟨rfl, rfl⟩) | (go_at_call 17; refine (w_ZoneFault _ _).mono ?_; rintro e w' ⟨rfl, rfl⟩)
            | (go_at_call 11; refine (w_Or3 (callsF cl) (sizeF size) (zoneF zone) _ _ _ (hnew (by simp))).mono ?_; rintro e w9 ⟨rfl, rfl⟩)
            | (go_at_call 23; refine (w_EqualT 0 0 none none 0 0 [] _ Rd.nil Rd.nil (by simp)).mono ?_; rintro e wv ⟨rfl, hnv⟩)
            | (go_at_call 24; refine (w_counted _).mono ?_; rintro e wx ⟨rfl, hnx⟩))
          go_ret
          exact ⟨rfl, ((((hN7.trans hNb).trans hnt).alloc _).trans hnv).trans hnx⟩
      · have h3 : orI [callsF cl, sizeF size, zoneF zone] = callsF cl := by unfold orI; rw [if_neg hf]
        have HF := hide hf
        have HO := hide h3
        clear hf h3
        refine (w_Tallies_fault _ _ _ _ _ _ _ hRb (by omega) HF.out).mono ?_
        rintro e wt ⟨rfl, hnt⟩
        have t1 : (orI [callsF cl, sizeF size, zoneF zone] == 0) = false := by rw [HO.out]; simpa using HF.out
        have t2 : (callsF cl == orI [callsF cl, sizeF size, zoneF zone]) = true := by rw [HO.out]; simp
        go_wp2_with (first
          | (go_at_call 13; refine (w_SizeFault _ _).mono ?_; rintro e w' ⟨rfl, rfl⟩) | (go_at_call 17; refine (w_ZoneFault _ _).mono ?_; rintro e w' ⟨rfl, rfl⟩)
          | (go_at_call 11; refine (w_Or3 (callsF cl) (sizeF size) (zoneF zone) _ _ _ (hnew (by simp))).mono ?_; rintro e w9 ⟨rfl, rfl⟩)
          | (go_at_call 23; refine (w_EqualT 0 0 none none 0 0 [] _ Rd.nil Rd.nil (by simp)).mono ?_; rintro e wv ⟨rfl, hnv⟩)
          | (go_at_call 24; refine (w_counted _).mono ?_; rintro e wx ⟨rfl, hnx⟩))
        go_ret
        exact ⟨rfl, ((((hN7.trans hNb).trans hnt).alloc _).trans hnv).trans hnx⟩
end Go.Proofs.Ytjkpikhgknnbeaa
