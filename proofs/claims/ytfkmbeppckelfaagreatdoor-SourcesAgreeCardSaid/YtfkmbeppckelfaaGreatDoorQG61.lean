/- What one list of events lacks of another, by the program. -/
import Derived.Test.YtfkmbeppckelfaaGreatDoorQG12
import Derived.Test.YtfkmbeppckelfaaGreatDoorQG59
import Derived.Test.YtfkmbeppckelfaaGreatDoorQG36
import Derived.Test.YtfkmbeppckelfaaGreatDoorQG39
import Derived.Test.YtfkmbeppckelfaaGreatDoorQG55
import Derived.Test.YtfkmbeppckelfaaGreatDoorQG40
import Derived.Test.YtfkmbeppckelfaaGreatDoorQG21
import Derived.Test.YtfkmbeppckelfaaGreatDoorQG49
namespace Go.Proofs.YtfkmbeppckelfaaGreatDoor
open Go.RowKit Go.Maps

theorem lacks_take (a b : List Ev) (k : Nat) (h : k < b.length) : lacksL a (b.take (k + 1)) = if b[k] ∈ a then lacksL a (b.take k) else lacksL a (b.take k) ++ [b[k]] := by
  unfold lacksL
  rw [List.take_add_one, List.getElem?_eq_getElem h, Option.toList_some, List.filter_append]
  by_cases hm : b[k] ∈ a
  · rw [if_pos hm, List.filter_cons_of_neg (by simpa using hm), List.filter_nil, List.append_nil]
  · rw [if_neg hm, List.filter_cons_of_pos (by simpa using hm), List.filter_nil]
def LacksEnd (a b : List Ev) (w : World) (e : Ending) (w' : World) : Prop :=
  (∃ (B : Option Addr) (m cb : Nat), e = .returned (.tuple #[.slice B m cb, .int .i64 (twoF a b)]) ∧ (twoF a b ≠ 0 → m = 0) ∧ (twoF a b = 0 → m = (lacksL a b).length ∧ Rd w' w.heap.size B 11 encEvt (lacksL a b))) ∧ Nx w w'
theorem lacksL_len (a b : List Ev) : (lacksL a b).length ≤ b.length := List.length_filter_le _ _
set_option maxRecDepth 100000 in
set_option maxHeartbeats 4000000 in
theorem w_Lacks (lo : Nat) (A B : Option Addr) (c d : Nat) (a b : List Ev) (w : World) (hA : Rd w lo A 11 encEvt a) (hB : Rd w lo B 11 encEvt b) (hla : a.length ≤ 50) (hlb : b.length ≤ 50) (hoa : ∀ x ∈ a, okEv x) (hob : ∀ x ∈ b, okEv x) :
    Calls Tryz.prog 20 #[.slice A a.length c, .slice B b.length d] w (LacksEnd a b w) := by
  have hmm := @run_makeMap Tryz.prog
  have HC1 := hide (w_CheckEvents lo A c a w hA hla hoa)
  have HC2 := hide (fun W (hn : Nx w W) => w_CheckEvents lo B d b W (hB.nx hn) hlb hob)
  unfold LacksEnd
  obtain ⟨f, hf⟩ : ∃ f, f = twoF a b := ⟨_, rfl⟩
  rw [← hf]
  unfold twoF at hf
  have HF := hide hf
  generalize evsF a = f1 at *
  generalize evsF b = f2 at *
  have HA := hide hA
  have HB := hide hB
  have HOA := hide hoa
  have HOB := hide hob
  obtain ⟨n, hn⟩ : ∃ n, n = a.length := ⟨_, rfl⟩
  obtain ⟨m, hm⟩ : ∃ m, m = b.length := ⟨_, rfl⟩
  rw [← hn] at HC1 hla ⊢
  rw [← hm] at HC2 hlb ⊢
  have HNN := hide hn
  have HMM := hide hm
  clear hA hB hoa hob hf hn hm
  go_enter Tryz.func20, Tryz.ntmps20
  go_wp2_with fail
  refine HC1.out.mono ?_
  rintro e w1 ⟨rfl, hn1⟩
  have HC3 := hide (HC2.out w1 hn1)
  have HN1 := hide hn1
  clear hn1
  go_wp2_with fail
  refine HC3.out.mono ?_
  rintro e w2 ⟨rfl, hn2⟩
  have HN2 := hide (HN1.out.trans hn2)
  clear hn2
  go_wp2_with fail
  refine (w_First2 f1 f2 w2.heap.size 2 _ (hnew rfl)).mono ?_
  rintro e w3 ⟨rfl, hw3⟩
  rw [← HF.out]
  have HN3 := hide (show Nx w w3 from hw3 ▸ HN2.out.alloc _)
  clear hw3 HC1 HC2 HC3
  have hq : f = 0 ∨ (f != 0) = true := by simp; omega
  rcases hq with rfl | hq
  · go_upto_region 6 with fail
    clear hmm
    obtain ⟨g, hg⟩ : ∃ g, g = w3.heap.size := ⟨_, rfl⟩
    have HM0 : Hid (MpEB (w3.alloc (.map #[] 0)) w3.heap.size 0 (evSet a 0)) := hide (by rw [evSet_zero]; exact MgI.made w3)
    rw [← hg] at HM0 ⊢
    have hgw : w.heap.size ≤ g := by have := HN3.out.sz; omega
    have HG := hide hg
    clear hg
    go_loopw [25] (fun i wr => ∃ k : Nat, k ≤ n ∧ i = .int .i64 k ∧ Nx w wr ∧ MpEB wr g k (evSet a k)) (fun i _ => n - (intOf i).toNat)
    case atStart => exact ⟨0, Nat.zero_le _, rfl, HN3.out.alloc _, HM0.out⟩
    case round =>
      clear HM0
      obtain ⟨k, hk, rfl, hnx, hM⟩ := hrel
      by_cases hlt : k < n
      · have hlt' : k < a.length := by have := HNN.out; omega
        obtain ⟨b1, off, rfl, _, hb, hbr, hc⟩ := HA.out.open_ hnx (by have := HNN.out; omega)
        obtain ⟨c0, c1, c2, c3, c4, c5, c6, c7, c8, c9, c10⟩ := ev_cells (hc k hlt')
        have hx := HOA.out a[k] (List.getElem_mem hlt')
        have HSX := hide (evSet_succ a k hlt')
        clear hc
        generalize a[k] = x at *
        obtain ⟨kl, hkey⟩ := key_evt x hx
        have HM := hide hM
        have HNX := hide hnx
        have HX := hide hx
        have hml := hM.lt
        clear hM hx hnx
        obtain ⟨so, no, at_, ki, ri, ca, nd, up, dn, fo, nu⟩ := x
        simp only at c0 c1 c2 c3 c4 c5 c6 c7 c8 c9 c10
        have q1 : (0 : Int) ≤ (k : Int) := by omega
        have q2 : (k : Int) < (n : Int) := by omega
        go_wp2_with (at_mapUpdate; refine wpMgPut _ rfl _ _ _ _ rfl boolE law_evt ekEv_inj Tryz.underlying85 g k _ rfl (HM.out.nx ((Nx.refl _).alloc _)) (by unfold maxLen; omega) ⟨so, no, at_, ki, ri, ca, nd, up, dn, fo, nu⟩ rfl HX.out _ hkey true rfl trivial ?_; intro w5 hM5 hg5)
        go_roundw
        case rel =>
          refine ⟨k + 1, by omega, by go_num, (HNX.out.alloc _).grown hg5 (fun j hj => by injection hj with hj; omega), ?_⟩
          rw [HSX.out]; exact hM5
        case measure => simp [intOf]; omega
      · obtain rfl : k = n := by omega
        have HM := hide hM
        have HNX := hide hnx
        have HGW := hide hgw
        have hml := hM.lt
        clear hM hnx
        go_upto_region 12 with fail
        obtain ⟨wz, hwz⟩ : ∃ wz, wz = wr := ⟨_, rfl⟩
        rw [← hwz] at HM HNX hml ⊢
        clear hwz
        go_loopw [10, 34] (fun v i wr => ∃ j : Nat, j ≤ m ∧ i = .int .i64 j ∧ wr.ownsRow wz.heap.size 31 11 v (lacksL a (b.take j)).length ((lacksL a (b.take j)).flatMap encEvt) ∧ Nx wz wr) (fun _ i _ => m - (intOf i).toNat)
        case atStart => exact ⟨0, Nat.zero_le _, rfl, World.ownsRow_nil _ _ _ _, Nx.refl _⟩
        case round =>
          obtain ⟨j, hj, rfl, hown, hnx⟩ := hrel
          have HOW := hide hown
          have HNY := hide hnx
          clear hown
          by_cases hlt2 : j < m
          · have hlt' : j < b.length := by have := HMM.out; omega
            obtain ⟨b1, off, rfl, _, hb, hbr, hc⟩ := HB.out.open_ (HNX.out.trans hnx) (by have := HMM.out; omega)
            obtain ⟨c0, c1, c2, c3, c4, c5, c6, c7, c8, c9, c10⟩ := ev_cells (hc j hlt')
            have hx := HOB.out b[j] (List.getElem_mem hlt')
            have HLT := hide (lacks_take a b j hlt')
            have hget := evSet_get a b[j]
            have HLN := hide (show (lacksL a (b.take j)).length ≤ 50 by have := lacksL_len a (b.take j); have := List.length_take_le j b; omega)
            clear hc
            generalize b[j] = x at *
            generalize lacksL a (b.take j) = L at *
            obtain ⟨kl, hkey⟩ := key_evt x hx
            have hbw : b1 < wr.heap.size := hbr
            have hlk := (((HM.out.nx hnx).nx ((Nx.refl wr).alloc (.cells (evA x) 31 (0, 0)))).look boolE law_evt Tryz.underlying85 (z := false) trivial (zeroBoolEv _) hx hkey).1
            rw [← HNN.out] at hget
            rw [hget] at hlk
            unfold ekEv at hlk
            have hgl : g < wr.heap.size := Nat.lt_of_lt_of_le hml hnx.sz
            obtain ⟨so, no, at_, ki, ri, ca, nd, up, dn, fo, nu⟩ := x
            unfold evA at hlk
            simp only at c0 c1 c2 c3 c4 c5 c6 c7 c8 c9 c10 hlk
            have q1 : (0 : Int) ≤ (j : Int) := by omega
            have q2 : (j : Int) < (m : Int) := by omega
            by_cases hin : (⟨so, no, at_, ki, ri, ca, nd, up, dn, fo, nu⟩ : Ev) ∈ a
            · have HLT2 := hide (HLT.out.trans (if_pos hin))
              rw [decide_eq_true hin] at hlk
              have HIN := hide hin
              clear hin hx hnx
              go_wp2_with fail
              go_roundw
              case rel => exact ⟨j + 1, by omega, by go_num, by rw [HLT2.out]; exact own_nx HOW.out ((Nx.refl _).alloc _), HNY.out.alloc _⟩
              case measure => simp [intOf]; omega
            · have HLT2 := hide (HLT.out.trans (if_neg hin))
              rw [decide_eq_false hin] at hlk
              have HIN := hide hin
              clear hin hx hnx
              go_wp2_with (at_builtin; refine wpApp rfl _ _ _ rfl el_Evt encEvt encEvt_len encEvt_one (by omega) (by omega) wz.heap.size _ L rfl (own_nx HOW.out (((Nx.refl wr).alloc _).alloc _)) _ ⟨so, no, at_, ki, ri, ca, nd, up, dn, fo, nu⟩ _ rfl (hnew (by simp)) rfl (by have := HLN.out; omega) (by have := HNY.out.sz; simp; omega) ?_; intro v8 w8 hown8 hg8; (have HO8 := hide hown8); (have HG8 := hide hg8); clear hown8 hg8)
              go_roundw
              case rel => exact ⟨j + 1, by omega, by go_num, by rw [HLT2.out]; exact HO8.out, ((HNY.out.alloc _).alloc _).grown HG8.out (fun p hp => own_blk_lt HOW.out p hp)⟩
              case measure => simp [intOf]; omega
          · obtain rfl : j = m := by omega
            have ht : b.take j = b := List.take_of_length_le (by have := HMM.out; omega)
            rw [ht] at HOW
            go_wp2_with fail
            go_ret2
            obtain ⟨A9, c9, e9, hR9, _⟩ := Rd.of_own encEvt_len rfl HOW.out
            subst e9
            exact ⟨⟨_, _, ⟨_, rfl⟩, rfl, hR9.low HNX.out.sz⟩, HNX.out.trans HNY.out⟩
  · have HQ := hide (show f ≠ 0 by simpa using hq)
    go_wp2_with fail
    go_ret2
    exact ⟨⟨_, _, _, rfl, fun _ => rfl, fun h => absurd h HQ.out⟩, HN3.out⟩
end Go.Proofs.YtfkmbeppckelfaaGreatDoor
/- jitkeep1.SourcesAgree returns true. -/
namespace Go.Proofs.YtfkmbeppckelfaaGreatDoor
open Go.RowKit Go.Maps

theorem Parts.two {l a b : List Ev} (h : Parts l a b) : twoF a b = 0 := twoF_zero.2 ⟨h.ra, h.rb⟩
theorem Parts.mrg {l a b : List Ev} (h : Parts l a b) : mrgF a b = 0 ∧ mrgS a b = l := by
  have e := h.merged (mrgS_sorted a b)
  refine ⟨?_, e⟩
  unfold mrgF mrgF1
  rw [if_pos h.two, h.noClash, if_neg (by decide), e]
  exact h.right
theorem momF_at3 {l : List Ev} {at_ : Int} (h : evsF l = 0) (h0 : 0 ≤ at_) (h1 : at_ ≤ 1000) : momentF l at_ = 0 := by
  unfold momentF
  rw [if_pos h, if_pos (momB_true.2 ⟨h0, by omega⟩)]
set_option maxRecDepth 100000 in
set_option maxHeartbeats 8000000 in
theorem w_lawSG (A : Option Addr) (n c : Nat) (w : World) (hn : n ≤ 9223372036854775807)
    (hL : 0 < n → ∃ b off, A = some ⟨b, off, none⟩ ∧ b < w.heap.size ∧ ∀ j, j < n → ∃ z : Int, w.cell? ⟨b, off + j, none⟩ = some (.int .i64 z) ∧ -9223372036854775808 ≤ z ∧ z ≤ 9223372036854775807) :
    Calls Tryz.prog 7 #[.slice A n c] w (TrueNx w) := by
  have hS0 : Str (w.alloc (.cells #[.slice A n c, .int .i64 0] 25)) w.heap.size 0 := str_new A n c w hn hL
  clear hL
  have hsz : (w.alloc (.cells #[.slice A n c, .int .i64 0] 25)).heap.size = w.heap.size + 1 := by simp
  go_enter Tryz.func7, Tryz.ntmps7
  go_wp2_with fail
  refine (w_Range 0 16 _ _ _ hS0 (by omega) (by omega) (by omega)).mono ?_
  rintro e w1 ⟨r, hr1, hr2, rfl, hg1, hS1⟩
  obtain ⟨m, rfl⟩ : ∃ m : Nat, r = (m : Int) := ⟨r.toNat, by omega⟩
  have hz1 := hg1.sz
  rw [hsz] at hz1
  have hg01 : Gr w.heap.size w w1 := (Gr.of_nx ((Nx.refl w).alloc _)).trans hg1
  clear hg1 hS0 hsz
  go_wp2_with fail
  refine (w_RightEvents m _ _ _ (by omega) hS1 (by omega)).mono ?_
  rintro e w2 ⟨B, cB, l, rfl, hR2, hlm, hlc, hok, hev, hg2, hS2⟩
  have HR2 := hide hR2
  have HOK := hide hok
  have HEV := hide hev
  have HG2 := hide (hg01.trans hg2)
  have hl16 : l.length ≤ 16 := by omega
  have hsw1 : w.heap.size < w1.heap.size := by omega
  have hz12 := hg2.sz
  have HHA := hide (w_HalfEvents w1.heap.size B cB l w.heap.size _ w2 hR2 hsw1 (by omega) hS2 (by omega))
  obtain ⟨nl, hnl⟩ : ∃ nl, nl = l.length := ⟨_, rfl⟩
  rw [← hnl] at HHA hl16 ⊢
  have HNL := hide hnl
  clear hR2 hok hev hS2 hg2 hg01 hS1 hlm hlc hr1 hr2 hnl
  go_wp2_with fail
  refine HHA.out.mono ?_
  rintro e w3 ⟨cut, v1, v2, rfl, hTR, hg3, hS3⟩
  have hP := parts_half HEV.out cut
  have hla : (halfA cut l).length ≤ 16 := by have := List.length_filter_le (pA cut) l; have := HNL.out; unfold halfA; omega
  have hlb : (halfB cut l).length ≤ 16 := by have := List.length_filter_le (pB cut) l; have := HNL.out; unfold halfB; omega
  obtain ⟨a, ha⟩ : ∃ a, a = halfA cut l := ⟨_, rfl⟩
  obtain ⟨b, hb⟩ : ∃ b, b = halfB cut l := ⟨_, rfl⟩
  rw [← ha, ← hb] at hP hTR
  rw [← ha] at hla
  rw [← hb] at hlb
  obtain ⟨A3, c3, e3, hRa, _⟩ := Rd.of_own encEvt_len rfl hTR.r1
  obtain ⟨B3, d3, f3, hRb, _⟩ := Rd.of_own encEvt_len rfl hTR.r2
  have HP := hide hP
  have HRA := hide hRa
  have HRB := hide hRb
  have HOA := hide (show ∀ x ∈ a, okEv x from fun x hx => okEv_of (evs_right hP.ra hx))
  have HOB := hide (show ∀ x ∈ b, okEv x from fun x hx => okEv_of (evs_right hP.rb hx))
  have HCT := hide (hP.count (mrgS_sorted a b))
  have HR3 := hide (HR2.out.gr hg3 hsw1)
  have HG3 := hide (HG2.out.trans hg3)
  have HS3 := hide hS3
  have hs3 : w.heap.size + 1 ≤ w3.heap.size := by have := hg3.sz; omega
  have HX := hide (fun W (hn : Nx w3 W) => w_Merge w2.heap.size A3 B3 c3 d3 a b W (hRa.nx hn) (hRb.nx hn) (by omega) (by omega) HOA.out HOB.out)
  have HY := hide (fun W (hn : Nx w3 W) => w_Merge w2.heap.size B3 A3 d3 c3 b a W (hRb.nx hn) (hRa.nx hn) (by omega) (by omega) HOB.out HOA.out)
  have HZ := hide (fun W (hn : Nx w3 W) => w_Lacks w2.heap.size A3 B3 c3 d3 a b W (hRa.nx hn) (hRb.nx hn) (by omega) (by omega) HOA.out HOB.out)
  unfold MergeEnd at HX HY
  unfold LacksEnd at HZ
  rw [hP.mrg.1, hP.mrg.2] at HX
  rw [hP.symm.mrg.1, hP.symm.mrg.2] at HY
  rw [hP.two] at HZ
  obtain ⟨na, hna⟩ : ∃ na, na = a.length := ⟨_, rfl⟩
  obtain ⟨nb, hnb⟩ : ∃ nb, nb = b.length := ⟨_, rfl⟩
  rw [← hna] at e3 HX HY HZ HCT hla
  rw [← hnb] at f3 HX HY HZ hlb
  have hln : (lacksL a b).length ≤ 16 := by have := lacksL_len a b; omega
  subst e3 f3
  clear hP hRa hRb hTR hg3 hS3 ha hb hna hnb HHA HR2 HG2 HRA HRB
  go_wp2_with fail
  refine (HX.out _ (Nx.refl _)).mono ?_
  rintro e w4 ⟨⟨B4, m4, c4, rfl, _, h4⟩, hn4⟩
  obtain ⟨em4, hR4⟩ := h4 (by trivial)
  have HR4 := hide (hR4.low hs3)
  have HM4 := hide em4
  have HN4 := hide hn4
  clear h4 em4 hR4 hn4 HX
  go_wp2_with fail
  refine (HY.out _ HN4.out).mono ?_
  rintro e w5 ⟨⟨B5, m5, c5, rfl, _, h5⟩, hn5⟩
  obtain ⟨em5, hR5⟩ := h5 (by trivial)
  have HR5 := hide (hR5.low (Nat.zero_le _))
  have HM5 := hide em5
  have HN5 := hide (HN4.out.trans hn5)
  have HR4' := hide (HR4.out.nx hn5)
  clear h5 em5 hR5 hn5 HY
  go_wp2_with fail
  refine (HZ.out _ HN5.out).mono ?_
  rintro e w6 ⟨⟨B6, m6, c6, rfl, _, h6⟩, hn6⟩
  obtain ⟨em6, hR6⟩ := h6 (by trivial)
  have HM6 := hide em6
  have HN6 := hide (HN5.out.trans hn6)
  have HN56 := hide hn6
  have e45 : m5 = m4 := by rw [HM4.out, HM5.out]
  have e4n : m4 = nl := by rw [HM4.out, HNL.out]
  subst e45
  subst e4n
  have hsum : m6 + na = m5 := by rw [em6, HM5.out]; exact HCT.out
  have hm6 : m6 ≤ 16 := by omega
  clear h6 em6 hR6 hn6 HZ
  have HQ1 := hide (fun W (hn : Nx w6 W) => (show Calls Tryz.prog 24 #[.slice B4 m5 c4, .slice B5 m5 c5] W fun e w' => e = .returned (.bool true) ∧ Nx W w' by
    rw [HNL.out]
    exact w_EqualEv (w.heap.size + 1) 0 B4 B5 c4 c5 l W (HR4'.out.nx (HN56.out.trans hn)) (HR5.out.nx (HN56.out.trans hn)) (by have := HNL.out; omega)))
  have HQ2 := hide (fun W (hn : Nx w6 W) => (show Calls Tryz.prog 24 #[.slice B4 m5 c4, .slice B m5 cB] W fun e w' => e = .returned (.bool true) ∧ Nx W w' by
    rw [HNL.out]
    exact w_EqualEv (w.heap.size + 1) w1.heap.size B4 B c4 cB l W (HR4'.out.nx (HN56.out.trans hn)) (HR3.out.nx (HN6.out.trans hn)) (by have := HNL.out; omega)))
  have q1 : IntKind.i64.wrap ((m6 : Int) + (na : Int)) = (m5 : Int) := by rw [show (m6 : Int) + (na : Int) = (m5 : Int) by omega]; exact IntWalk.i64_in _ (by omega)
  have q2 : ((m5 : Int) != (m5 : Int)) = false := by simp
  have HSUM := hide hsum
  clear hsum
  go_upto_region 7 with fail
  go_cut [78] (fun v wx => v = .bool false ∧ Nx w6 wx)
  case first =>
    go_wp2_with fail
    refine (HQ1.out _ (Nx.refl _)).mono ?_
    rintro e w7 ⟨rfl, hn7⟩
    have HN7 := hide hn7
    clear hn7
    go_wp2_with fail
    refine (HQ2.out _ HN7.out).mono ?_
    rintro e w8 ⟨rfl, hn8⟩
    have HN8 := hide (HN7.out.trans hn8)
    clear hn8
    go_wp2_with fail
    go_meet
    exact ⟨by rfl, HN8.out⟩
  case rest =>
    obtain ⟨rfl, hnc⟩ := hcut
    obtain ⟨w9, hw9⟩ : ∃ w9, w9 = wc := ⟨_, rfl⟩
    rw [← hw9] at hnc ⊢
    have HN9 := hide (HN6.out.trans hnc)
    have HN69 := hide hnc
    clear hw9 hnc HQ1 HQ2
    go_wp2_with fail
    refine (w_Next 200 _ _ _ (HS3.out.nx HN9.out) (by omega) (by omega)).mono ?_
    rintro e w10 ⟨at_, hat1, hat2, rfl, hg10, hS10⟩
    have HMF := hide (momF_at3 HEV.out hat1 (by omega))
    have HR4x := hide ((HR4'.out.nx (HN56.out.trans HN69.out)).gr hg10 (by omega))
    have HRBx := hide ((HR3.out.nx HN9.out).gr hg10 hsw1)
    have HT := hide (fun W (h : Nx w10 W) => Nx.of_gr (((HG3.out.then_nx HN9.out).trans hg10).then_nx h) (Nat.le_refl _))
    have HRa := hide (fun W (hn : Nx w10 W) => (show Calls Tryz.prog 28 #[.slice B4 m5 c4, .int .i64 at_] W fun e w' => ∃ (B' : Option Addr) (m cb : Nat) (L : List St), e = .returned (.tuple #[.slice B' m cb, .int .i64 0]) ∧ m = L.length ∧ Rd w' 0 B' 7 encSta L ∧ StsOf (runP l at_ l.length).rides L ∧ m ≤ 100 ∧ Nx W w' by
      rw [HNL.out]
      refine (w_Rides (w.heap.size + 1) B4 c4 l at_ W (HR4x.out.nx hn) (by have := HNL.out; omega) HOK.out).mono ?_
      rintro e w' ⟨⟨B', m, cb, rfl, _, h⟩, hn'⟩
      obtain ⟨L, h1, h2, h3, h4⟩ := h HMF.out
      exact ⟨B', m, cb, L, by rw [HMF.out], h1, h2.low (Nat.zero_le _), h3, by have := HNL.out; omega, hn'⟩))
    have HRb := hide (fun W (hn : Nx w10 W) => (show Calls Tryz.prog 28 #[.slice B m5 cB, .int .i64 at_] W fun e w' => ∃ (B' : Option Addr) (m cb : Nat) (L : List St), e = .returned (.tuple #[.slice B' m cb, .int .i64 0]) ∧ m = L.length ∧ Rd w' 0 B' 7 encSta L ∧ StsOf (runP l at_ l.length).rides L ∧ m ≤ 100 ∧ Nx W w' by
      rw [HNL.out]
      refine (w_Rides w1.heap.size B cB l at_ W (HRBx.out.nx hn) (by have := HNL.out; omega) HOK.out).mono ?_
      rintro e w' ⟨⟨B', m, cb, rfl, _, h⟩, hn'⟩
      obtain ⟨L, h1, h2, h3, h4⟩ := h HMF.out
      exact ⟨B', m, cb, L, by rw [HMF.out], h1, h2.low (Nat.zero_le _), h3, by have := HNL.out; omega, hn'⟩))
    clear hg10 hS10 HMF HSUM q1 q2
    go_wp2_with fail
    refine (HRa.out _ (Nx.refl _)).mono ?_
    rintro e w11 ⟨B11, m11, c11, L11, rfl, em11, hR11, hS11, hm11, hn11⟩
    have HN11 := hide hn11
    have HR11 := hide hR11
    have HS11 := hide hS11
    have HM11 := hide em11
    clear hn11 hR11 hS11 em11 HRa
    go_wp2_with fail
    refine (HRb.out _ HN11.out).mono ?_
    rintro e w12 ⟨B12, m12, c12, L12, rfl, em12, hR12, hS12, hm12, hn12⟩
    have hL : L12 = L11 := hS12.uniq HS11.out
    have HN12 := hide (HN11.out.trans hn12)
    have HR11' := hide (HR11.out.nx hn12)
    have HR12 := hide (show Rd w12 0 B12 7 encSta L11 from hL ▸ hR12)
    have em12' : m12 = m11 := by rw [em12, hL, HM11.out]
    subst em12'
    have HQ3 := hide (fun W (hn : Nx w12 W) => (show Calls Tryz.prog 33 #[.slice B11 m12 c11, .slice B12 m12 c12] W fun e w' => e = .returned (.bool true) ∧ Nx W w' by
      rw [HM11.out]
      exact w_EqualSta 0 0 B11 B12 c11 c12 L11 W (HR11'.out.nx hn) (HR12.out.nx hn) (by rw [← HM11.out]; omega)))
    clear hn12 hR12 hS12 em12 HRb hL HR11 HS11
    go_wp2_with (first
      | (go_at_call 33; refine (HQ3.out _ (Nx.refl _)).mono ?_; rintro e w13 ⟨rfl, hn13⟩; (have HN13 := hide hn13); clear hn13)
      | (go_at_call 30; refine (w_ready _).mono ?_; rintro e w14 ⟨rfl, hn14⟩))
    go_ret
    exact ⟨rfl, HT.out _ ((HN12.out.trans HN13.out).trans hn14)⟩
end Go.Proofs.YtfkmbeppckelfaaGreatDoor
