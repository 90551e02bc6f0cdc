/- The nodes that are reached in a time: the program. -/
import Derived.Test.YtklgknepamebdaaGreatDoorQG29
import Derived.Test.YtklgknepamebdaaGreatDoorQG33
import Derived.Test.YtklgknepamebdaaGreatDoorQG17
import Derived.Test.YtklgknepamebdaaGreatDoorQSrchV
import Derived.Deep.DeepCutAuto
import Derived.Test.YtklgknepamebdaaGreatDoorQG27
import Derived.Test.YtklgknepamebdaaGreatDoorQG4
import Derived.Test.YtklgknepamebdaaGreatDoorQG8
import Derived.Test.YtklgknepamebdaaGreatDoorQG21
import Derived.Test.YtklgknepamebdaaGreatDoorQG20
import Derived.Test.YtklgknepamebdaaGreatDoorQG31
namespace Go.Proofs.YtklgknepamebdaaGreatDoor
open Go.RowKit

theorem el_Pair : ElemOf Tryz.prog 69 79 2 32 := ElemOf.mk' (z := .agg #[.string ByteArray.empty, .string ByteArray.empty]) Tryz.underlying69 (by kernel_rfl) rfl
def ReachOut (w : World) (L : List PairS) (F : Int) (e : Ending) (w' : World) : Prop := ∃ (Z : Option Addr) (c : Nat), e = .returned (.tuple #[.slice Z L.length c, .int .i64 F]) ∧ Rd w' 0 Z 2 encPair L ∧ Nx w w'
set_option maxRecDepth 100000 in
set_option maxHeartbeats 8000000 in
theorem w_Reach (lo : Nat) (A B C : Option Addr) (ca cb cc : Nat) (ns : List Node) (rs : List Arc) (bs : List Ban) (f : ByteArray) (ad wi : Int) (w : World)
    (hN : Rd w lo A 3 encNode ns) (hA : RdArcs w lo B rs) (hB : Rd w lo C 2 encBan bs) (hnl : ns.length ≤ 400) (hal : rs.length ≤ 400) (hbl : bs.length ≤ 400) (hS : SmallN ns) (htab : PowTab w) :
    Calls Tryz.prog 36 #[.agg #[.slice A ns.length ca, .slice B rs.length cb, .slice C bs.length cc], .string f, .int .i64 ad, .int .i64 wi] w (ReachOut w (reachL ns rs bs f ad wi) (reachF ns rs bs f ad wi)) := by
  obtain ⟨wa, hwa⟩ : ∃ wa, wa = w.alloc (.cells #[.slice A ns.length ca, .slice B rs.length cb, .slice C bs.length cc] 30) := ⟨_, rfl⟩
  have hna : Nx w wa := hwa ▸ (Nx.refl w).alloc _
  have hgw : w.heap.size < wa.heap.size := by rw [hwa]; simp
  have b0 : wa.cell? ⟨w.heap.size, 0, none⟩ = some (.slice A ns.length ca) := by rw [hwa]; go_simp
  have b1 : wa.cell? ⟨w.heap.size, 1, none⟩ = some (.slice B rs.length cb) := by rw [hwa]; go_simp
  have b2 : wa.cell? ⟨w.heap.size, 2, none⟩ = some (.slice C bs.length cc) := by rw [hwa]; go_simp
  have hBox : BoxR wa w.heap.size lo A B C ca cb cc ns rs bs := ⟨b0, b1, b2, hgw, hN.nx hna, hA.nx hna, hB.nx hna, hnl, hal, hbl⟩
  have HF := hide (show reachF ns rs bs f ad wi = if endsF ns rs bs f f ad = 0 then (if outB wi 0 86400000 then 1 else 0) else endsF ns rs bs f f ad from rfl)
  have HL := hide (show reachL ns rs bs f ad wi = if reachF ns rs bs f ad wi = 0 then rOf (fun k => arrG (gphOf ns rs bs) (nodeN ns f) k ad) ad wi ns 0 else [] from rfl)
  by_cases hE : endsF ns rs bs f f ad = 0
  · obtain ⟨o1, o2, _, o4⟩ := endsF_ok hE
    have hC := (roads_ok o1).2.1
    have hmb := momB_true.1 o4
    have hil : nodeN ns f < ns.length := nodeN_lt o2
    have hi : nodeI ns f = ((nodeN ns f : Nat) : Int) := by unfold nodeN; omega
    have HEN := hide (fun W (hx : Nx wa W) => w_Ends w.heap.size lo A B C ca cb cc ns rs bs f f ad (nodeN ns f) (nodeN ns f) W (hBox.nx hx) hS o1 (newOk_of o1) hi hi o4)
    have HF := hide (HF.out.trans (if_pos hE))
    have HC := hide hC
    obtain ⟨V, hV⟩ : ∃ V : Nat → Int, V = fun k => arrG (gphOf ns rs bs) (nodeN ns f) k ad := ⟨_, rfl⟩
    rw [← hV] at HL
    have HIX := hide (fun k (hk : k < ns.length) => (show (gi (searchG (gphOf ns rs bs) (nodeN ns f) ad).first k < 0 ∧ V k = endT) ∨ (0 ≤ gi (searchG (gphOf ns rs bs) (nodeN ns f) ad).first k ∧ V k = gi (searchG (gphOf ns rs bs) (nodeN ns f) ad).first k ∧ gi (searchG (gphOf ns rs bs) (nodeN ns f) ad).first k < endT ∧ ad ≤ gi (searchG (gphOf ns rs bs) (nodeN ns f) ad).first k) by rw [hV]; exact arr_ix (bs := bs) hC hil hk hmb.1 (show ad < endT by unfold endT; omega)))
    clear hV
    have HNN := hide (hN.nx hna)
    have HTAB := hide (tab_nx htab hna)
    clear hE hBox b0 b1 b2 hN hA hB o1 o2 o4 hi hC htab
    generalize reachF ns rs bs f ad wi = F at *
    generalize reachL ns rs bs f ad wi = L at *
    generalize nodeN ns f = i at *
    have HWA := hide hwa
    clear hwa
    go_enter Tryz.func36, Tryz.ntmps36
    go_upto_region 1 with fail
    rw [← HWA.out]
    go_wp2_with fail
    refine (HEN.out wa (Nx.refl _)).mono ?_
    rintro e w1 ⟨bm, M, rfl, hbm, hM, hn1⟩
    have HM := hide hM
    have HN1 := hide hn1
    clear hM hbm hn1 HEN
    go_wp2_with fail
    refine (w_Out _ _ _ _).mono ?_
    rintro e w' ⟨rfl, rfl⟩
    cases ho : outB wi 0 86400000
    · have hwi := outB_false.1 ho
      have HF := hide (show F = 0 by rw [HF.out, ho]; rfl)
      have HL := hide (HL.out.trans (if_pos HF.out))
      clear ho
      go_wp2_with fail
      refine (w_Search w1 bm i ad w.heap.size lo A B C ca cb cc M ns rs bs HM.out HC.out hil hmb).mono ?_
      rintro e w2 ⟨a, rfl, hSM⟩
      have HTR := hide hSM.tree
      have hn2 := HN1.out.trans hSM.nx
      have HNR := hide (HNN.out.nx hn2)
      have HTB := hide (tab_nx HTAB.out hn2)
      have HN2 := hide (hna.trans hn2)
      have g0 := (HM.out.box.nx hSM.nx).g0
      clear hSM hn2 HNN HTAB HN1
      have HLN := hide (rOf_len V ad wi ns 0)
      have hF := HF.out
      subst hF
      generalize searchG (gphOf ns rs bs) i ad = R at *
      generalize hnn : ns.length = nn at *
      have HNN := hide hnn
      clear hnn HF HM HC
      go_wp2_with fail
      go_loopw [15, 40] (fun v u wr => ∃ (k : Nat) (acc : List PairS), k ≤ nn ∧ u = .int .i64 k ∧ wr.ownsRow w2.heap.size 79 2 v acc.length (acc.flatMap encPair) ∧ acc.length ≤ k ∧ L = acc ++ rOf V ad wi (ns.drop k) k ∧ Nx w2 wr) (fun _ u _ => nn - (intOf u).toNat)
      case atStart => exact ⟨0, [], Nat.zero_le _, rfl, World.ownsRow_nil _ _ _ _, Nat.le_refl _, by rw [HL.out]; rfl, Nx.refl _⟩
      case round =>
        obtain ⟨k, acc, hk, rfl, hown, hal2, hq, hbw⟩ := hrel
        have HQ := hide hq
        have HO := hide hown
        clear hq hown
        by_cases hlt : k < nn
        · have hlt' : k < ns.length := by have := HNN.out; omega
          have HD := hide (rOf_drop V ad wi ns k hlt')
          obtain ⟨b, off, rfl, _, hb, hbr, hc⟩ := HNR.out.open_ hbw (by omega)
          have c0 : wr.cell? ⟨b, off + k * 3, none⟩ = some (.string ns[k].key) := hc k hlt' 0 _ rfl
          have c1 : wr.cell? ⟨b, off + k * 3 + 1, none⟩ = some (.int .i64 ns[k].x) := hc k hlt' 1 _ rfl
          have c2 : wr.cell? ⟨b, off + k * 3 + 2, none⟩ = some (.int .i64 ns[k].y) := hc k hlt' 2 _ rfl
          clear hc
          have hix := HIX.out k hlt
          have HT := hide (reach_test (wi := wi) hix)
          have hzb : gi R.first k < 345686400000 := by unfold endT at hix; omega
          have HVZ := hide (fun h : 0 ≤ gi R.first k => (show V k = gi R.first k ∧ ad ≤ gi R.first k by rcases hix with h1 | h1 <;> omega))
          have x0 := intRow_cell HTR.out.hF (i := k) (by rw [HTR.out.lF]; exact hlt)
          generalize ns[k].key = ky at *
          generalize ns[k].x = xx at *
          generalize ns[k].y = yy at *
          generalize V k = vk at *
          generalize gi R.first k = z at *
          clear hix
          obtain ⟨wv, hwv⟩ : ∃ wv, wv = wr.alloc (.cells #[.string ky, .int .i64 xx, .int .i64 yy] 39) := ⟨_, rfl⟩
          have hnv : Nx wr wv := hwv ▸ (Nx.refl wr).alloc _
          have d0 : wv.cell? ⟨wr.heap.size, 0, none⟩ = some (.string ky) := by rw [hwv]; go_simp
          have hql : wr.heap.size < wv.heap.size := by rw [hwv]; simp
          have HWV := hide hwv
          clear hwv
          have HNQ := hide (fun j hj => (HO.out.lt j hj).2)
          go_upto_region 11 with fail
          rw [← HWV.out]
          clear c0 c1 c2
          generalize wr.heap.size = q at *
          have hx2 := hbw.trans hnv
          have t3 := nx_cell hx2 (lt_of_heap HTR.out.hT) ((cell_of_row w2 _ 3 _ _ _ HTR.out.hT).trans rfl)
          have x1 := nx_cell hx2 (lt_of_heap HTR.out.hF) x0
          have hTl := Nat.lt_of_lt_of_le (lt_of_heap HTR.out.hT) hx2.sz
          have i1 : (0 : Int) ≤ (k : Int) := by omega
          have i2 : (k : Int) < (nn : Int) := by omega
          have t3 : wv.cell? ⟨a.T, 3, none⟩ = some (.slice (some ⟨a.gF, 0, none⟩) nn nn) := t3
          clear x0
          by_cases h1 : 0 ≤ z
          · have e1 : decide (z ≥ 0) = true := decide_eq_true h1
            have e1' : decide (0 ≤ z) = true := decide_eq_true h1
            have k1 : IntKind.i64.wrap (z - ad) = z - ad := IntWalk.i64_in _ (by omega)
            by_cases h2 : z - ad ≤ wi
            · have e2 : decide (z - ad ≤ wi) = true := decide_eq_true h2
              obtain ⟨hvz, hdz⟩ := HVZ.out h1
              subst hvz
              have HD2 := hide (HD.out.trans (if_pos (HT.out.1 ⟨h1, h2⟩)))
              have hO := own_nx HO.out hnv
              have HOV := hide hO
              clear HD HT HVZ h2 hO
              go_upto_region 13 with fail
              clear t3 x1 e1 e1' e2
              refine wp_region_held_drew (S := fun w' => w'.cell? ⟨q, 0, none⟩ = some (.string ky)) (by kernel_rfl) ?_ (fun hHeld => ?_)
              · exact nx_cell (Nx.refl wv).drew hql d0
              refine wpAnyH_take (i := 0) (oi := ⟨some 61, _, _, _, _, _⟩) (v := ?_) rfl (by kernel_rfl) (by kernel_rfl) (by kernel_rfl) (fun _ _ _ h => h) (Or.inl ⟨by rfl, ?_⟩) (by assumption) ?_
              rotate_left 1
              · intro w hSw
                (try dsimp only at hSw)
                go_simp
                try with_reducible rfl
              try simp only [Act.put, List.setIfInBounds_toArray, List.set_cons_zero, List.set_cons_succ]
              refine wpAnyH_take (i := 1) (oi := ⟨some 62, _, _, _, _, _⟩) (v := ?_) rfl (by kernel_rfl) (by kernel_rfl) (by kernel_rfl) (fun _ _ _ h => h) (Or.inl ⟨by rfl, ?_⟩) (by assumption) ?_
              rotate_left 1
              · intro w hSw
                (try dsimp only at hSw)
                go_simp
                try with_reducible rfl
              try simp only [Act.put, List.setIfInBounds_toArray, List.set_cons_zero, List.set_cons_succ]
              refine wpAnyH_take (i := 2) (oi := ⟨some 63, _, _, _, _, _⟩) (v := ?_) rfl (by kernel_rfl) (by kernel_rfl) (by kernel_rfl) (fun _ _ _ h => h) (Or.inl ⟨by rfl, ?_⟩) (by assumption) ?_
              rotate_left 1
              · intro w hSw
                (try dsimp only at hSw)
                go_simp
                try with_reducible rfl
              try simp only [Act.put, List.setIfInBounds_toArray, List.set_cons_zero, List.set_cons_succ]
              refine wpAnyH_take (i := 3) (oi := ⟨some 64, _, _, _, _, _⟩) (v := ?_) rfl (by kernel_rfl) (by kernel_rfl) (by kernel_rfl) (fun _ _ _ h => h) (Or.inl ⟨by rfl, ?_⟩) (by assumption) ?_
              rotate_left 1
              · intro w hSw
                (try dsimp only at hSw)
                go_simp
                try with_reducible rfl
              try simp only [Act.put, List.setIfInBounds_toArray, List.set_cons_zero, List.set_cons_succ]
              refine wpAnyH_take (i := 4) (oi := ⟨some 65, _, _, _, _, _⟩) (v := ?_) rfl (by kernel_rfl) (by kernel_rfl) (by kernel_rfl) (fun _ _ _ h => h) (Or.inl ⟨by rfl, ?_⟩) (by assumption) ?_
              rotate_left 1
              · intro w hSw
                (try dsimp only at hSw)
                go_simp
                try with_reducible rfl
              try simp only [Act.put, List.setIfInBounds_toArray, List.set_cons_zero, List.set_cons_succ]
              refine wpAnyH_take (i := 5) (oi := ⟨some 66, _, _, _, _, _⟩) (v := ?_) rfl (by kernel_rfl) (by kernel_rfl) (by kernel_rfl) (fun _ _ _ h => h) (Or.inl ⟨by rfl, ?_⟩) (by assumption) ?_
              rotate_left 1
              · intro w hSw
                (try dsimp only at hSw)
                go_simp
                try with_reducible rfl
              try simp only [Act.put, List.setIfInBounds_toArray, List.set_cons_zero, List.set_cons_succ]
              refine wpAnyH_ready (rs := [6]) (by kernel_rfl) (by simp) ?_
              refine AllReadyH.cons rfl (fun K hK => ?_) AllReadyH.nil
              go_simp
              go_at_call 92
              refine (w_ItoaN (vk - ad) (by omega) (by omega) _ (tab_nx HTB.out (hx2.trans (Nx.refl wv).drew))).mono ?_
              rintro e w5 ⟨rfl, hn5⟩
              have h5 : Nx wv w5 := (Nx.refl wv).drew.trans hn5
              go_simp
              refine hK.out _ _ (nx_cell h5 hql d0) (fun hHeld => ?_)
              clear hK K
              try simp only [Act.put, List.setIfInBounds_toArray, List.set_cons_zero, List.set_cons_succ]
              refine wpAnyH_take (i := 7) (oi := ⟨some 68, _, _, _, _, _⟩) (v := ?_) rfl (by kernel_rfl) (by kernel_rfl) (by kernel_rfl) (fun _ _ _ h => h) (Or.inl ⟨by rfl, ?_⟩) (by assumption) ?_
              rotate_left 1
              · intro w hSw
                (try dsimp only at hSw)
                go_simp
                try with_reducible rfl
              try simp only [Act.put, List.setIfInBounds_toArray, List.set_cons_zero, List.set_cons_succ]
              refine wpAnyH_ready (rs := [8]) (by kernel_rfl) (by simp) ?_
              refine AllReadyH.cons rfl (fun K hK => ?_) AllReadyH.nil
              go_simp
              refine hK.out _ _ (nx_cell (h5.alloc _) hql d0) (fun hHeld => ?_)
              clear hK K
              try simp only [Act.put, List.setIfInBounds_toArray, List.set_cons_zero, List.set_cons_succ]
              refine wpAnyH_ready (rs := [9]) (by kernel_rfl) (by simp) ?_
              refine AllReadyH.cons rfl (fun K hK => ?_) AllReadyH.nil
              refine step_app rfl _ _ _ rfl el_Pair encPair encPair_len encPair_one (by omega) (by omega) w2.heap.size _ acc rfl ((own_nx HOV.out h5).alloc _) _ ⟨ky, itoaS (vk - ad)⟩ _ rfl (hnew rfl) rfl (by omega) (by have := hx2.sz; have := h5.sz; simp; omega) ?_
              intro v6 w6 hown6 hg6 _
              have hn6 : Nx w2 w6 := (((hx2.trans h5).alloc _).grown hg6 (fun j hj => own_blk_lt HOV.out j hj))
              have HO6 := hide hown6
              clear hown6
              refine hK.out _ _ (World.grownBy.cell hg6 (nx_cell (h5.alloc _) hql d0) ?_) (fun hHeld => ?_)
              · intro e; exact absurd (HNQ.out q e.symm) (Nat.lt_irrefl _)
              clear hK K
              try simp only [Act.put, List.setIfInBounds_toArray]
              refine wpAnyH_take (i := 10) (oi := ⟨some 15, _, _, _, _, _⟩) (v := ?_) rfl (by kernel_rfl) (by kernel_rfl) (by kernel_rfl) (fun _ _ _ h => h) (Or.inl ⟨by rfl, ?_⟩) (by assumption) ?_
              rotate_left 1
              · intro w hSw
                (try dsimp only at hSw)
                go_simp
                try with_reducible rfl
              try simp only [Act.put]
              refine wpAnyH_done (by kernel_rfl) ?_ _
              go_wp2_with fail
              go_roundw
              case rel => exact ⟨k + 1, acc ++ [⟨ky, itoaS (vk - ad)⟩], by omega, by go_num, HO6.out, by simp; omega, by rw [HQ.out, HD2.out]; simp, hn6⟩
              case measure => simp [intOf]; omega
            · have e2 : decide (z - ad ≤ wi) = false := decide_eq_false h2
              have HD2 := hide (HD.out.trans (if_neg (fun h => h2 (HT.out.2 h).2)))
              clear HD HT HVZ h2 h1
              go_wp2_with fail
              go_roundw
              case rel => exact ⟨k + 1, acc, by omega, by go_num, own_nx HO.out hnv, by omega, by rw [HQ.out, HD2.out], hx2⟩
              case measure => simp [intOf]; omega
          · have e1 : decide (z ≥ 0) = false := decide_eq_false h1
            have e1' : decide (0 ≤ z) = false := decide_eq_false h1
            have HD2 := hide (HD.out.trans (if_neg (fun h => h1 (HT.out.2 h).1)))
            clear HD HT HVZ h1
            go_wp2_with fail
            go_roundw
            case rel => exact ⟨k + 1, acc, by omega, by go_num, own_nx HO.out hnv, by omega, by rw [HQ.out, HD2.out], hx2⟩
            case measure => simp [intOf]; omega
        · obtain rfl : nn = k := by omega
          have hLL : L = acc := by rw [HQ.out, List.drop_of_length_le (by have := HNN.out; omega)]; simp [rOf]
          subst hLL
          obtain ⟨Z, c, rfl, hRd, _⟩ := Rd.of_own encPair_len rfl HO.out
          have HRd := hide hRd
          clear hRd HO HQ
          go_wp2_with fail
          exact bodyPost_ret (v := .tuple #[.slice Z L.length c, .int .i64 0]) (by simp [results, Tryz.results36, go_sem]) rfl ⟨Z, c, rfl, HRd.out.low (Nat.zero_le _), HN2.out.trans hbw⟩
    · have HF := hide (show F = 1 by rw [HF.out, ho]; rfl)
      have hL : L = [] := HL.out.trans (if_neg (by rw [HF.out]; decide))
      subst hL
      have hF := HF.out
      subst hF
      clear ho
      go_wp2_with fail
      exact bodyPost_ret (v := .tuple #[.slice none 0 0, .int .i64 1]) (by simp [results, Tryz.results36, go_sem]) rfl ⟨none, 0, rfl, Rd.nil, hna.trans HN1.out⟩
  · have HEN := hide (fun W (hx : Nx wa W) => w_EndsBad w.heap.size lo A B C ca cb cc ns rs bs f f ad W (hBox.nx hx) hS hE)
    have hF := HF.out.trans (if_neg hE)
    have hL : reachL ns rs bs f ad wi = [] := HL.out.trans (if_neg (by rw [hF]; exact hE))
    rw [hL, hF]
    clear hBox b0 b1 b2 hN hA hB HF HL hF hL htab
    generalize endsF ns rs bs f f ad = E at *
    have tE : (E == 0) = false := by simpa using hE
    have tE2 : (E != 0) = true := by simpa using hE
    clear hE
    have HWA := hide hwa
    clear hwa
    go_enter Tryz.func36, Tryz.ntmps36
    go_upto_region 1 with fail
    rw [← HWA.out]
    go_wp2_with fail
    refine (HEN.out wa (Nx.refl _)).mono ?_
    rintro e w1 ⟨rfl, hn1⟩
    go_wp2_with fail
    exact bodyPost_ret (v := .tuple #[.slice none 0 0, .int .i64 E]) (by simp [results, Tryz.results36, go_sem]) rfl ⟨none, 0, rfl, Rd.nil, hna.trans hn1⟩
end Go.Proofs.YtklgknepamebdaaGreatDoor
/- The nodes that are reached in a time: the reference. -/
namespace Go.Proofs.YtklgknepamebdaaGreatDoor
open Go.RowKit

set_option maxRecDepth 100000 in
set_option maxHeartbeats 8000000 in
theorem w_ReachOf (lo : Nat) (A B C : Option Addr) (ca cb cc : Nat) (ns : List Node) (rs : List Arc) (bs : List Ban) (f : ByteArray) (ad wi : Int) (w : World)
    (hN : Rd w lo A 3 encNode ns) (hnl : ns.length ≤ 400) (hSN : SortN ns) (hVR : ValR w lo A B C ns.length ca cb cc ns rs bs) (hf : 0 ≤ nodeI ns f) (ha : 0 ≤ ad ∧ ad ≤ 345686399999) (_hw : 0 ≤ wi ∧ wi ≤ 86400000) (htab : PowTab w) :
    Calls Tryz.prog 40 #[.agg #[.slice A ns.length ca, .slice B rs.length cb, .slice C bs.length cc], .string f, .int .i64 ad, .int .i64 wi] w fun e w' => ∃ (Z : Option Addr) (c : Nat), e = .returned (.slice Z (rOf (fun k => arrG (gphOf ns rs bs) (nodeN ns f) k ad) ad wi ns 0).length c) ∧ Rd w' 0 Z 2 encPair (rOf (fun k => arrG (gphOf ns rs bs) (nodeN ns f) k ad) ad wi ns 0) ∧ Nx w w' := by
  obtain ⟨wa, hwa⟩ : ∃ wa, wa = w.alloc (.cells #[.slice A ns.length ca, .slice B rs.length cb, .slice C bs.length cc] 30) := ⟨_, rfl⟩
  have hna : Nx w wa := hwa ▸ (Nx.refl w).alloc _
  have hgw : w.heap.size < wa.heap.size := by rw [hwa]; simp
  have b0 : wa.cell? ⟨w.heap.size, 0, none⟩ = some (.slice A ns.length ca) := by rw [hwa]; go_simp
  have b1 : wa.cell? ⟨w.heap.size, 1, none⟩ = some (.slice B rs.length cb) := by rw [hwa]; go_simp
  have b2 : wa.cell? ⟨w.heap.size, 2, none⟩ = some (.slice C bs.length cc) := by rw [hwa]; go_simp
  have HBX := hide (fun W (hx : Nx wa W) => (⟨nx_cell hx hgw b0, nx_cell hx hgw b1, nx_cell hx hgw b2⟩ : W.cell? ⟨w.heap.size, 0, none⟩ = some (.slice A ns.length ca) ∧ W.cell? ⟨w.heap.size, 1, none⟩ = some (.slice B rs.length cb) ∧ W.cell? ⟨w.heap.size, 2, none⟩ = some (.slice C bs.length cc)))
  obtain ⟨V, hV⟩ : ∃ V : Nat → Int, V = fun k => arrG (gphOf ns rs bs) (nodeN ns f) k ad := ⟨_, rfl⟩
  have HAR := hide (fun (k : Nat) (ky : ByteArray) (hky : nodeI ns ky = (k : Int)) W (hx : Nx wa W) => (show Calls Tryz.prog 32 #[.agg #[.slice A ns.length ca, .slice B rs.length cb, .slice C bs.length cc], .string f, .string ky, .int .i64 ad] W fun e w' => e = .returned (.int .i64 (V k)) ∧ Nx W w' by
    have h := w_ArriveAt lo A B C ns.length ca cb cc ns rs bs f ky ad W (hVR.nx (hna.trans hx)) hf (by rw [hky]; omega) ha
    have e2 : nodeN ns ky = k := by unfold nodeN; rw [hky]; rfl
    rw [e2] at h
    rw [hV]
    exact h))
  have HKY := hide (fun (k : Nat) (hk : k < ns.length) => node_at hSN hk)
  have HVB := hide (fun (k : Nat) (hk : k < ns.length) => (show ad ≤ V k ∧ V k ≤ endT by rw [hV]; exact arrG_bd (gph_ok (bs := bs) hVR.hC) ha.1 (by unfold endT; omega) (show nodeN ns f < (gphOf ns rs bs).nn from nodeN_lt hf) hk))
  have HNR := hide (hN.nx hna)
  have HTB := hide (tab_nx htab hna)
  rw [← hV]
  obtain ⟨L, hL⟩ : ∃ L, L = rOf V ad wi ns 0 := ⟨_, rfl⟩
  rw [← hL]
  have HL := hide hL
  have HWA := hide hwa
  have HNA := hide hna
  clear hwa hna b0 b1 b2 hN hVR hf htab hV hL hSN
  generalize hnn : ns.length = nn at *
  have HNN := hide hnn
  clear hnn
  generalize rs.length = nr at *
  generalize bs.length = nb at *
  go_enter Tryz.func40, Tryz.ntmps40
  go_upto_region 2 with fail
  rw [← HWA.out]
  generalize w.heap.size = g at *
  obtain ⟨b0, b1, b2⟩ := HBX.out wa (Nx.refl _)
  go_wp2_with fail
  clear b0 b1 b2
  go_loopw [9, 16] (fun v u wr => ∃ (k : Nat) (acc : List PairS), k ≤ nn ∧ u = .int .i64 k ∧ wr.ownsRow wa.heap.size 79 2 v acc.length (acc.flatMap encPair) ∧ acc.length ≤ k ∧ L = acc ++ rOf V ad wi (ns.drop k) k ∧ Nx wa wr) (fun _ u _ => nn - (intOf u).toNat)
  case atStart => exact ⟨0, [], Nat.zero_le _, rfl, World.ownsRow_nil _ _ _ _, Nat.le_refl _, by rw [HL.out]; rfl, Nx.refl _⟩
  case round =>
    obtain ⟨k, acc, hk, rfl, hown, hal2, hq, hbw⟩ := hrel
    have HQ := hide hq
    have HO := hide hown
    clear hq hown
    by_cases hlt : k < nn
    · have hlt' : k < ns.length := by have := HNN.out; omega
      have HD := hide (rOf_drop V ad wi ns k hlt')
      obtain ⟨b, off, rfl, _, hb, hbr, hc⟩ := HNR.out.open_ hbw (by omega)
      have c0 : wr.cell? ⟨b, off + k * 3, none⟩ = some (.string ns[k].key) := hc k hlt' 0 _ rfl
      have c1 : wr.cell? ⟨b, off + k * 3 + 1, none⟩ = some (.int .i64 ns[k].x) := hc k hlt' 1 _ rfl
      have c2 : wr.cell? ⟨b, off + k * 3 + 2, none⟩ = some (.int .i64 ns[k].y) := hc k hlt' 2 _ rfl
      clear hc
      obtain ⟨hv1, hv2⟩ := HVB.out k (by first | assumption | (have := HNN.out; omega))
      have hky := HKY.out k (by first | assumption | (have := HNN.out; omega))
      rw [show ns.getD k default = ns[k] by rw [List.getD_eq_getElem?_getD, List.getElem?_eq_getElem hlt']; rfl] at hky
      have HAK := hide (fun W hx => HAR.out k _ hky W hx)
      clear hky
      generalize ns[k].key = ky at *
      generalize ns[k].x = xx at *
      generalize ns[k].y = yy at *
      generalize V k = vk at *
      obtain ⟨wv, hwv⟩ : ∃ wv, wv = wr.alloc (.cells #[.string ky, .int .i64 xx, .int .i64 yy] 39) := ⟨_, rfl⟩
      have hnv : Nx wr wv := hwv ▸ (Nx.refl wr).alloc _
      have d0 : wv.cell? ⟨wr.heap.size, 0, none⟩ = some (.string ky) := by rw [hwv]; go_simp
      have hql : wr.heap.size < wv.heap.size := by rw [hwv]; simp
      have HWV := hide hwv
      have HNQ := hide (fun j hj => (HO.out.lt j hj).2)
      clear hwv
      go_upto_region 5 with fail
      rw [← HWV.out]
      clear c0 c1 c2
      generalize wr.heap.size = q at *
      have hx2 := hbw.trans hnv
      obtain ⟨b0, b1, b2⟩ := HBX.out wv hx2
      have HD0 := hide d0
      go_wp2_with fail
      refine (HAK.out wv hx2).mono ?_
      rintro e w3 ⟨rfl, hn3⟩
      have hx3 := hx2.trans hn3
      have hv3 := hnv.trans hn3
      have e0 := nx_cell hn3 hql d0
      have hq3 := Nat.lt_of_lt_of_le hql hn3.sz
      clear b0 b1 b2 d0 HAK HD0
      have k1 : IntKind.i64.wrap (vk - ad) = vk - ad := IntWalk.i64_in _ (by unfold endT at hv2; omega)
      by_cases h1 : vk < 345686400000
      · have e1 : decide (vk < 345686400000) = true := decide_eq_true h1
        by_cases h2 : vk - ad ≤ wi
        · have e2 : decide (vk - ad ≤ wi) = true := decide_eq_true h2
          have HD2 := hide (HD.out.trans (if_pos ⟨h1, h2⟩))
          have HOV := hide (own_nx HO.out hv3)
          clear HD h2
          go_upto_region 7 with fail
          clear e1 e2
          refine wp_region_held_drew (S := fun w' => w'.cell? ⟨q, 0, none⟩ = some (.string ky)) (by kernel_rfl) ?_ (fun hHeld => ?_)
          · exact nx_cell (Nx.refl w3).drew hq3 e0
          refine wpAnyH_take (i := 0) (oi := ⟨some 35, _, _, _, _, _⟩) (v := ?_) rfl (by kernel_rfl) (by kernel_rfl) (by kernel_rfl) (fun _ _ _ h => h) (Or.inl ⟨by rfl, ?_⟩) (by assumption) ?_
          rotate_left 1
          · intro w hSw
            (try dsimp only at hSw)
            go_simp
            try with_reducible rfl
          try simp only [Act.put, List.setIfInBounds_toArray, List.set_cons_zero, List.set_cons_succ]
          refine wpAnyH_take (i := 1) (oi := ⟨some 36, _, _, _, _, _⟩) (v := ?_) rfl (by kernel_rfl) (by kernel_rfl) (by kernel_rfl) (fun _ _ _ h => h) (Or.inl ⟨by rfl, ?_⟩) (by assumption) ?_
          rotate_left 1
          · intro w hSw
            (try dsimp only at hSw)
            go_simp
            try with_reducible rfl
          try simp only [Act.put, List.setIfInBounds_toArray, List.set_cons_zero, List.set_cons_succ]
          refine wpAnyH_take (i := 2) (oi := ⟨some 37, _, _, _, _, _⟩) (v := ?_) rfl (by kernel_rfl) (by kernel_rfl) (by kernel_rfl) (fun _ _ _ h => h) (Or.inl ⟨by rfl, ?_⟩) (by assumption) ?_
          rotate_left 1
          · intro w hSw
            (try dsimp only at hSw)
            go_simp
            try with_reducible rfl
          try simp only [Act.put, List.setIfInBounds_toArray, List.set_cons_zero, List.set_cons_succ]
          refine wpAnyH_take (i := 3) (oi := ⟨some 38, _, _, _, _, _⟩) (v := ?_) rfl (by kernel_rfl) (by kernel_rfl) (by kernel_rfl) (fun _ _ _ h => h) (Or.inl ⟨by rfl, ?_⟩) (by assumption) ?_
          rotate_left 1
          · intro w hSw
            (try dsimp only at hSw)
            go_simp
            try with_reducible rfl
          try simp only [Act.put, List.setIfInBounds_toArray, List.set_cons_zero, List.set_cons_succ]
          refine wpAnyH_take (i := 4) (oi := ⟨some 39, _, _, _, _, _⟩) (v := ?_) rfl (by kernel_rfl) (by kernel_rfl) (by kernel_rfl) (fun _ _ _ h => h) (Or.inl ⟨by rfl, ?_⟩) (by assumption) ?_
          rotate_left 1
          · intro w hSw
            (try dsimp only at hSw)
            go_simp
            try with_reducible rfl
          try simp only [Act.put, List.setIfInBounds_toArray, List.set_cons_zero, List.set_cons_succ]
          refine wpAnyH_take (i := 5) (oi := ⟨some 40, _, _, _, _, _⟩) (v := ?_) rfl (by kernel_rfl) (by kernel_rfl) (by kernel_rfl) (fun _ _ _ h => h) (Or.inl ⟨by rfl, ?_⟩) (by assumption) ?_
          rotate_left 1
          · intro w hSw
            (try dsimp only at hSw)
            go_simp
            try with_reducible rfl
          try simp only [Act.put, List.setIfInBounds_toArray, List.set_cons_zero, List.set_cons_succ]
          refine wpAnyH_ready (rs := [6]) (by kernel_rfl) (by simp) ?_
          refine AllReadyH.cons rfl (fun K hK => ?_) AllReadyH.nil
          go_simp
          go_at_call 92
          refine (w_ItoaN (vk - ad) (by omega) (by omega) _ (tab_nx HTB.out (hx3.trans (Nx.refl w3).drew))).mono ?_
          rintro e w5 ⟨rfl, hn5⟩
          have h5 : Nx w3 w5 := (Nx.refl w3).drew.trans hn5
          go_simp
          refine hK.out _ _ (nx_cell h5 hq3 e0) (fun hHeld => ?_)
          clear hK K
          try simp only [Act.put, List.setIfInBounds_toArray, List.set_cons_zero, List.set_cons_succ]
          refine wpAnyH_take (i := 7) (oi := ⟨some 42, _, _, _, _, _⟩) (v := ?_) rfl (by kernel_rfl) (by kernel_rfl) (by kernel_rfl) (fun _ _ _ h => h) (Or.inl ⟨by rfl, ?_⟩) (by assumption) ?_
          rotate_left 1
          · intro w hSw
            (try dsimp only at hSw)
            go_simp
            try with_reducible rfl
          try simp only [Act.put, List.setIfInBounds_toArray, List.set_cons_zero, List.set_cons_succ]
          refine wpAnyH_ready (rs := [8]) (by kernel_rfl) (by simp) ?_
          refine AllReadyH.cons rfl (fun K hK => ?_) AllReadyH.nil
          go_simp
          refine hK.out _ _ (nx_cell (h5.alloc _) hq3 e0) (fun hHeld => ?_)
          clear hK K
          try simp only [Act.put, List.setIfInBounds_toArray, List.set_cons_zero, List.set_cons_succ]
          refine wpAnyH_ready (rs := [9]) (by kernel_rfl) (by simp) ?_
          refine AllReadyH.cons rfl (fun K hK => ?_) AllReadyH.nil
          refine step_app rfl _ _ _ rfl el_Pair encPair encPair_len encPair_one (by omega) (by omega) wa.heap.size _ acc rfl ((own_nx HOV.out h5).alloc _) _ ⟨ky, itoaS (vk - ad)⟩ _ rfl (hnew rfl) rfl (by omega) (by have := hx3.sz; have := h5.sz; simp; omega) ?_
          intro v6 w6 hown6 hg6 _
          have hn6 : Nx wa w6 := (((hx3.trans h5).alloc _).grown hg6 (fun j hj => own_blk_lt HOV.out j hj))
          have HO6 := hide hown6
          clear hown6
          refine hK.out _ _ (World.grownBy.cell hg6 (nx_cell (h5.alloc _) hq3 e0) ?_) (fun hHeld => ?_)
          · intro e; exact absurd (HNQ.out q e.symm) (Nat.lt_irrefl _)
          clear hK K
          try simp only [Act.put, List.setIfInBounds_toArray]
          refine wpAnyH_take (i := 10) (oi := ⟨some 9, _, _, _, _, _⟩) (v := ?_) rfl (by kernel_rfl) (by kernel_rfl) (by kernel_rfl) (fun _ _ _ h => h) (Or.inl ⟨by rfl, ?_⟩) (by assumption) ?_
          rotate_left 1
          · intro w hSw
            (try dsimp only at hSw)
            go_simp
            try with_reducible rfl
          try simp only [Act.put]
          refine wpAnyH_done (by kernel_rfl) ?_ _
          go_wp2_with fail
          go_roundw
          case rel => exact ⟨k + 1, acc ++ [⟨ky, itoaS (vk - ad)⟩], by omega, by go_num, HO6.out, by simp; omega, by rw [HQ.out, HD2.out]; simp, hn6⟩
          case measure => simp [intOf]; omega
        · have e2 : decide (vk - ad ≤ wi) = false := decide_eq_false h2
          have HD2 := hide (HD.out.trans (if_neg (fun h => h2 h.2)))
          clear HD h2 h1
          go_wp2_with fail
          go_roundw
          case rel => exact ⟨k + 1, acc, by omega, by go_num, own_nx HO.out hv3, by omega, by rw [HQ.out, HD2.out], hx3⟩
          case measure => simp [intOf]; omega
      · have e1 : decide (vk < 345686400000) = false := decide_eq_false h1
        have HD2 := hide (HD.out.trans (if_neg (fun h => h1 h.1)))
        clear HD h1
        go_wp2_with fail
        go_roundw
        case rel => exact ⟨k + 1, acc, by omega, by go_num, own_nx HO.out hv3, by omega, by rw [HQ.out, HD2.out], hx3⟩
        case measure => simp [intOf]; omega
    · obtain rfl : nn = k := by omega
      have hLL : L = acc := by rw [HQ.out, List.drop_of_length_le (by have := HNN.out; omega)]; simp [rOf]
      subst hLL
      obtain ⟨Z, c, rfl, hRd, _⟩ := Rd.of_own encPair_len rfl HO.out
      have HRd := hide hRd
      clear hRd HO HQ
      go_wp2_with fail
      go_ret
      exact ⟨Z, c, rfl, HRd.out.low (Nat.zero_le _), HNA.out.trans hbw⟩
end Go.Proofs.YtklgknepamebdaaGreatDoor
/- Are all that are asked for nodes? The program and the reference. -/
namespace Go.Proofs.YtklgknepamebdaaGreatDoor
open Go.RowKit

theorem idxP_any {α : Type} (p : α → Bool) : ∀ (l : List α) (k : Nat), decide (0 ≤ idxP p l k) = l.any p
  | [], _ => rfl
  | n :: l, k => by
    unfold idxP
    cases h : p n with
    | true => rw [if_pos rfl, List.any_cons, h]; exact decide_eq_true (by omega)
    | false => rw [if_neg (by simp), List.any_cons, h, Bool.false_or]; exact idxP_any p l (k + 1)
set_option maxRecDepth 100000 in
set_option maxHeartbeats 1000000 in
theorem w_IndexFS (g : Nat) (p : ByteArray → Bool) (cap : Value) (eg : Enters g) (lo : Nat) (A : Option Addr) (c : Nat) (l : List ByteArray) (w : World) (hcl : ∀ (y : ByteArray) W, Nx w W → Calls Tryz.prog g #[.string y, cap] W fun e w' => e = .returned (.bool (p y)) ∧ Nx W w')
    (hR : Rd w lo A 1 encS l) (hl : l.length ≤ 65536) :
    Calls Tryz.prog 127 #[.slice A l.length c, .func (.func g) #[] #[cap]] w fun e w' => e = .returned (.int .i64 (findI p l)) ∧ Nx w w' := by
  generalize hn : l.length = n at *
  have HR := hide hR
  have HN := hide hn
  have HC0 := hide hcl
  clear hR hn hcl
  unfold Enters at eg
  go_enter Tryz.func127, Tryz.ntmps127
  go_wp2
  go_loopw [5, 8] (fun _ i wr => ∃ k : Nat, k ≤ n ∧ i = .int .i64 k ∧ Nx w wr ∧ findI p l = idxP p (l.drop k) k) (fun _ i _ => n - (intOf i).toNat)
  case atStart => exact ⟨0, Nat.zero_le _, rfl, Nx.refl _, rfl⟩
  case round =>
    obtain ⟨k, hk, rfl, hbw, hq⟩ := hrel
    have HQ := hide hq
    clear hq
    by_cases hlt : k < n
    · have hlt' : k < l.length := by have := HN.out; omega
      obtain ⟨b, off, rfl, _, hb, hbr, hc⟩ := HR.out.open_ hbw (by omega)
      have c0 : wr.cell? ⟨b, off + k, none⟩ = some (.string l[k]) := by have := hc k hlt' 0 _ rfl; simpa using this
      clear hc
      have HD := hide (idxP_drop p l k hlt')
      have hcl := fun W (h : Nx w W) => HC0.out l[k] W h
      generalize l[k] = y at *
      cases hbig : p y
      all_goals
        have HB := hide hbig
        rw [hbig] at hcl
        have HCL := hide hcl
        clear hbig hcl
        go_wp2_with (go_at_fn g; refine (HCL.out _ hbw).mono ?_; rintro e w2 ⟨rfl, hn2⟩)
      · go_roundw
        case rel => exact ⟨k + 1, by omega, by go_num, hbw.trans hn2, by rw [HQ.out, HD.out, HB.out, if_neg (by simp)]⟩
        case measure => simp [intOf]; omega
      · go_ret
        exact ⟨ret_int (by rw [HQ.out, HD.out, HB.out, if_pos rfl]), hbw.trans hn2⟩
    · go_wp2
      go_ret
      exact ⟨ret_int (by rw [HQ.out, List.drop_of_length_le (by have := HN.out; omega)]; rfl), hbw⟩
set_option maxRecDepth 100000 in
set_option maxHeartbeats 1000000 in
theorem w_ContFS (g : Nat) (p : ByteArray → Bool) (cap : Value) (eg : Enters g) (lo : Nat) (A : Option Addr) (c : Nat) (l : List ByteArray) (w : World) (hcl : ∀ (y : ByteArray) W, Nx w W → Calls Tryz.prog g #[.string y, cap] W fun e w' => e = .returned (.bool (p y)) ∧ Nx W w')
    (hR : Rd w lo A 1 encS l) (hl : l.length ≤ 65536) :
    Calls Tryz.prog 60 #[.slice A l.length c, .func (.func g) #[] #[cap]] w fun e w' => e = .returned (.bool (l.any p)) ∧ Nx w w' := by
  have HC := hide (w_IndexFS g p cap eg lo A c l w hcl hR hl)
  have HA := hide (idxP_any p l 0)
  rw [show idxP p l 0 = findI p l from rfl] at HA
  generalize findI p l = r at *
  generalize l.any p = z at *
  clear hcl eg hR hl
  generalize l.length = n at *
  have h1 := HA.out
  have h2 : decide (r ≥ 0) = z := h1
  go_enter Tryz.func60, Tryz.ntmps60
  go_wp2_with (go_at_call 127; refine HC.out.mono ?_; rintro e w2 ⟨rfl, hn2⟩)
  go_ret
  exact ⟨rfl, hn2⟩
/-- Is one no node? -/
def missB (ns : List Node) (l : List ByteArray) : Bool := l.any fun s => decide (nodeI ns s < 0)
def askF (ns : List Node) (l : List ByteArray) (most : Int) : Int := if most < (l.length : Int) then 2 else if missB ns l then 8 else 0
section
variable (g0 lo : Nat) (A : Option Addr) (c : Nat) (ns : List Node)
set_option maxRecDepth 100000 in
set_option maxHeartbeats 1000000 in
theorem w_near1 (y : ByteArray) (w : World) (hg : w.cell? ⟨g0, 0, none⟩ = some (.slice A ns.length c)) (hR : Rd w lo A 3 encNode ns) (hl : ns.length ≤ 65536) (hs : SortN ns) :
    Calls Tryz.prog 93 #[.string y, .pointer (some ⟨g0, 0, none⟩)] w fun e w' => e = .returned (.bool (decide (nodeI ns y < 0))) ∧ Nx w w' := by
  have HC := hide (w_nodeR g0 lo A c ns y w hg hR hl hs)
  clear hg hR hs
  generalize nodeI ns y = r at *
  generalize ns.length = n at *
  go_enter Tryz.func93, Tryz.ntmps93
  go_wp2_with (go_at_call 94; refine HC.out.mono ?_; rintro e w2 ⟨rfl, hn2⟩)
  go_ret
  exact ⟨rfl, hn2⟩
set_option maxRecDepth 100000 in
set_option maxHeartbeats 1000000 in
theorem w_matr1 (y : ByteArray) (w : World) (hg : w.cell? ⟨g0, 0, none⟩ = some (.slice A ns.length c)) (hR : Rd w lo A 3 encNode ns) (hl : ns.length ≤ 65536) (hs : SortN ns) :
    Calls Tryz.prog 97 #[.string y, .pointer (some ⟨g0, 0, none⟩)] w fun e w' => e = .returned (.bool (decide (nodeI ns y < 0))) ∧ Nx w w' := by
  have HC := hide (w_nodeR g0 lo A c ns y w hg hR hl hs)
  clear hg hR hs
  generalize nodeI ns y = r at *
  generalize ns.length = n at *
  go_enter Tryz.func97, Tryz.ntmps97
  go_wp2_with (go_at_call 94; refine HC.out.mono ?_; rintro e w2 ⟨rfl, hn2⟩)
  go_ret
  exact ⟨rfl, hn2⟩
end
set_option maxRecDepth 100000 in
set_option maxHeartbeats 1000000 in
theorem w_nodesF1 (g0 lo : Nat) (A B C : Option Addr) (n1 n2 c1 c2 c3 : Nat) (ns : List Node) (y : ByteArray) (w : World) (h0 : w.cell? ⟨g0, 0, none⟩ = some (.slice A ns.length c1)) (h1 : w.cell? ⟨g0, 1, none⟩ = some (.slice B n1 c2)) (h2 : w.cell? ⟨g0, 2, none⟩ = some (.slice C n2 c3)) (hR : Rd w lo A 3 encNode ns) (hl : ns.length ≤ 65536) :
    Calls Tryz.prog 77 #[.string y, .pointer (some ⟨g0, 0, none⟩)] w fun e w' => e = .returned (.bool (decide (nodeI ns y < 0))) ∧ Nx w w' := by
  have HC := hide (w_NodeAt lo A B C n1 n2 c1 c2 c3 ns y w hR hl)
  clear hR
  generalize nodeI ns y = r at *
  generalize ns.length = n at *
  go_enter Tryz.func77, Tryz.ntmps77
  go_wp2_with (go_at_call 73; refine HC.out.mono ?_; rintro e w2 ⟨rfl, hn2⟩)
  go_ret
  exact ⟨rfl, hn2⟩
theorem eg_nodesF1 : Enters 77 := enters_of Tryz.func77 (by kernel_rfl) rfl
theorem eg_near1 : Enters 93 := enters_of Tryz.func93 (by kernel_rfl) rfl
theorem eg_matr1 : Enters 97 := enters_of Tryz.func97 (by kernel_rfl) rfl
set_option maxRecDepth 100000 in
set_option maxHeartbeats 1000000 in
theorem w_NodesFault (lo : Nat) (A B C : Option Addr) (n1 n2 c1 c2 c3 : Nat) (ns : List Node) (lo2 : Nat) (D : Option Addr) (cd : Nat) (l : List ByteArray) (most : Int) (w : World) (hR : Rd w lo A 3 encNode ns) (hl : ns.length ≤ 65536) (hD : Rd w lo2 D 1 encS l) (hdl : l.length ≤ 65536) :
    Calls Tryz.prog 22 #[.agg #[.slice A ns.length c1, .slice B n1 c2, .slice C n2 c3], .slice D l.length cd, .int .i64 most] w fun e w' => e = .returned (.int .i64 (askF ns l most)) ∧ Nx w w' := by
  obtain ⟨wa, hwa⟩ : ∃ wa, wa = w.alloc (.cells #[.slice A ns.length c1, .slice B n1 c2, .slice C n2 c3] 30) := ⟨_, rfl⟩
  have hna : Nx w wa := hwa ▸ (Nx.refl w).alloc _
  have hgw : w.heap.size < wa.heap.size := by rw [hwa]; simp
  have b0 : wa.cell? ⟨w.heap.size, 0, none⟩ = some (.slice A ns.length c1) := by rw [hwa]; go_simp
  have b1 : wa.cell? ⟨w.heap.size, 1, none⟩ = some (.slice B n1 c2) := by rw [hwa]; go_simp
  have b2 : wa.cell? ⟨w.heap.size, 2, none⟩ = some (.slice C n2 c3) := by rw [hwa]; go_simp
  have HC := hide (w_ContFS 77 (fun s => decide (nodeI ns s < 0)) (.pointer (some ⟨w.heap.size, 0, none⟩)) eg_nodesF1 lo2 D cd l wa (fun y W hx => w_nodesF1 w.heap.size lo A B C n1 n2 c1 c2 c3 ns y W (nx_cell hx hgw b0) (nx_cell hx hgw b1) (nx_cell hx hgw b2) (hR.nx (hna.trans hx)) hl) (hD.nx hna) hdl)
  rw [show (l.any fun s => decide (nodeI ns s < 0)) = missB ns l from rfl] at HC
  have HF := hide (show askF ns l most = if most < (l.length : Int) then 2 else if missB ns l then 8 else 0 from rfl)
  generalize askF ns l most = F at *
  generalize missB ns l = z at *
  have HWA := hide hwa
  have HNA := hide hna
  clear hwa hna b0 b1 b2 hR hD hgw
  generalize l.length = n at *
  generalize ns.length = nn at *
  by_cases hm : most < (n : Int)
  · have tm : decide ((n : Int) > most) = true := decide_eq_true hm
    have hF := HF.out.trans (if_pos hm)
    subst hF
    clear hm
    go_enter Tryz.func22, Tryz.ntmps22
    go_wp2_with fail
    go_ret
    exact ⟨rfl, (Nx.refl _).alloc _⟩
  · have tm : decide ((n : Int) > most) = false := decide_eq_false hm
    have hF := HF.out.trans (if_neg hm)
    clear hm
    go_enter Tryz.func22, Tryz.ntmps22
    go_upto_region 3 with fail
    rw [← HWA.out]
    generalize w.heap.size = k at *
    go_wp2_with fail
    refine HC.out.mono ?_
    rintro e w2 ⟨rfl, hn2⟩
    cases z
    · rw [if_neg (by simp)] at hF
      subst hF
      go_wp2_with fail
      go_ret
      exact ⟨rfl, HNA.out.trans hn2⟩
    · rw [if_pos rfl] at hF
      subst hF
      go_wp2_with fail
      go_ret
      exact ⟨rfl, HNA.out.trans hn2⟩
end Go.Proofs.YtklgknepamebdaaGreatDoor
/- Plain: the node from which another one is reached first. -/
namespace Go.Proofs.YtklgknepamebdaaGreatDoor

/-- The first of those from which one arrives at the earliest, and when. -/
def nearO (v : ByteArray → Int) : List ByteArray → Nat → Int → Int → Int × Int
  | [], _, fi, be => (fi, be)
  | s :: l, k, fi, be => if v s < be then nearO v l (k + 1) (k : Int) (v s) else nearO v l (k + 1) fi be
theorem nearO_drop (v : ByteArray → Int) (l : List ByteArray) (k : Nat) (hk : k < l.length) (fi be : Int) : nearO v (l.drop k) k fi be = if v l[k] < be then nearO v (l.drop (k + 1)) (k + 1) (k : Int) (v l[k]) else nearO v (l.drop (k + 1)) (k + 1) fi be := by
  rw [List.drop_eq_getElem_cons hk, nearO]
/-- What is wrong with what Nearest is asked (of no more than 200 nodes). -/
def nearF (ns : List Node) (rs : List Arc) (bs : List Ban) (l : List ByteArray) (to_ : ByteArray) (ad : Int) : Int :=
  if roadsF ns rs bs = 0 then (if missB ns l = true ∨ nodeI ns to_ < 0 then 8 else if momB ad then 0 else 1) else roadsF ns rs bs
def arrS (ns : List Node) (rs : List Arc) (bs : List Ban) (s t : ByteArray) (ad : Int) : Int := arrG (gphOf ns rs bs) (nodeN ns s) (nodeN ns t) ad
def nearP (ns : List Node) (rs : List Arc) (bs : List Ban) (l : List ByteArray) (to_ : ByteArray) (ad : Int) : Int × Int := if nearF ns rs bs l to_ ad = 0 then nearO (fun s => arrS ns rs bs s to_ ad) l 0 (-1) endT else (-1, endT)
theorem miss_all {ns : List Node} {l : List ByteArray} (h : missB ns l = false) : ∀ s ∈ l, 0 ≤ nodeI ns s := by
  intro s hs
  unfold missB at h
  rw [List.any_eq_false] at h
  have := h s hs
  simp at this
  omega
end Go.Proofs.YtklgknepamebdaaGreatDoor
/- A memory of searches. -/
namespace Go.Proofs.YtklgknepamebdaaGreatDoor
open Go.RowKit Go.Maps

abbrev MpT (w : World) (b n : Nat) (f : Int × Int → Option (Option Nat)) : Prop := MgI Tryz.prog 203 ekP domP ptrElem ptrD w b n f
theorem zeroTreeR (w : World) : (zeroValue 155).run Tryz.prog w = .ok (ptrV none) w := by kernel_rfl
theorem MgI.obj {κ V : Type} {P : Program} {K : TypeId} {ek : κ → Value} {dom : κ → Prop} {R : Value → Option (DataW Unit × List MemPlace)} {dv : V → DataW Unit} {w : World} {b n : Nat} {f : κ → Option V} (h : MgI P K ek dom R dv w b n f) : ∃ es cl, w.heap[b]? = some (.map es cl) := by
  obtain ⟨D, ⟨es, clock, h1, _⟩, _⟩ := h
  exact ⟨es, clock, h1⟩
theorem ne_map {w : World} {b k : Nat} {es : _} {cl : _} {cs : Array Value} {t : TypeId} {fr : Nat × Nat} (hb : w.heap[b]? = some (.map es cl)) (hk : w.heap[k]? = some (.cells cs t fr)) : k ≠ b := by
  rintro rfl
  rw [hb] at hk
  cases hk
theorem gr_blk {w w' : World} {s k : Nat} {o : Obj} (hg : Gr s w w') (h : w.heap[k]? = some o) (hne : k ≠ s) : w'.heap[k]? = some o :=
  (World.grownBy.block hg k (lt_of_heap h) (by intro e; injection e with e; exact hne e)).trans h
theorem TreeR.grm {w w' : World} {a : SA} {bm fr nn m b n : Nat} {ad : Int} {s : Sr} {f : Int × Int → Option (Option Nat)} (h : TreeR w a bm fr nn m ad s) (hm : MpT w b n f) (hg : Gr b w w') : TreeR w' a bm fr nn m ad s := by
  obtain ⟨es, cl, hb⟩ := hm.obj
  exact ⟨gr_blk hg h.hT (ne_map hb h.hT), gr_blk hg h.hF (ne_map hb h.hF), gr_blk hg h.hL (ne_map hb h.hL), gr_blk hg h.hP (ne_map hb h.hP), h.lF, h.lL, h.lP⟩
/-- A tree's blocks are none of these. -/
def TreeAv (a : SA) (Ex : Nat → Prop) : Prop := ¬ Ex a.T ∧ ¬ Ex a.gF ∧ ¬ Ex a.gL ∧ ¬ Ex a.gP
/-- A memory of searches: its map's block is b; what was there in w0 stays; Ex: blocks that are no part of it. -/
structure TripsR (w0 w : World) (bt b n : Nat) (f : Int × Int → Option (Option Nat)) (bm nn m : Nat) (G : Gph) (Ex : Nat → Prop) : Prop where
  nx : Nx w0 w
  hb : w0.heap.size ≤ b
  blk : w.heap[bt]? = some (.cells #[.pointer (some ⟨bm, 0, none⟩), .map (some b)] 198 (0, 0))
  mp : MpT w b n f
  ok : ∀ p a', f p = some (some a') → ∃ (a : SA) (fr : Nat), a.T = a' ∧ p.1 = (fr : Int) ∧ TreeR w a bm fr nn m p.2 (searchG G fr p.2) ∧ TreeAv a Ex
  eb : ¬ Ex b ∧ ¬ Ex bt
section
variable {w0 w w' : World} {bt b n : Nat} {f : Int × Int → Option (Option Nat)} {bm nn m : Nat} {G : Gph} {Ex Ex' : Nat → Prop}
theorem TripsR.step (h : TripsR w0 w bt b n f bm nn m G Ex) (hn : Nx w w') : TripsR w0 w' bt b n f bm nn m G Ex :=
  ⟨h.nx.trans hn, h.hb, (hn.block bt (lt_of_heap h.blk)).trans h.blk, h.mp.nx hn, fun p a' e => by
    obtain ⟨a, fr, h1, h2, h3, h4⟩ := h.ok p a' e
    exact ⟨a, fr, h1, h2, h3.nx hn, h4⟩, h.eb⟩
theorem TripsR.put (h : TripsR w0 w bt b n f bm nn m G Ex) (hg : Gr b w w') {k : Int × Int} {a : SA} {fr : Nat} (hk : k.1 = (fr : Int)) (ha : TreeR w a bm fr nn m k.2 (searchG G fr k.2)) (hav : TreeAv a Ex) (hm : MpT w' b (n + 1) (fun k' => if k' = k then some (some a.T) else f k')) :
    TripsR w0 w' bt b (n + 1) (fun k' => if k' = k then some (some a.T) else f k') bm nn m G Ex := by
  obtain ⟨es, cl, hb⟩ := h.mp.obj
  refine ⟨Nx.of_gr ((Gr.of_nx h.nx).trans hg) h.hb, h.hb, gr_blk hg h.blk (ne_map hb h.blk), hm, fun p a' e => ?_, h.eb⟩
  by_cases hp : p = k
  · subst hp
    rw [if_pos rfl] at e
    injection e with e; injection e with e
    exact ⟨a, fr, e, hk, ha.grm h.mp hg, hav⟩
  · rw [if_neg hp] at e
    obtain ⟨a2, fr2, h1, h2, h3, h4⟩ := h.ok p a' e
    exact ⟨a2, fr2, h1, h2, h3.grm h.mp hg, h4⟩
theorem grown_blk {row : Option Nat} (hg : w.grownBy w' row) {k : Nat} {o : Obj} (hk : w.heap[k]? = some o) (hne : some k ≠ row) : w'.heap[k]? = some o := (hg.block k (lt_of_heap hk) hne).trans hk
/-- A row that is no part of it grows. -/
theorem TripsR.app (h : TripsR w0 w bt b n f bm nn m G Ex) {row : Option Nat} (hg : w.grownBy w' row) (hr : ∀ x, row = some x → Ex x ∧ w0.heap.size ≤ x) : TripsR w0 w' bt b n f bm nn m G Ex := by
  have hne : ∀ k, ¬ Ex k → some k ≠ row := fun k hk e => hk (hr k e.symm).1
  refine ⟨h.nx.grown hg (fun k hk => (hr k hk).2), h.hb, grown_blk hg h.blk (hne _ h.eb.2), h.mp.grown hg (hne _ h.eb.1), fun p a' e => ?_, h.eb⟩
  obtain ⟨a, fr, h1, h2, h3, h4⟩ := h.ok p a' e
  exact ⟨a, fr, h1, h2, ⟨grown_blk hg h3.hT (hne _ h4.1), grown_blk hg h3.hF (hne _ h4.2.1), grown_blk hg h3.hL (hne _ h4.2.2.1), grown_blk hg h3.hP (hne _ h4.2.2.2), h3.lF, h3.lL, h3.lP⟩, h4⟩
theorem TripsR.more (h : TripsR w0 w bt b n f bm nn m G Ex) (hx : ∀ x, Ex' x → Ex x ∨ w.heap.size ≤ x) : TripsR w0 w bt b n f bm nn m G Ex' := by
  have hne : ∀ k, k < w.heap.size → ¬ Ex k → ¬ Ex' k := fun k hk he hk' => (hx k hk').elim he (fun h => by omega)
  refine ⟨h.nx, h.hb, h.blk, h.mp, fun p a' e => ?_, hne _ h.mp.lt h.eb.1, hne _ (lt_of_heap h.blk) h.eb.2⟩
  obtain ⟨a, fr, h1, h2, h3, h4⟩ := h.ok p a' e
  exact ⟨a, fr, h1, h2, h3, hne _ (lt_of_heap h3.hT) h4.1, hne _ (lt_of_heap h3.hF) h4.2.1, hne _ (lt_of_heap h3.hL) h4.2.2.1, hne _ (lt_of_heap h3.hP) h4.2.2.2⟩
/-- An element is laid and appended to a row that is no part of it. -/
theorem TripsR.push (h : TripsR w0 w bt b n f bm nn m G Ex) {o : Obj} {row : Option Nat} (hg : (w.alloc o).grownBy w' row) (hr : ∀ x, row = some x → Ex x ∧ w0.heap.size ≤ x) (hx : ∀ x, Ex' x → Ex x ∨ x = (w.alloc o).heap.size) : TripsR w0 w' bt b n f bm nn m G Ex' :=
  (((h.step ((Nx.refl w).alloc o)).more (Ex' := fun x => Ex x ∨ x = (w.alloc o).heap.size) (fun _ h => h.imp id (fun e => Nat.le_of_eq e.symm))).app hg (fun x hx => ⟨.inl (hr x hx).1, (hr x hx).2⟩)).more (fun x h => .inl (hx x h))
theorem TripsR.lt (h : TripsR w0 w bt b n f bm nn m G Ex) : bt < w.heap.size := lt_of_heap h.blk
end
set_option maxRecDepth 100000 in
set_option maxHeartbeats 1000000 in
theorem w_NewTrips (bm nn m : Nat) (G : Gph) (w : World) :
    Calls Tryz.prog 64 #[.pointer (some ⟨bm, 0, none⟩)] w fun e w' => ∃ bt b, e = .returned (.pointer (some ⟨bt, 0, none⟩)) ∧ w.heap.size ≤ bt ∧ TripsR w w' bt b 0 (fun _ => none) bm nn m G (fun _ => False) := by
  have hmm := @run_makeMap Tryz.prog
  go_enter Tryz.func64, Tryz.ntmps64
  go_wp2_with fail
  go_ret
  refine ⟨_, w.heap.size, rfl, ?_, ((Nx.refl w).alloc _).alloc _, Nat.le_refl _, hnew (by simp), (MgI.made w).nx ((Nx.refl _).alloc _), fun p a' e => (by cases e), fun h => h, fun h => h⟩
  simp
def TreeOut (w0 w : World) (bt b n bm i nn m : Nat) (ad : Int) (G : Gph) (Ex : Nat → Prop) (e : Ending) (w' : World) : Prop := ∃ (a : SA) (n' : Nat) (f' : Int × Int → Option (Option Nat)), e = .returned (.pointer (some ⟨a.T, 0, none⟩)) ∧ TreeR w' a bm i nn m ad (searchG G i ad) ∧ TripsR w0 w' bt b n' f' bm nn m G Ex ∧ n' ≤ n + 1 ∧ Gr b w w'
set_option maxRecDepth 100000 in
set_option maxHeartbeats 4000000 in
theorem w_Tree (w0 w : World) (bt b n : Nat) (f : Int × Int → Option (Option Nat)) (bm g0 lo : Nat) (A B C : Option Addr) (ca cb cc : Nat) (M : MapA) (ns : List Node) (rs : List Arc) (bs : List Ban) (i : Nat) (ad : Int) (Ex : Nat → Prop)
    (hM : MapR w0 bm g0 lo A B C ca cb cc M ns rs bs) (hC : chk (arcF ns) none rs = 0) (hT : TripsR w0 w bt b n f bm ns.length rs.length (gphOf ns rs bs) Ex) (hEx : ∀ x, Ex x → x < w.heap.size) (hi : i < ns.length) (hnl : ns.length ≤ 400) (ha : 0 ≤ ad ∧ ad ≤ 345686399999) (hn : n < 1000000) :
    Calls Tryz.prog 158 #[.pointer (some ⟨bt, 0, none⟩), .int .i64 (i : Int), .int .i64 ad] w (TreeOut w0 w bt b n bm i ns.length rs.length ad (gphOf ns rs bs) Ex) := by
  have hd : domP ((i : Int), ad) := ⟨wf_i64o.2 ⟨by show _ ≤ (i : Int); omega, by show (i : Int) ≤ _; omega⟩, wf_i64o.2 ⟨by show _ ≤ ad; omega, by show ad ≤ _; omega⟩⟩
  obtain ⟨lb, hlb⟩ := key_pair ((i : Int), ad) hd
  have HSE := hide (fun W (hx : Nx w0 W) => w_Search W bm i ad g0 lo A B C ca cb cc M ns rs bs (hM.nx hx) hC hi ha)
  have HT := hide hT
  have HD := hide hd
  have HLB := hide hlb
  obtain ⟨wa, hwa⟩ : ∃ wa, wa = w.alloc (.cells #[.int .i64 (i : Int), .int .i64 ad] 203) := ⟨_, rfl⟩
  have hna : Nx w wa := hwa ▸ (Nx.refl w).alloc _
  have hba : wa.heap[w.heap.size]? = some (.cells #[.int .i64 (i : Int), .int .i64 ad] 203 (0, 0)) := by rw [hwa]; exact hnew rfl
  have HS := hide (fun W (hx : Nx wa W) => (⟨⟨nx_cell (hna.trans hx) hT.lt ((cell_of_row w _ 0 _ _ _ hT.blk).trans rfl), nx_cell (hna.trans hx) hT.lt ((cell_of_row w _ 1 _ _ _ hT.blk).trans rfl)⟩, nx_cell hx (lt_of_heap hba) ((cell_of_row wa _ 0 _ _ _ hba).trans rfl), nx_cell hx (lt_of_heap hba) ((cell_of_row wa _ 1 _ _ _ hba).trans rfl)⟩ :
    (W.cell? ⟨bt, 0, none⟩ = some (.pointer (some ⟨bm, 0, none⟩)) ∧ W.cell? ⟨bt, 1, none⟩ = some (.map (some b))) ∧ W.cell? ⟨w.heap.size, 0, none⟩ = some (.int .i64 (i : Int)) ∧ W.cell? ⟨w.heap.size, 1, none⟩ = some (.int .i64 ad)))
  obtain ⟨v, hv⟩ : ∃ v, v = (f ((i : Int), ad)).getD none := ⟨_, rfl⟩
  have HLK := hide (fun W (hx : Nx wa W) => (show (Instr.lookup 196 (.map (some b)) (.agg #[.int .i64 (i : Int), .int .i64 ad]) false).run Tryz.prog W = .ok (ptrV v) W by
    rw [hv]
    exact ((hT.mp.nx (hna.trans hx)).look elemPtr law_pair Tryz.underlying196 (z := none) trivial (zeroTreeR _) (k := ((i : Int), ad)) hd hlb).1))
  have HV := hide hv
  have HWA := hide hwa
  have HBA := hide hba
  clear hT hd hlb hba hv hwa hM hC hi
  go_enter Tryz.func158, Tryz.ntmps158
  go_upto_region 2 with fail
  rw [← HWA.out]
  have hkx : w.heap.size ≤ wa.heap.size := hna.sz
  generalize w.heap.size = k at *
  have hnn := hna.sz
  go_cut [8] (fun u wx => u = ptrV v ∧ Nx wa wx)
  case first =>
    refine wp_region_held_drew (S := fun w' => ((w'.cell? ⟨bt, 0, none⟩ = some (.pointer (some ⟨bm, 0, none⟩)) ∧ w'.cell? ⟨bt, 1, none⟩ = some (.map (some b))) ∧ w'.cell? ⟨k, 0, none⟩ = some (.int .i64 (i : Int)) ∧ w'.cell? ⟨k, 1, none⟩ = some (.int .i64 ad)) ∧ (Instr.lookup 196 (.map (some b)) (.agg #[.int .i64 (i : Int), .int .i64 ad]) false).run Tryz.prog w' = .ok (ptrV v) w') (by kernel_rfl) ?_ (fun hHeld => ?_)
    · exact ⟨HS.out _ (Nx.refl _).drew, HLK.out _ (Nx.refl _).drew⟩
    refine wpAnyH_take (i := 0) (oi := ⟨some 12, _, _, _, _, _⟩) (v := ?_) rfl (by kernel_rfl) (by kernel_rfl) (by kernel_rfl) (fun _ _ _ h => h) (Or.inl ⟨by rfl, ?_⟩) (by assumption) ?_
    rotate_left 1
    · intro w hSw
      (try dsimp only at hSw)
      go_simp
      try with_reducible rfl
    try simp only [Act.put, List.setIfInBounds_toArray, List.set_cons_zero, List.set_cons_succ]
    refine wpAnyH_take (i := 1) (oi := ⟨some 13, _, _, _, _, _⟩) (v := ?_) rfl (by kernel_rfl) (by kernel_rfl) (by kernel_rfl) (fun _ _ _ h => h) (Or.inl ⟨by rfl, ?_⟩) (by assumption) ?_
    rotate_left 1
    · intro w hSw
      (try dsimp only at hSw)
      go_simp
      try with_reducible rfl
    try simp only [Act.put, List.setIfInBounds_toArray, List.set_cons_zero, List.set_cons_succ]
    refine wpAnyH_take (i := 2) (oi := ⟨some 14, _, _, _, _, _⟩) (v := ?_) rfl (by kernel_rfl) (by kernel_rfl) (by kernel_rfl) (fun _ _ _ h => h) (Or.inl ⟨by rfl, ?_⟩) (by assumption) ?_
    rotate_left 1
    · intro w hSw
      (try dsimp only at hSw)
      go_simp
      try with_reducible rfl
    try simp only [Act.put, List.setIfInBounds_toArray, List.set_cons_zero, List.set_cons_succ]
    refine wpAnyH_take (i := 3) (oi := ⟨some 15, _, _, _, _, _⟩) (v := ?_) rfl (by kernel_rfl) (by kernel_rfl) (by kernel_rfl) (fun _ _ _ h => h) (Or.inl ⟨by rfl, ?_⟩) (by assumption) ?_
    rotate_left 1
    · intro w hSw
      (try dsimp only at hSw)
      go_simp
      try with_reducible rfl
    try simp only [Act.put, List.setIfInBounds_toArray, List.set_cons_zero, List.set_cons_succ]
    refine wpAnyH_take (i := 4) (oi := ⟨some 16, _, _, _, _, _⟩) (v := ?_) rfl (by kernel_rfl) (by kernel_rfl) (by kernel_rfl) (fun _ _ _ h => h) (Or.inl ⟨by rfl, ?_⟩) (by assumption) ?_
    rotate_left 1
    · intro w hSw
      (try dsimp only at hSw)
      go_simp
      try with_reducible rfl
    try simp only [Act.put, List.setIfInBounds_toArray, List.set_cons_zero, List.set_cons_succ]
    refine wpAnyH_take (i := 5) (oi := ⟨some 17, _, _, _, _, _⟩) (v := ?_) rfl (by kernel_rfl) (by kernel_rfl) (by kernel_rfl) (fun _ _ _ h => h) (Or.inl ⟨by rfl, ?_⟩) (by assumption) ?_
    rotate_left 1
    · intro w hSw
      (try dsimp only at hSw)
      go_simp
      try with_reducible rfl
    try simp only [Act.put, List.setIfInBounds_toArray, List.set_cons_zero, List.set_cons_succ]
    refine wpAnyH_take (i := 6) (oi := ⟨some 8, _, _, _, _, _⟩) (v := ?_) rfl (by kernel_rfl) (by kernel_rfl) (by kernel_rfl) (fun _ _ _ h => h) (Or.inl ⟨by rfl, ?_⟩) (by assumption) ?_
    rotate_left 1
    · intro w hSw
      (try dsimp only at hSw)
      go_simp
      try with_reducible rfl
    try simp only [Act.put, List.setIfInBounds_toArray, List.set_cons_zero, List.set_cons_succ]
    refine wpAnyH_done (by kernel_rfl) ?_ _
    go_wp2
    go_meet
    exact ⟨rfl, (Nx.refl _).drew⟩
  case rest =>
    obtain ⟨rfl, hx⟩ := hcut
    cases v with
    | some a' =>
      have hf : f ((i : Int), ad) = some (some a') := by
        have h := HV.out
        cases hf : f ((i : Int), ad) with
        | none => rw [hf] at h; cases h
        | some y => rw [hf] at h; exact congrArg some h.symm
      obtain ⟨a, fr, rfl, h2, h3, _⟩ := HT.out.ok _ _ hf
      have h2 : i = fr := by have : (i : Int) = (fr : Int) := h2; omega
      subst h2
      have hR := h3.nx (hna.trans hx)
      have HR := hide hR
      clear hR h3 hf HV
      unfold ptrV
      go_wp2_with fail
      go_ret
      exact ⟨a, n, f, rfl, HR.out, HT.out.step (hna.trans hx), by omega, Gr.of_nx (hna.trans hx)⟩
    | none =>
      have hnx := hna.trans hx
      obtain ⟨⟨c0, c1⟩, d0, d1⟩ := HS.out _ hx
      clear HV
      unfold ptrV
      go_wp2_with fail
      refine (HSE.out _ (HT.out.nx.trans hnx)).mono ?_
      rintro e w3 ⟨a, rfl, hSM⟩
      have hn3 := hnx.trans hSM.nx
      have hx3 := hx.trans hSM.nx
      have HTR := hide hSM.tree
      have HAV := hide (show TreeAv a Ex from by
        have hlow : ∀ kk ∈ [a.bx, a.T, a.bt, a.bb, a.gF, a.gL, a.gP, a.gB, a.gD], ¬ Ex kk := fun kk hk he => by
          have h1 := (hSM.lo kk hk).1
          have h2 := hEx kk he
          have h3 := hx.sz
          omega
        exact ⟨hlow _ (by simp), hlow _ (by simp), hlow _ (by simp), hlow _ (by simp)⟩)
      have hT3 := HT.out.step hn3
      obtain ⟨w4, hr, hm4, hg4⟩ := (hT3.mp.nx (Nx.refl w3).drew).upd elemPtr law_pair ekP_inj Tryz.underlying196 (by unfold maxLen; omega) HD.out HLB.out (some a.T) trivial
      have hT4 := (hT3.step (Nx.refl w3).drew).put hg4 (k := ((i : Int), ad)) (a := a) (fr := i) rfl (HTR.out.nx (Nx.refl w3).drew) HAV.out hm4
      have HT4 := hide hT4
      have HTR4 := hide ((HTR.out.nx (Nx.refl w3).drew).grm (hT3.step (Nx.refl w3).drew).mp hg4)
      have hr' : (Instr.mapUpdate 196 (.map (some b)) (.agg #[.int .i64 (i : Int), .int .i64 ad]) (.pointer (some ⟨a.T, 0, none⟩))).run Tryz.prog w3.drew = .ok () w4 := hr
      have HG := hide ((Gr.of_nx hn3).trans ((Gr.refl b w3).drew.trans hg4))
      have HX3 := hide hx3
      have hk4 := gr_blk (hg4) ((((hx3.drew).block k (lt_of_heap HBA.out)).trans HBA.out)) (by obtain ⟨es, cl, hb⟩ := (hT3.step (Nx.refl w3).drew).mp.obj; exact ne_map hb (((hx3.drew).block k (lt_of_heap HBA.out)).trans HBA.out))
      have HS4 := hide (⟨⟨(cell_of_row w4 _ 0 _ _ _ hT4.blk).trans rfl, (cell_of_row w4 _ 1 _ _ _ hT4.blk).trans rfl⟩, (cell_of_row w4 _ 0 _ _ _ hk4).trans rfl, (cell_of_row w4 _ 1 _ _ _ hk4).trans rfl⟩ : (w4.cell? ⟨bt, 0, none⟩ = some (.pointer (some ⟨bm, 0, none⟩)) ∧ w4.cell? ⟨bt, 1, none⟩ = some (.map (some b))) ∧ w4.cell? ⟨k, 0, none⟩ = some (.int .i64 (i : Int)) ∧ w4.cell? ⟨k, 1, none⟩ = some (.int .i64 ad))
      clear hk4 hSM hT3 hm4 hT4 hr c0 c1 d0 d1 hg4 hnx hn3 hx3
      go_upto_region 5 with fail
      go_cut [] (fun wx => wx = w4)
      case first =>
        refine wp_region_held_drew (S := fun w' => (w'.cell? ⟨bt, 0, none⟩ = some (.pointer (some ⟨bm, 0, none⟩)) ∧ w'.cell? ⟨bt, 1, none⟩ = some (.map (some b))) ∧ w'.cell? ⟨k, 0, none⟩ = some (.int .i64 (i : Int)) ∧ w'.cell? ⟨k, 1, none⟩ = some (.int .i64 ad)) (by kernel_rfl) ?_ (fun hHeld => ?_)
        · exact HS.out _ (HX3.out.drew)
        refine wpAnyH_take (i := 0) (oi := ⟨some 27, _, _, _, _, _⟩) (v := ?_) rfl (by kernel_rfl) (by kernel_rfl) (by kernel_rfl) (fun _ _ _ h => h) (Or.inl ⟨by rfl, ?_⟩) (by assumption) ?_
        rotate_left 1
        · intro w hSw
          (try dsimp only at hSw)
          go_simp
          try with_reducible rfl
        try simp only [Act.put, List.setIfInBounds_toArray, List.set_cons_zero, List.set_cons_succ]
        refine wpAnyH_take (i := 1) (oi := ⟨some 28, _, _, _, _, _⟩) (v := ?_) rfl (by kernel_rfl) (by kernel_rfl) (by kernel_rfl) (fun _ _ _ h => h) (Or.inl ⟨by rfl, ?_⟩) (by assumption) ?_
        rotate_left 1
        · intro w hSw
          (try dsimp only at hSw)
          go_simp
          try with_reducible rfl
        try simp only [Act.put, List.setIfInBounds_toArray, List.set_cons_zero, List.set_cons_succ]
        refine wpAnyH_take (i := 2) (oi := ⟨some 29, _, _, _, _, _⟩) (v := ?_) rfl (by kernel_rfl) (by kernel_rfl) (by kernel_rfl) (fun _ _ _ h => h) (Or.inl ⟨by rfl, ?_⟩) (by assumption) ?_
        rotate_left 1
        · intro w hSw
          (try dsimp only at hSw)
          go_simp
          try with_reducible rfl
        try simp only [Act.put, List.setIfInBounds_toArray, List.set_cons_zero, List.set_cons_succ]
        refine wpAnyH_take (i := 3) (oi := ⟨some 30, _, _, _, _, _⟩) (v := ?_) rfl (by kernel_rfl) (by kernel_rfl) (by kernel_rfl) (fun _ _ _ h => h) (Or.inl ⟨by rfl, ?_⟩) (by assumption) ?_
        rotate_left 1
        · intro w hSw
          (try dsimp only at hSw)
          go_simp
          try with_reducible rfl
        try simp only [Act.put, List.setIfInBounds_toArray, List.set_cons_zero, List.set_cons_succ]
        refine wpAnyH_take (i := 4) (oi := ⟨some 31, _, _, _, _, _⟩) (v := ?_) rfl (by kernel_rfl) (by kernel_rfl) (by kernel_rfl) (fun _ _ _ h => h) (Or.inl ⟨by rfl, ?_⟩) (by assumption) ?_
        rotate_left 1
        · intro w hSw
          (try dsimp only at hSw)
          go_simp
          try with_reducible rfl
        try simp only [Act.put, List.setIfInBounds_toArray, List.set_cons_zero, List.set_cons_succ]
        refine wpAnyH_take (i := 5) (oi := ⟨some 32, _, _, _, _, _⟩) (v := ?_) rfl (by kernel_rfl) (by kernel_rfl) (by kernel_rfl) (fun _ _ _ h => h) (Or.inl ⟨by rfl, ?_⟩) (by assumption) ?_
        rotate_left 1
        · intro w hSw
          (try dsimp only at hSw)
          go_simp
          try with_reducible rfl
        try simp only [Act.put, List.setIfInBounds_toArray, List.set_cons_zero, List.set_cons_succ]
        refine wpAnyH_ready (rs := [6]) (by kernel_rfl) (by simp) ?_
        refine AllReadyH.cons rfl (fun K hK => ?_) AllReadyH.nil
        go_simp
        refine hK.out _ _ (HS4.out) (fun hHeld => ?_)
        clear hK K
        try simp only [Act.put, List.setIfInBounds_toArray, List.set_cons_zero, List.set_cons_succ]
        refine wpAnyH_done (by kernel_rfl) ?_ _
        go_wp2
        go_meet
        rfl
      case rest =>
        subst hcut
        go_wp2_with fail
        go_ret
        exact ⟨a, n + 1, _, rfl, HTR4.out, HT4.out, by omega, HG.out⟩
end Go.Proofs.YtklgknepamebdaaGreatDoor
/- When one is at a node, remembered. -/
namespace Go.Proofs.YtklgknepamebdaaGreatDoor
open Go.RowKit Go.Maps

def ArrOut (w0 w : World) (bt b n bm nn m : Nat) (G : Gph) (Ex : Nat → Prop) (v : Int) (e : Ending) (w' : World) : Prop := ∃ (n' : Nat) (f' : Int × Int → Option (Option Nat)), e = .returned (.int .i64 v) ∧ TripsR w0 w' bt b n' f' bm nn m G Ex ∧ n' ≤ n + 1 ∧ Gr b w w'
set_option maxRecDepth 100000 in
set_option maxHeartbeats 4000000 in
theorem w_Arrive (w0 w : World) (bt b n : Nat) (f : Int × Int → Option (Option Nat)) (bm g0 lo : Nat) (A B C : Option Addr) (ca cb cc : Nat) (M : MapA) (ns : List Node) (rs : List Arc) (bs : List Ban) (fr to_ : ByteArray) (ad : Int) (Ex : Nat → Prop)
    (hM : MapR w0 bm g0 lo A B C ca cb cc M ns rs bs) (hC : chk (arcF ns) none rs = 0) (hSN : SortN ns) (hds : ∀ s, 0 ≤ nodeI ns s → domS s) (hT : TripsR w0 w bt b n f bm ns.length rs.length (gphOf ns rs bs) Ex) (hEx : ∀ x, Ex x → x < w.heap.size) (hf : 0 ≤ nodeI ns fr) (ht : 0 ≤ nodeI ns to_) (hnl : ns.length ≤ 400) (ha : 0 ≤ ad ∧ ad ≤ 345686399999) (hn : n < 1000000) :
    Calls Tryz.prog 96 #[.pointer (some ⟨bt, 0, none⟩), .string fr, .string to_, .int .i64 ad] w (ArrOut w0 w bt b n bm ns.length rs.length (gphOf ns rs bs) Ex (gi (searchG (gphOf ns rs bs) (nodeN ns fr) ad).first (nodeN ns to_))) := by
  have hi : nodeN ns fr < ns.length := nodeN_lt hf
  have hj : nodeN ns to_ < ns.length := nodeN_lt ht
  have e1 : nodeI ns fr = ((nodeN ns fr : Nat) : Int) := by unfold nodeN; omega
  have e2 : nodeI ns to_ = ((nodeN ns to_ : Nat) : Int) := by unfold nodeN; omega
  have hF := search_found (gph_ok (bs := bs) hC) ha.1 (show nodeN ns fr < (gphOf ns rs bs).nn from hi)
  have HLKf := hide (fun W (hx : Nx w0 W) => look_run (hM.m1.nx hx) (hds fr hf) ((mapN_get hSN hf).trans (congrArg some e1)))
  have HLKt := hide (fun W (hx : Nx w0 W) => look_run (hM.m1.nx hx) (hds to_ ht) ((mapN_get hSN ht).trans (congrArg some e2)))
  have HTR := hide (fun W (hx : Nx w W) => w_Tree w0 W bt b n f bm g0 lo A B C ca cb cc M ns rs bs (nodeN ns fr) ad Ex hM hC (hT.step hx) (fun x hx2 => Nat.lt_of_lt_of_le (hEx x hx2) hx.sz) hi hnl ha hn)
  have HT := hide hT
  have HS := hide (fun W (hx : Nx w W) => (⟨nx_cell hx hT.lt ((cell_of_row w _ 0 _ _ _ hT.blk).trans rfl), nx_cell (hT.nx.trans hx) hM.lt hM.c1⟩ : W.cell? ⟨bt, 0, none⟩ = some (.pointer (some ⟨bm, 0, none⟩)) ∧ W.cell? ⟨bm, 1, none⟩ = some (.map (some M.b1))))
  have HFA := hide (hF.f0.1)
  have te : decide (ad ≥ 345686400000) = false := decide_eq_false (by omega)
  have te2 : decide (345686400000 ≤ ad) = false := decide_eq_false (by omega)
  clear hM hC hSN hds hT hEx hF e1 e2 hf ht
  generalize nodeN ns fr = i at *
  generalize nodeN ns to_ = j at *
  generalize gphOf ns rs bs = G at *
  generalize ns.length = nn at *
  generalize rs.length = m at *
  go_enter Tryz.func96, Tryz.ntmps96
  go_upto_region 3 with fail
  go_cut [9, 10] (fun u v wx => u = .int .i64 (i : Int) ∧ v = .int .i64 (j : Int) ∧ Nx w wx ∧ wx = w.drew)
  case first =>
    refine wp_region_held_drew (S := fun w' => (w'.cell? ⟨bt, 0, none⟩ = some (.pointer (some ⟨bm, 0, none⟩)) ∧ w'.cell? ⟨bm, 1, none⟩ = some (.map (some M.b1))) ∧ (Instr.lookup 199 (.map (some M.b1)) (.string fr) false).run Tryz.prog w' = .ok (.int .i64 (i : Int)) w' ∧ (Instr.lookup 199 (.map (some M.b1)) (.string to_) false).run Tryz.prog w' = .ok (.int .i64 (j : Int)) w') (by kernel_rfl) ?_ (fun hHeld => ?_)
    · exact ⟨HS.out _ (Nx.refl _).drew, HLKf.out _ (HT.out.nx.drew), HLKt.out _ (HT.out.nx.drew)⟩
    refine wpAnyH_take (i := 0) (oi := ⟨some 13, _, _, _, _, _⟩) (v := ?_) rfl (by kernel_rfl) (by kernel_rfl) (by kernel_rfl) (fun _ _ _ h => h) (Or.inl ⟨by rfl, ?_⟩) (by assumption) ?_
    rotate_left 1
    · intro w hSw
      (try dsimp only at hSw)
      go_simp
      try with_reducible rfl
    try simp only [Act.put, List.setIfInBounds_toArray, List.set_cons_zero, List.set_cons_succ]
    refine wpAnyH_take (i := 1) (oi := ⟨some 14, _, _, _, _, _⟩) (v := ?_) rfl (by kernel_rfl) (by kernel_rfl) (by kernel_rfl) (fun _ _ _ h => h) (Or.inl ⟨by rfl, ?_⟩) (by assumption) ?_
    rotate_left 1
    · intro w hSw
      (try dsimp only at hSw)
      go_simp
      try with_reducible rfl
    try simp only [Act.put, List.setIfInBounds_toArray, List.set_cons_zero, List.set_cons_succ]
    refine wpAnyH_take (i := 2) (oi := ⟨some 15, _, _, _, _, _⟩) (v := ?_) rfl (by kernel_rfl) (by kernel_rfl) (by kernel_rfl) (fun _ _ _ h => h) (Or.inl ⟨by rfl, ?_⟩) (by assumption) ?_
    rotate_left 1
    · intro w hSw
      (try dsimp only at hSw)
      go_simp
      try with_reducible rfl
    try simp only [Act.put, List.setIfInBounds_toArray, List.set_cons_zero, List.set_cons_succ]
    refine wpAnyH_take (i := 3) (oi := ⟨some 16, _, _, _, _, _⟩) (v := ?_) rfl (by kernel_rfl) (by kernel_rfl) (by kernel_rfl) (fun _ _ _ h => h) (Or.inl ⟨by rfl, ?_⟩) (by assumption) ?_
    rotate_left 1
    · intro w hSw
      (try dsimp only at hSw)
      go_simp
      try with_reducible rfl
    try simp only [Act.put, List.setIfInBounds_toArray, List.set_cons_zero, List.set_cons_succ]
    refine wpAnyH_take (i := 4) (oi := ⟨some 17, _, _, _, _, _⟩) (v := ?_) rfl (by kernel_rfl) (by kernel_rfl) (by kernel_rfl) (fun _ _ _ h => h) (Or.inl ⟨by rfl, ?_⟩) (by assumption) ?_
    rotate_left 1
    · intro w hSw
      (try dsimp only at hSw)
      go_simp
      try with_reducible rfl
    try simp only [Act.put, List.setIfInBounds_toArray, List.set_cons_zero, List.set_cons_succ]
    refine wpAnyH_take (i := 5) (oi := ⟨some 18, _, _, _, _, _⟩) (v := ?_) rfl (by kernel_rfl) (by kernel_rfl) (by kernel_rfl) (fun _ _ _ h => h) (Or.inl ⟨by rfl, ?_⟩) (by assumption) ?_
    rotate_left 1
    · intro w hSw
      (try dsimp only at hSw)
      go_simp
      try with_reducible rfl
    try simp only [Act.put, List.setIfInBounds_toArray, List.set_cons_zero, List.set_cons_succ]
    refine wpAnyH_take (i := 6) (oi := ⟨some 19, _, _, _, _, _⟩) (v := ?_) rfl (by kernel_rfl) (by kernel_rfl) (by kernel_rfl) (fun _ _ _ h => h) (Or.inl ⟨by rfl, ?_⟩) (by assumption) ?_
    rotate_left 1
    · intro w hSw
      (try dsimp only at hSw)
      go_simp
      try with_reducible rfl
    try simp only [Act.put, List.setIfInBounds_toArray, List.set_cons_zero, List.set_cons_succ]
    refine wpAnyH_take (i := 7) (oi := ⟨some 20, _, _, _, _, _⟩) (v := ?_) rfl (by kernel_rfl) (by kernel_rfl) (by kernel_rfl) (fun _ _ _ h => h) (Or.inl ⟨by rfl, ?_⟩) (by assumption) ?_
    rotate_left 1
    · intro w hSw
      (try dsimp only at hSw)
      go_simp
      try with_reducible rfl
    try simp only [Act.put, List.setIfInBounds_toArray, List.set_cons_zero, List.set_cons_succ]
    refine wpAnyH_take (i := 8) (oi := ⟨some 21, _, _, _, _, _⟩) (v := ?_) rfl (by kernel_rfl) (by kernel_rfl) (by kernel_rfl) (fun _ _ _ h => h) (Or.inl ⟨by rfl, ?_⟩) (by assumption) ?_
    rotate_left 1
    · intro w hSw
      (try dsimp only at hSw)
      go_simp
      try with_reducible rfl
    try simp only [Act.put, List.setIfInBounds_toArray, List.set_cons_zero, List.set_cons_succ]
    refine wpAnyH_take (i := 9) (oi := ⟨some 22, _, _, _, _, _⟩) (v := ?_) rfl (by kernel_rfl) (by kernel_rfl) (by kernel_rfl) (fun _ _ _ h => h) (Or.inl ⟨by rfl, ?_⟩) (by assumption) ?_
    rotate_left 1
    · intro w hSw
      (try dsimp only at hSw)
      go_simp
      try with_reducible rfl
    try simp only [Act.put, List.setIfInBounds_toArray, List.set_cons_zero, List.set_cons_succ]
    refine wpAnyH_take (i := 10) (oi := ⟨some 23, _, _, _, _, _⟩) (v := ?_) rfl (by kernel_rfl) (by kernel_rfl) (by kernel_rfl) (fun _ _ _ h => h) (Or.inl ⟨by rfl, ?_⟩) (by assumption) ?_
    rotate_left 1
    · intro w hSw
      (try dsimp only at hSw)
      go_simp
      try with_reducible rfl
    try simp only [Act.put, List.setIfInBounds_toArray, List.set_cons_zero, List.set_cons_succ]
    refine wpAnyH_take (i := 11) (oi := ⟨some 24, _, _, _, _, _⟩) (v := ?_) rfl (by kernel_rfl) (by kernel_rfl) (by kernel_rfl) (fun _ _ _ h => h) (Or.inl ⟨by rfl, ?_⟩) (by assumption) ?_
    rotate_left 1
    · intro w hSw
      (try dsimp only at hSw)
      go_simp
      try with_reducible rfl
    try simp only [Act.put, List.setIfInBounds_toArray, List.set_cons_zero, List.set_cons_succ]
    refine wpAnyH_take (i := 12) (oi := ⟨some 25, _, _, _, _, _⟩) (v := ?_) rfl (by kernel_rfl) (by kernel_rfl) (by kernel_rfl) (fun _ _ _ h => h) (Or.inl ⟨by rfl, ?_⟩) (by assumption) ?_
    rotate_left 1
    · intro w hSw
      (try dsimp only at hSw)
      go_simp
      try with_reducible rfl
    try simp only [Act.put, List.setIfInBounds_toArray, List.set_cons_zero, List.set_cons_succ]
    refine wpAnyH_take (i := 13) (oi := ⟨some 26, _, _, _, _, _⟩) (v := ?_) rfl (by kernel_rfl) (by kernel_rfl) (by kernel_rfl) (fun _ _ _ h => h) (Or.inl ⟨by rfl, ?_⟩) (by assumption) ?_
    rotate_left 1
    · intro w hSw
      (try dsimp only at hSw)
      go_simp
      try with_reducible rfl
    try simp only [Act.put, List.setIfInBounds_toArray, List.set_cons_zero, List.set_cons_succ]
    refine wpAnyH_take (i := 14) (oi := ⟨some 27, _, _, _, _, _⟩) (v := ?_) rfl (by kernel_rfl) (by kernel_rfl) (by kernel_rfl) (fun _ _ _ h => h) (Or.inl ⟨by rfl, ?_⟩) (by assumption) ?_
    rotate_left 1
    · intro w hSw
      (try dsimp only at hSw)
      go_simp
      try with_reducible rfl
    try simp only [Act.put, List.setIfInBounds_toArray, List.set_cons_zero, List.set_cons_succ]
    refine wpAnyH_take (i := 15) (oi := ⟨some 28, _, _, _, _, _⟩) (v := ?_) rfl (by kernel_rfl) (by kernel_rfl) (by kernel_rfl) (fun _ _ _ h => h) (Or.inl ⟨by rfl, ?_⟩) (by assumption) ?_
    rotate_left 1
    · intro w hSw
      (try dsimp only at hSw)
      go_simp
      try with_reducible rfl
    try simp only [Act.put, List.setIfInBounds_toArray, List.set_cons_zero, List.set_cons_succ]
    refine wpAnyH_take (i := 16) (oi := ⟨some 29, _, _, _, _, _⟩) (v := ?_) rfl (by kernel_rfl) (by kernel_rfl) (by kernel_rfl) (fun _ _ _ h => h) (Or.inl ⟨by rfl, ?_⟩) (by assumption) ?_
    rotate_left 1
    · intro w hSw
      (try dsimp only at hSw)
      go_simp
      try with_reducible rfl
    try simp only [Act.put, List.setIfInBounds_toArray, List.set_cons_zero, List.set_cons_succ]
    refine wpAnyH_take (i := 17) (oi := ⟨some 30, _, _, _, _, _⟩) (v := ?_) rfl (by kernel_rfl) (by kernel_rfl) (by kernel_rfl) (fun _ _ _ h => h) (Or.inl ⟨by rfl, ?_⟩) (by assumption) ?_
    rotate_left 1
    · intro w hSw
      (try dsimp only at hSw)
      go_simp
      try with_reducible rfl
    try simp only [Act.put, List.setIfInBounds_toArray, List.set_cons_zero, List.set_cons_succ]
    refine wpAnyH_take (i := 18) (oi := ⟨some 9, _, _, _, _, _⟩) (v := ?_) rfl (by kernel_rfl) (by kernel_rfl) (by kernel_rfl) (fun _ _ _ h => h) (Or.inl ⟨by rfl, ?_⟩) (by assumption) ?_
    rotate_left 1
    · intro w hSw
      (try dsimp only at hSw)
      go_simp
      try with_reducible rfl
    try simp only [Act.put, List.setIfInBounds_toArray, List.set_cons_zero, List.set_cons_succ]
    refine wpAnyH_take (i := 19) (oi := ⟨some 10, _, _, _, _, _⟩) (v := ?_) rfl (by kernel_rfl) (by kernel_rfl) (by kernel_rfl) (fun _ _ _ h => h) (Or.inl ⟨by rfl, ?_⟩) (by assumption) ?_
    rotate_left 1
    · intro w hSw
      (try dsimp only at hSw)
      go_simp
      try with_reducible rfl
    try simp only [Act.put, List.setIfInBounds_toArray, List.set_cons_zero, List.set_cons_succ]
    refine wpAnyH_done (by kernel_rfl) ?_ _
    go_wp2
    go_meet
    exact ⟨rfl, rfl, (Nx.refl _).drew, rfl⟩
  case rest =>
    obtain ⟨rfl, rfl, hx, rfl⟩ := hcut
    by_cases hij : i = j
    · subst hij
      have tq : ((i : Int) == (i : Int)) = true := by simp
      have HF := HFA.out
      generalize gi (searchG G i ad).first i = z at *
      subst HF
      go_wp2_with fail
      go_ret
      exact ⟨n, f, rfl, HT.out.step hx, by omega, Gr.of_nx hx⟩
    · have tq : ((i : Int) == (j : Int)) = false := by rw [beq_eq_false_iff_ne]; omega
      have HR := hide (HTR.out _ hx)
      clear HTR hij
      go_wp2_with fail
      refine HR.out.mono ?_
      rintro e w3 ⟨a, n', f', rfl, hTR, hT3, hn3, hg3⟩
      have t3 : w3.cell? ⟨a.T, 3, none⟩ = some (.slice (some ⟨a.gF, 0, none⟩) nn nn) := (cell_of_row w3 _ 3 _ _ _ hTR.hT).trans rfl
      have x0 := intRow_cell hTR.hF (i := j) (by rw [hTR.lF]; exact hj)
      have hTl := lt_of_heap hTR.hT
      have hFl := lt_of_heap hTR.hF
      have i1 : (0 : Int) ≤ (j : Int) := by omega
      have i2 : (j : Int) < (nn : Int) := by omega
      have HT3 := hide hT3
      have HG3 := hide hg3
      clear hTR hT3 hg3 HT HS HR
      generalize gi (searchG G i ad).first j = z at *
      go_wp2_with fail
      go_ret
      exact ⟨n', f', rfl, HT3.out, hn3, (Gr.of_nx hx).trans HG3.out⟩
end Go.Proofs.YtklgknepamebdaaGreatDoor
/- The node from which another one is reached first: the program. -/
namespace Go.Proofs.YtklgknepamebdaaGreatDoor
open Go.RowKit

def nearV (p : Int × Int) (F : Int) : Value := .tuple #[.int .i64 (if p.1 < 0 then 0 else p.1), .int .i64 (if p.1 < 0 then 0 else p.2), .bool (decide (0 ≤ p.1)), .int .i64 F]
set_option maxRecDepth 100000 in
set_option maxHeartbeats 8000000 in
theorem w_Nearest (lo : Nat) (A B C : Option Addr) (ca cb cc : Nat) (ns : List Node) (rs : List Arc) (bs : List Ban) (lo2 : Nat) (D : Option Addr) (cd : Nat) (l : List ByteArray) (to_ : ByteArray) (ad : Int) (w : World)
    (hN : Rd w lo A 3 encNode ns) (hA : RdArcs w lo B rs) (hB : Rd w lo C 2 encBan bs) (hnl : ns.length ≤ 400) (hal : rs.length ≤ 400) (hbl : bs.length ≤ 400) (hS : SmallN ns) (hD : Rd w lo2 D 1 encS l) (hl : l.length ≤ 200) :
    Calls Tryz.prog 37 #[.agg #[.slice A ns.length ca, .slice B rs.length cb, .slice C bs.length cc], .slice D l.length cd, .string to_, .int .i64 ad] w fun e w' => e = .returned (nearV (nearP ns rs bs l to_ ad) (nearF ns rs bs l to_ ad)) ∧ Nx w w' := by
  obtain ⟨wa, hwa⟩ : ∃ wa, wa = w.alloc (.cells #[.slice A ns.length ca, .slice B rs.length cb, .slice C bs.length cc] 30) := ⟨_, rfl⟩
  have hna : Nx w wa := hwa ▸ (Nx.refl w).alloc _
  have hgw : w.heap.size < wa.heap.size := by rw [hwa]; simp
  have b0 : wa.cell? ⟨w.heap.size, 0, none⟩ = some (.slice A ns.length ca) := by rw [hwa]; go_simp
  have b1 : wa.cell? ⟨w.heap.size, 1, none⟩ = some (.slice B rs.length cb) := by rw [hwa]; go_simp
  have b2 : wa.cell? ⟨w.heap.size, 2, none⟩ = some (.slice C bs.length cc) := by rw [hwa]; go_simp
  have hBox : BoxR wa w.heap.size lo A B C ca cb cc ns rs bs := ⟨b0, b1, b2, hgw, hN.nx hna, hA.nx hna, hB.nx hna, hnl, hal, hbl⟩
  have HC := hide (w_CheckRoads lo lo lo A B C ca cb cc ns rs bs wa hBox.hN hS hBox.nl hBox.hA hBox.al hBox.hB hBox.bl)
  have HP := hide (show nearP ns rs bs l to_ ad = if nearF ns rs bs l to_ ad = 0 then nearO (fun s => arrS ns rs bs s to_ ad) l 0 (-1) endT else (-1, endT) from rfl)
  have HF := hide (show nearF ns rs bs l to_ ad = if roadsF ns rs bs = 0 then (if missB ns l = true ∨ nodeI ns to_ < 0 then 8 else if momB ad then 0 else 1) else roadsF ns rs bs from rfl)
  have HDD := hide (hD.nx hna)
  have HB := hide hBox
  have HOK := hide (fun h : roadsF ns rs bs = 0 => (⟨newOk_of h, (roads_ok h).2.1⟩ : NewOk ns rs bs ∧ chk (arcF ns) none rs = 0))
  have HNEWK := hide (fun h : roadsF ns rs bs = 0 => fun s (hs : 0 ≤ nodeI ns s) => nodeI_small h hs)
  clear hBox hN hA hB hD
  generalize nearP ns rs bs l to_ ad = P at *
  generalize nearF ns rs bs l to_ ad = F at *
  have HWA := hide hwa
  have HNA := hide hna
  clear hwa hna
  have tl : decide ((l.length : Int) > 200) = false := decide_eq_false (by omega)
  by_cases hR : roadsF ns rs bs = 0
  · obtain ⟨hNO, hCC⟩ := HOK.out hR
    have HF := hide (HF.out.trans (if_pos hR))
    have HMI := hide (fun W (hx : Nx wa W) => w_ContFS 93 (fun s => decide (nodeI ns s < 0)) (.pointer (some ⟨w.heap.size, 0, none⟩)) eg_near1 lo2 D cd l W (fun y W2 hx2 => w_near1 w.heap.size lo A ca ns y W2 (HB.out.nx (hx.trans hx2)).g0 (HB.out.nx (hx.trans hx2)).hN (by omega) hNO.sn) (HDD.out.nx hx) (by omega))
    have HND := hide (fun W (hx : Nx wa W) => w_nodeR w.heap.size lo A ca ns to_ W (HB.out.nx hx).g0 (HB.out.nx hx).hN (by omega) hNO.sn)
    have HNW := hide (fun W (hx : Nx wa W) => w_New w.heap.size lo A B C ca cb cc ns rs bs W (HB.out.nx hx) hNO)
    have HAR := hide (fun w0 W bt b n f bm M (hM : MapR w0 bm w.heap.size lo A B C ca cb cc M ns rs bs) (hT : TripsR w0 W bt b n f bm ns.length rs.length (gphOf ns rs bs) (fun _ => False)) s (hs : 0 ≤ nodeI ns s) (ht : 0 ≤ nodeI ns to_) ha hn => w_Arrive w0 W bt b n f bm w.heap.size lo A B C ca cb cc M ns rs bs s to_ ad (fun _ => False) hM hCC hNO.sn (HNEWK.out hR) hT (fun _ h => h.elim) hs ht hnl ha hn)
    have HIX := hide (fun s (hs : 0 ≤ nodeI ns s) (ht : 0 ≤ nodeI ns to_) (ha : 0 ≤ ad ∧ ad ≤ 345686399999) => (show (gi (searchG (gphOf ns rs bs) (nodeN ns s) ad).first (nodeN ns to_) < 0 ∧ arrS ns rs bs s to_ ad = endT) ∨ (0 ≤ gi (searchG (gphOf ns rs bs) (nodeN ns s) ad).first (nodeN ns to_) ∧ arrS ns rs bs s to_ ad = gi (searchG (gphOf ns rs bs) (nodeN ns s) ad).first (nodeN ns to_) ∧ gi (searchG (gphOf ns rs bs) (nodeN ns s) ad).first (nodeN ns to_) < endT ∧ ad ≤ gi (searchG (gphOf ns rs bs) (nodeN ns s) ad).first (nodeN ns to_)) from arr_ix (bs := bs) hCC (nodeN_lt hs) (nodeN_lt ht) ha.1 (by unfold endT; omega)))
    rw [hR] at HC
    clear HOK hR hNO hCC
    rw [show (l.any fun s => decide (nodeI ns s < 0)) = missB ns l from rfl] at HMI
    have HMA := hide (fun h => miss_all (ns := ns) (l := l) h)
    generalize missB ns l = mb at *
    generalize hnl2 : l.length = n at *
    have HLN := hide hnl2
    clear hnl2
    go_enter Tryz.func37, Tryz.ntmps37
    go_upto_region 1 with fail
    rw [← HWA.out]
    generalize w.heap.size = g at *
    go_wp2_with fail
    refine HC.out.mono ?_
    rintro e w1 ⟨rfl, hn1⟩
    have HN1 := hide hn1
    clear b0 b1 b2 hn1 HC
    go_wp2_with fail
    refine (HMI.out w1 HN1.out).mono ?_
    rintro e w2 ⟨rfl, hn2⟩
    have HN2 := hide (HN1.out.trans hn2)
    clear hn2 HN1 HMI
    cases mb
    · go_wp2_with fail
      refine (HND.out w2 HN2.out).mono ?_
      rintro e w3 ⟨rfl, hn3⟩
      have HN3 := hide (HN2.out.trans hn3)
      clear hn3 HN2 HND
      have HF := HF.out
      by_cases ht : nodeI ns to_ < 0
      · rw [if_pos (.inr ht)] at HF
        subst HF
        have hP := HP.out.trans (if_neg (by decide))
        subst hP
        have t1 : decide (nodeI ns to_ < 0) = true := decide_eq_true ht
        clear ht HP
        go_wp2_with fail
        exact bodyPost_ret (v := .tuple #[.int .i64 0, .int .i64 0, .bool false, .int .i64 8]) (by simp [results, Tryz.results37, go_sem]) rfl ⟨rfl, HNA.out.trans HN3.out⟩
      · rw [if_neg (by simpa using ht)] at HF
        have t1 : decide (nodeI ns to_ < 0) = false := decide_eq_false ht
        have HT0 := hide (Int.not_lt.1 ht)
        clear ht
        cases hm : momB ad
        · rw [hm, if_neg (by simp)] at HF
          subst HF
          have hP := HP.out.trans (if_neg (by decide))
          subst hP
          clear HP
          go_wp2_with fail
          refine (w_Moment _ _).mono ?_
          rintro e w4 ⟨rfl, rfl⟩
          rw [hm]
          go_wp2_with fail
          exact bodyPost_ret (v := .tuple #[.int .i64 0, .int .i64 0, .bool false, .int .i64 1]) (by simp [results, Tryz.results37, go_sem]) rfl ⟨rfl, HNA.out.trans HN3.out⟩
        · rw [hm, if_pos rfl] at HF
          subst HF
          have HP := hide (HP.out.trans (if_pos rfl))
          have HMB := hide (momB_true.1 hm)
          go_wp2_with fail
          refine (w_Moment _ _).mono ?_
          rintro e w4 ⟨rfl, rfl⟩
          rw [hm]
          clear hm t1
          go_wp2_with fail
          refine (HNW.out w3 HN3.out).mono ?_
          rintro e w4 ⟨bm, M, rfl, _, hM, hn4⟩
          have HM := hide hM
          have HN4 := hide (HN3.out.trans hn4)
          clear hM hn4 HN3 HNW
          go_wp2_with fail
          refine (w_NewTrips bm ns.length rs.length (gphOf ns rs bs) w4).mono ?_
          rintro e w5 ⟨bt, b, rfl, _, hT⟩
          have HT := hide hT
          have HAK := hide (fun W m fm (hT : TripsR w4 W bt b m fm bm ns.length rs.length (gphOf ns rs bs) (fun _ => False)) s (hs : 0 ≤ nodeI ns s) hn => HAR.out w4 W bt b m fm bm M HM.out hT s hs HT0.out HMB.out hn)
          have HIK := hide (fun s (hs : 0 ≤ nodeI ns s) => HIX.out s hs HT0.out HMB.out)
          have HMS := hide (HMA.out (by first | trivial | rfl))
          obtain ⟨V, hV⟩ : ∃ V : ByteArray → Int, V = fun s => arrS ns rs bs s to_ ad := ⟨_, rfl⟩
          have HIV := hide (fun s (hs : 0 ≤ nodeI ns s) => (show (gi (searchG (gphOf ns rs bs) (nodeN ns s) ad).first (nodeN ns to_) < 0 ∧ V s = endT) ∨ (0 ≤ gi (searchG (gphOf ns rs bs) (nodeN ns s) ad).first (nodeN ns to_) ∧ V s = gi (searchG (gphOf ns rs bs) (nodeN ns s) ad).first (nodeN ns to_) ∧ gi (searchG (gphOf ns rs bs) (nodeN ns s) ad).first (nodeN ns to_) < endT ∧ ad ≤ gi (searchG (gphOf ns rs bs) (nodeN ns s) ad).first (nodeN ns to_)) by rw [hV]; exact HIK.out s hs))
          rw [← hV] at HP
          clear hT hV HIK HAR HIX HMA HT0 HM HNEWK
          generalize gphOf ns rs bs = G at *
          generalize ns.length = nn at *
          generalize rs.length = m at *
          go_wp2_with fail
          go_loopw [14, 15, 42] (fun vb vw u wr => ∃ (k : Nat) (fi be wv : Int) (q : Nat) (fm : Int × Int → Option (Option Nat)), k ≤ n ∧ u = .int .i64 k ∧ vb = .int .i64 fi ∧ vw = .int .i64 wv ∧ ((fi < 0 ∧ be = endT ∧ wv = 0 ∧ fi = -1) ∨ (0 ≤ fi ∧ be < endT ∧ wv = be)) ∧ P = nearO V (l.drop k) k fi be ∧ TripsR w4 wr bt b q fm bm nn m G (fun _ => False) ∧ q ≤ k) (fun _ _ u _ => n - (intOf u).toNat)
          case atStart => exact ⟨0, -1, endT, 0, 0, _, Nat.zero_le _, rfl, rfl, rfl, .inl ⟨by omega, rfl, rfl, rfl⟩, HP.out, HT.out, Nat.le_refl _⟩
          case round =>
            obtain ⟨k, fi, be, wv, q, fm, hk, rfl, rfl, rfl, hst, hq, hT, hqk⟩ := hrel
            have HQ := hide hq
            have HTT := hide hT
            clear hq hT
            by_cases hlt : k < n
            · have hlt' : k < l.length := by have := HLN.out; omega
              have hwr := HN4.out.trans HTT.out.nx
              obtain ⟨by_, boff, rfl, _, hyb, hyb1, hyc⟩ := HDD.out.open_ hwr (by omega)
              have c0 : wr.cell? ⟨by_, boff + k, none⟩ = some (.string l[k]) := by have := hyc k hlt' 0 _ rfl; simpa using this
              have HD := hide (nearO_drop V l k hlt' fi be)
              have hs := HMS.out _ (List.getElem_mem hlt')
              have hix := HIV.out _ hs
              have HA := hide (HAK.out wr q fm HTT.out _ hs (by omega))
              clear hyc hs
              generalize l[k] = s at *
              generalize gi (searchG G (nodeN ns s) ad).first (nodeN ns to_) = z at *
              generalize V s = vs at *
              have HTS := hide (show vs < be ↔ (0 ≤ z ∧ (fi < 0 ∨ z < wv)) by
                rcases hix with ⟨h1, h2⟩ | ⟨h1, h2, h3, _⟩ <;> rcases hst with ⟨a1, a2, a3, _⟩ | ⟨a1, a2, a3⟩ <;> omega)
              have hvz : 0 ≤ z → vs = z ∧ z < endT := by intro h; rcases hix with ⟨h1, h2⟩ | ⟨h1, h2, h3, _⟩ <;> omega
              have HVZ := hide hvz
              have HST := hide hst
              clear hix hvz hst
              go_wp2_with fail
              refine HA.out.mono ?_
              rintro e w6 ⟨q', fm', rfl, hT6, hq6, _⟩
              have HT6 := hide hT6
              clear hT6 c0 HA
              by_cases h1 : 0 ≤ z
              · have e1 : decide (z ≥ 0) = true := decide_eq_true h1
                have e1' : decide (0 ≤ z) = true := decide_eq_true h1
                obtain ⟨rfl, hze⟩ := HVZ.out h1
                by_cases h2 : fi < 0
                · have e2 : decide (fi < 0) = true := decide_eq_true h2
                  have HD2 := hide (HD.out.trans (if_pos (HTS.out.2 ⟨h1, .inl h2⟩)))
                  clear HD HTS h2 HST
                  go_wp2_with fail
                  go_roundw
                  case rel => exact ⟨k + 1, (k : Int), vs, vs, q', fm', by omega, by go_num, rfl, rfl, .inr ⟨by omega, hze, rfl⟩, by rw [HQ.out, HD2.out], HT6.out, by omega⟩
                  case measure => simp [intOf]; omega
                · have e2 : decide (fi < 0) = false := decide_eq_false h2
                  by_cases h3 : vs < wv
                  · have e3 : decide (vs < wv) = true := decide_eq_true h3
                    have HD2 := hide (HD.out.trans (if_pos (HTS.out.2 ⟨h1, .inr h3⟩)))
                    clear HD HTS h2 h3 HST
                    go_wp2_with fail
                    go_roundw
                    case rel => exact ⟨k + 1, (k : Int), vs, vs, q', fm', by omega, by go_num, rfl, rfl, .inr ⟨by omega, hze, rfl⟩, by rw [HQ.out, HD2.out], HT6.out, by omega⟩
                    case measure => simp [intOf]; omega
                  · have e3 : decide (vs < wv) = false := decide_eq_false h3
                    have HD2 := hide (HD.out.trans (if_neg (fun h => (HTS.out.1 h).2.elim h2 h3)))
                    clear HD HTS h2 h3
                    go_wp2_with fail
                    go_roundw
                    case rel => exact ⟨k + 1, fi, be, wv, q', fm', by omega, by go_num, rfl, rfl, HST.out, by rw [HQ.out, HD2.out], HT6.out, by omega⟩
                    case measure => simp [intOf]; omega
              · have e1 : decide (z ≥ 0) = false := decide_eq_false h1
                have HD2 := hide (HD.out.trans (if_neg (fun h => h1 (HTS.out.1 h).1)))
                clear HD HTS h1
                go_wp2_with fail
                go_roundw
                case rel => exact ⟨k + 1, fi, be, wv, q', fm', by omega, by go_num, rfl, rfl, HST.out, by rw [HQ.out, HD2.out], HT6.out, by omega⟩
                case measure => simp [intOf]; omega
            · obtain rfl : n = k := by omega
              have hPP : P = (fi, be) := by rw [HQ.out, List.drop_of_length_le (by have := HLN.out; omega)]; rfl
              subst hPP
              have hNN := HNA.out.trans (HN4.out.trans HTT.out.nx)
              rcases hst with ⟨h1, h2, rfl, rfl⟩ | ⟨h1, h2, rfl⟩
              · have e1 : decide ((-1 : Int) < 0) = true := by decide
                clear h1 h2
                go_wp2_with fail
                exact bodyPost_ret (v := .tuple #[.int .i64 0, .int .i64 0, .bool false, .int .i64 0]) (by simp [results, Tryz.results37, go_sem]) rfl ⟨rfl, hNN⟩
              · have e1 : decide (fi < 0) = false := decide_eq_false (by omega)
                have HV := hide (show nearV (fi, wv) 0 = .tuple #[.int .i64 fi, .int .i64 wv, .bool true, .int .i64 0] by unfold nearV; rw [if_neg (by show ¬ fi < 0; omega), if_neg (by show ¬ fi < 0; omega), decide_eq_true (show 0 ≤ (fi, wv).1 from h1)])
                clear h1 h2
                go_wp2_with fail
                exact bodyPost_ret (v := .tuple #[.int .i64 fi, .int .i64 wv, .bool true, .int .i64 0]) (by simp [results, Tryz.results37, go_sem]) rfl ⟨by rw [HV.out], hNN⟩
    · have HF := HF.out
      rw [if_pos (.inl rfl)] at HF
      subst HF
      have hP := HP.out.trans (if_neg (by decide))
      subst hP
      clear HP
      go_wp2_with fail
      exact bodyPost_ret (v := .tuple #[.int .i64 0, .int .i64 0, .bool false, .int .i64 8]) (by simp [results, Tryz.results37, go_sem]) rfl ⟨rfl, HNA.out.trans HN2.out⟩
  · have hF := HF.out.trans (if_neg hR)
    have hP := HP.out.trans (if_neg (by rw [hF]; exact hR))
    subst hP
    rw [← hF] at HC hR
    have tE : (F == 0) = false := by simpa using hR
    have tE2 : (F != 0) = true := by simpa using hR
    clear hF HF HP hR HOK HNEWK
    go_enter Tryz.func37, Tryz.ntmps37
    go_upto_region 1 with fail
    rw [← HWA.out]
    go_wp2_with fail
    refine HC.out.mono ?_
    rintro e w1 ⟨rfl, hn1⟩
    clear b0 b1 b2
    go_wp2_with fail
    exact bodyPost_ret (v := .tuple #[.int .i64 0, .int .i64 0, .bool false, .int .i64 F]) (by simp [results, Tryz.results37, go_sem]) rfl ⟨rfl, HNA.out.trans hn1⟩
end Go.Proofs.YtklgknepamebdaaGreatDoor
