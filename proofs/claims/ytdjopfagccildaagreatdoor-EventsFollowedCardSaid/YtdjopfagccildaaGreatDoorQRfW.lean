/- All cars, by the reference. -/
import Derived.Test.YtdjopfagccildaaGreatDoorQG26
import Derived.Test.YtdjopfagccildaaGreatDoorQG43
namespace Go.Proofs.YtdjopfagccildaaGreatDoor
open Go.RowKit Go.Maps

theorem wrsR_snoc {D : DayR} {rk ck : List ByteArray} {k : Nat} (h : k < ck.length) : wrsR D (ck.take (k + 1)) rk = wrsR D (ck.take k) rk ++ [wrR D rk ck[k]] := by
  unfold wrsR; rw [take_snoc h, List.map_append]; rfl
theorem carsF_some {D : DayR} {key : ByteArray} (h : (carsF D key).isSome = true) : (carsF D key).getD wh0 = ⟨key, ((D.cars key).getD (eB, 0)).1, ((D.cars key).getD (eB, 0)).2⟩ := by
  unfold carsF at *
  cases hc : D.cars key with
  | none => rw [hc] at h; cases h
  | some z => rfl
theorem carsF_is (D : DayR) (key : ByteArray) : (carsF D key).isSome = (D.cars key).isSome := by unfold carsF; cases D.cars key <;> rfl
theorem filter_snoc {α : Type} {p : α → Bool} {l : List α} {k : Nat} (h : k < l.length) : (l.take (k + 1)).filter p = if p l[k] = true then (l.take k).filter p ++ [l[k]] else (l.take k).filter p := by
  rw [take_snoc h, List.filter_append]
  by_cases hp : p l[k] = true
  · rw [if_pos hp]; simp [hp]
  · rw [if_neg hp]; simp [hp]
theorem RowsIn.snoc {w w' : World} {o : Obj} {lo lo2 n : Nat} {v : Value} {xs : List Value} {L : List WrS} {y : WrS} (h : RowsIn w lo L) (hy : w.ownsRow lo 9 1 (.slice y.ra y.core.rides.length y.rc) y.core.rides.length (y.core.rides.flatMap encS)) (hv : w.ownsRow lo2 65 5 v n xs) (hg : (w.alloc o).grownBy w' v.ownBlock) : RowsIn w' lo (L ++ [y]) := by
  intro x hx
  rcases List.mem_append.1 hx with hx | hx
  · exact (h.nx ((Nx.refl _).alloc _)).turn (hv.alloc _) hg x hx
  · rw [List.mem_singleton.1 hx]
    exact (hy.alloc _).kept hg (rows_apart (hy.alloc o) (hv.alloc o) (by decide))
/-- All cars, in order, by the reference. -/
def CarsEnd (l : List Ev) (at_ : Int) (w : World) (e : Ending) (w' : World) : Prop :=
  ∃ (A : Option Addr) (c : Nat) (ck : List ByteArray) (L : List WrS), e = .returned (.slice A L.length c) ∧ RdWrs w' w.heap.size A L ∧ KeysOf (runR l at_ l.length).cars ck ∧ (∀ rk, KeysOf (runR l at_ l.length).rides rk → L.map (·.core) = wrsR (runR l at_ l.length) ck rk) ∧ L.length ≤ 3 * l.length ∧ (∀ x ∈ L, x.core.rides.length ≤ 3 * l.length) ∧ Nx w w'
set_option maxRecDepth 100000 in
set_option maxHeartbeats 4000000 in
theorem w_CarsAt (lo : Nat) (A : Option Addr) (c : Nat) (l : List Ev) (at_ : Int) (w : World) (hR : Rd w lo A 11 encEvt l) (hl : l.length ≤ 1000) (hc : l.length ≤ c) (hok : ∀ x ∈ l, okEv x) :
    Calls Tryz.prog 28 #[.slice A l.length c, .int .i64 at_] w (CarsEnd l at_ w) := by
  have HDA := hide (w_dayAt lo A c l at_ w hR hl hc hok)
  unfold CarsEnd
  obtain ⟨D, hD⟩ : ∃ D, D = runR l at_ l.length := ⟨_, rfl⟩
  rw [← hD]
  have HD := hide hD
  obtain ⟨n, hn⟩ : ∃ n, n = l.length := ⟨_, rfl⟩
  have hnl : n ≤ 1000 := by omega
  rw [← hn] at HDA ⊢
  have HN := hide hn
  clear hR hl hc hok hn hD
  go_enter Tryz.func28, Tryz.ntmps28
  go_wp2_with fail
  refine HDA.out.mono ?_
  rintro e w1 ⟨d, rb, cb, bb, rfl, hDR, _, hn1⟩
  rw [← HD.out, ← HN.out] at hDR
  have HS := hide (w_SortedWh cb (3 * n) (carsF D) w1 hDR.cars (by omega))
  obtain ⟨d0, d1, d2⟩ := dayR_cells hDR.blk
  have hdl := hDR.lts.1
  have HDR := hide hDR
  have HN1 := hide hn1
  clear hDR hn1
  go_wp2_with (go_at_call 79; refine (w_KeysWh _ _).mono ?_; rintro e w' ⟨rfl, rfl⟩)
  refine HS.out.mono ?_
  rintro e w3 ⟨KA, kc, ks, rfl, hRk, hK, hkl, hn3⟩
  obtain ⟨m, hm⟩ : ∃ m, m = ks.length := ⟨_, rfl⟩
  rw [← hm] at hkl
  rw [← hm]
  have HM := hide hm
  have HRK := hide hRk
  have HK := hide hK
  have HN3 := hide hn3
  have d0' := nx_cell hn3 hdl d0
  have d1' := nx_cell hn3 hdl d1
  have d2' := nx_cell hn3 hdl d2
  have hdl3 := Nat.lt_of_lt_of_le hdl hn3.sz
  clear hm hRk hK hn3 d0 d1 d2 HS
  go_wp2_with fail
  go_loopw [6, 8, 9, 11, 12, 23] (fun v _ _ _ _ i wr => ∃ (k : Nat) (L : List WrS), k ≤ m ∧ i = .int .i64 k ∧ Nx w3 wr ∧ L.length = k ∧ wr.ownsRow w3.heap.size 65 5 v L.length (L.flatMap encWr) ∧ RowsIn wr w3.heap.size L ∧ (∀ rk, KeysOf D.rides rk → L.map (·.core) = wrsR D (ks.take k) rk) ∧ (∀ x ∈ L, x.core.rides.length ≤ 3 * n)) (fun _ _ _ _ _ i _ => m - (intOf i).toNat)
  case atStart => exact ⟨0, [], Nat.zero_le _, rfl, Nx.refl _, rfl, World.ownsRow_nil _ _ _ _, fun x hx => by simp at hx, fun _ _ => rfl, fun x hx => by simp at hx⟩
  case round =>
    obtain ⟨k, L, hk, rfl, hnx, hLl, hown, hrows, hcore, hrl⟩ := hrel
    have HNX := hide hnx
    by_cases hlt : k < m
    · have hlt' : k < ks.length := by have := HM.out; omega
      obtain ⟨b, off, eb, _, hb, hbr, hcs⟩ := HRK.out.open_ hnx (by have := HM.out; omega)
      have c0 : wr.cell? ⟨b, off + k, none⟩ = some (.string ks[k]) := by have := hcs k hlt' 0 _ rfl; simpa using this
      have hts := hide (fun rk => wrsR_snoc (D := D) (rk := rk) hlt')
      have hks := (HK.out.2 ks[k]).1 (List.getElem_mem hlt')
      have hkd := mg_dom HDR.out.cars hks
      generalize ks[k] = key at *
      have hnw := HN3.out.trans hnx
      have hlk := look_whR (HDR.out.cars.nx hnw) hkd
      rw [carsF_some hks] at hlk
      obtain ⟨zn, hzn⟩ : ∃ zn, zn = ((D.cars key).getD (eB, 0)).1 := ⟨_, rfl⟩
      obtain ⟨za, hza⟩ : ∃ za, za = ((D.cars key).getD (eB, 0)).2 := ⟨_, rfl⟩
      rw [← hzn, ← hza] at hlk
      have e0 := nx_cell hnx hdl3 d0'
      have e1 := nx_cell hnx hdl3 d1'
      have e2 := nx_cell hnx hdl3 d2'
      have hdlr := Nat.lt_of_lt_of_le hdl3 hnx.sz
      simp only [whV] at hlk
      have HZ := hide (And.intro hzn hza)
      have HOW := hide hown
      have HRW := hide hrows
      have HCO := hide hcore
      have HRL := hide hrl
      have hz3 : w3.heap.size ≤ wr.heap.size := hnx.sz
      have q1 : (0 : Int) ≤ (k : Int) := by omega
      have q2 : (k : Int) < (m : Int) := by omega
      subst eb
      obtain ⟨g, hg⟩ : ∃ g, g = wr.heap.size := ⟨_, rfl⟩
      obtain ⟨w5, hw5⟩ : ∃ w5, w5 = wr.alloc (.cells #[.string key, .string zn, .int .i64 za, .bool false, .slice none 0 0] 65 (0, 0)) := ⟨_, rfl⟩
      have hn5 : Nx wr w5 := hw5 ▸ (Nx.refl wr).alloc _
      have hb5 : w5.heap[g]? = some (.cells #[.string key, .string zn, .int .i64 za, .bool false, .slice none 0 0] 65 (0, 0)) := by rw [hw5, hg]; exact heap_alloc_new wr _
      have hlb := look_boR (HDR.out.brk.nx (hnw.trans hn5)) hkd
      obtain ⟨bk, hbk⟩ : ∃ bk, bk = brokenR D key := ⟨_, rfl⟩
      rw [show (D.broken key).getD false = bk from hbk.symm] at hlb
      have HBK := hide hbk
      have x3 : w5.cell? ⟨g, 3, none⟩ = some (.bool false) := cell_of_row w5 _ 3 _ _ _ hb5
      have z3 : w5.frozen? ⟨g, 3, none⟩ = false := by simp [World.frozen?, hb5]
      have hgl5 := (Array.getElem?_eq_some_iff.1 hb5).1
      have f0 := nx_cell hn5 hdlr e0
      have f1 := nx_cell hn5 hdlr e1
      have f2 := nx_cell hn5 hdlr e2
      have hdl5 := Nat.lt_of_lt_of_le hdlr hn5.sz
      have HB5 := hide hb5
      have HN5 := hide hn5
      have HG := hide hg
      have HNW := hide hnw
      clear hcs hks hown hrows hcore hrl hzn hza hbk hnx hnw hb5 hn5
      go_upto_region 7 with fail
      rw [← hw5, ← hg]
      clear hw5 hg hlk e0 e1 e2
      go_upto_region 8 with fail
      obtain ⟨w6, hw6⟩ : ∃ w6, w6 = w5.setCell ⟨g, 3, none⟩ (.bool bk) := ⟨_, rfl⟩
      rw [← hw6]
      have hgw : wr.heap.size ≤ g := by have := HG.out; omega
      have hn6 : Nx wr w6 := hw6 ▸ HN5.out.setCell hgw _
      have hb6 : w6.heap[g]? = some (.cells #[.string key, .string zn, .int .i64 za, .bool bk, .slice none 0 0] 65 (0, 0)) := by rw [hw6]; exact heap_set HB5.out
      have hgl6 := (Array.getElem?_eq_some_iff.1 hb6).1
      have hdg : d < g := by omega
      have j0 : w6.cell? ⟨d, 0, none⟩ = some (.map (some rb)) := by rw [hw6]; exact (cell_set (by omega)).trans f0
      have hdl6 : d < w6.heap.size := Nat.lt_of_lt_of_le hdlr hn6.sz
      have HS2 := hide (w_SortedSt rb (3 * n) D.rides w6 (HDR.out.rides.nx (HNW.out.trans hn6)) (by omega))
      have HB6 := hide hb6
      have HN6 := hide hn6
      clear hw6 hb6 hn6 f0 f1 f2 x3 z3 hlb
      go_wp2_with (go_at_call 78; refine (w_KeysSt _ _).mono ?_; rintro e w' ⟨rfl, rfl⟩)
      refine HS2.out.mono ?_
      rintro e w8 ⟨KB, kd, ks2, rfl, hRk2, hK2, hkl2, hn8⟩
      obtain ⟨m2, hm2⟩ : ∃ m2, m2 = ks2.length := ⟨_, rfl⟩
      rw [← hm2] at hkl2
      rw [← hm2]
      have HM2 := hide hm2
      have HRK2 := hide hRk2
      have HK2 := hide hK2
      have HN8 := hide (HN6.out.trans hn8)
      have hb8 := (hn8.block _ hgl6).trans HB6.out
      have HB8 := hide hb8
      have l0 := nx_cell hn8 hdl6 j0
      have hdl8 := Nat.lt_of_lt_of_le hdl6 hn8.sz
      have hgl8 := Nat.lt_of_lt_of_le hgl6 hn8.sz
      have HZ8 := hide (show g < w6.heap.size ∧ w6.heap.size ≤ w8.heap.size ∧ d < g from ⟨hgl6, hn8.sz, hdg⟩)
      clear hm2 hRk2 hK2 hn8 hb8 j0
      go_wp2_with fail
      go_loopw [11, 12, 47] (fun _ _ j wi => ∃ (q : Nat) (v : Value), q ≤ m2 ∧ j = .int .i64 q ∧ Gr g w8 wi ∧ wi.heap[g]? = some (.cells #[.string key, .string zn, .int .i64 za, .bool bk, v] 65 (0, 0)) ∧ wi.ownsRow w8.heap.size 9 1 v ((ks2.take q).filter (onR D key)).length (((ks2.take q).filter (onR D key)).flatMap encS)) (fun _ _ j _ => m2 - (intOf j).toNat)
      case atStart => exact ⟨0, .slice none 0 0, Nat.zero_le _, rfl, Gr.refl _ _, HB8.out, World.ownsRow_nil _ _ _ _⟩
      case round =>
        obtain ⟨q, v, hq, rfl, hgr, hbg, hown⟩ := hrel
        have HGR := hide hgr
        have HBG := hide hbg
        have HOI := hide hown
        have hgl := (Array.getElem?_eq_some_iff.1 hbg).1
        have hz8 := hgr.sz
        by_cases hlt2 : q < m2
        · have hlt2' : q < ks2.length := by have := HM2.out; omega
          obtain ⟨b2, off2, eb2, _, hb2, hbr2, hcs2⟩ := (HRK2.out.gr hgr HZ8.out.1).open_ (Nx.refl wr) (by have := HM2.out; omega)
          have c1 : wr.cell? ⟨b2, off2 + q, none⟩ = some (.string ks2[q]) := by have := hcs2 q hlt2' 0 _ rfl; simpa using this
          have hfs := hide (filter_snoc (p := onR D key) hlt2')
          have hks2 := (HK2.out.2 ks2[q]).1 (List.getElem_mem hlt2')
          have hkd2 := mg_dom HDR.out.rides hks2
          generalize ks2[q] = id at *
          have hdi := (HDR.out.nx (HNW.out.trans HN8.out)).gr hgr (fun es t h => by have h2 := HB8.out; rw [h2] at h; cases h) (by have := HZ8.out; omega)
          have hlk2 := look_stR hdi.rides hkd2
          have y0 := (dayR_cells hdi.blk).1
          have hdli := hdi.lts.1
          have hon : onR D key id = (decide (((D.rides id).getD st0).how = 3) && decide (((D.rides id).getD st0).car = key)) := rfl
          obtain ⟨L2, hL2⟩ : ∃ L2, L2 = (ks2.take q).filter (onR D key) := ⟨_, rfl⟩
          rw [← hL2] at hfs HOI
          have hll : L2.length ≤ q := by rw [hL2]; exact Nat.le_trans (List.length_filter_le _ _) (by rw [List.length_take]; omega)
          generalize (D.rides id).getD st0 = s at *
          obtain ⟨rid, car, how, up, dn, on, off_⟩ := s
          unfold stV staV at hlk2
          simp only at hlk2 hon
          have q3 : (0 : Int) ≤ (q : Int) := by omega
          have q4 : (q : Int) < (m2 : Int) := by omega
          have g4 : wr.cell? ⟨g, 4, none⟩ = some v := cell_of_row wr _ 4 _ _ _ hbg
          have z4 : wr.frozen? ⟨g, 4, none⟩ = false := by simp [World.frozen?, hbg]
          subst eb2
          clear hcs2 hks2 hgr hbg hown hdi hL2
          have hqq : (how = 3 ∧ car = key) ∨ ¬ (how = 3 ∧ car = key) := Decidable.em _
          rcases hqq with ⟨h3, hce⟩ | hqq
          · have th : (how == 3) = true := by simpa using h3
            have te : (car.toList == key.toList) = true := by rw [eqS_iff]; exact decide_eq_true hce
            have hfa := hide (show (ks2.take (q + 1)).filter (onR D key) = L2 ++ [id] by rw [hfs.out, hon, if_pos (by simp [h3, hce])])
            clear hon h3 hce
            have hge : g < w8.heap.size := by have := HZ8.out; omega
            obtain ⟨nL, hnL⟩ : ∃ nL, nL = (L2 ++ [id]).length := ⟨_, rfl⟩
            have HNL := hide hnL
            clear hnL
            go_wp2_with (first
              | (at_builtin; refine wpApp rfl _ _ _ rfl el_S encS encS_len encS_one (by omega) (by omega) w8.heap.size _ L2 rfl ((HOI.out.alloc _).alloc _) _ id _ rfl (hnew (by simp)) rfl (by omega) (by simp; omega) ?_; intro v9 w9 hown9 hg9; (have HO9 := hide hown9); (have HG9 := hide hg9); (obtain ⟨A9, c9, e9, _, _⟩ := Rd.of_own encS_len rfl hown9); rw [← HNL.out] at e9; subst e9; (have hb9 := hide ((World.grownBy.block hg9 g (by simp; omega) (fun e => by have := own_blk_lt HOI.out g e.symm; omega)).trans ((((Nx.refl wr).alloc _).alloc _).block g hgl |>.trans HBG.out))); (have z9 : w9.frozen? ⟨g, 4, none⟩ = false := by simp [World.frozen?, hb9.out]); (have g9 := cell_of_row w9 g 4 _ _ _ hb9.out); (have hgl9 := (Array.getElem?_eq_some_iff.1 hb9.out).1); clear hown9 hg9))
            go_roundw
            case rel =>
              refine ⟨q + 1, .slice A9 nL c9, by omega, by go_num, (((HGR.out.alloc _).alloc _).grown HG9.out (fun p hp => .inr (own_blk_lt HOI.out p hp))).setS (.inl rfl) _, heap_set hb9.out, ?_⟩
              rw [hfa.out]
              exact own_gr HO9.out ((Gr.refl g w9).setS (.inl rfl) _) hge
            case measure => simp [intOf]; omega
          · have hfa := hide (show (ks2.take (q + 1)).filter (onR D key) = L2 by rw [hfs.out, hon, if_neg (by simpa using hqq)])
            have hbr3 : (how == 3) = false ∨ ((how == 3) = true ∧ (car.toList == key.toList) = false) := by
              by_cases e : how = 3
              · right; refine ⟨by simpa using e, ?_⟩
                rw [eqS_iff]; exact decide_eq_false (fun e2 => hqq ⟨e, e2⟩)
              · left; simpa using e
            clear hon hqq
            rcases hbr3 with hb3 | ⟨hb3, hb4⟩
            all_goals
              go_wp2_with fail
              go_roundw
              case rel =>
                refine ⟨q + 1, v, by omega, by go_num, HGR.out.alloc _, (((Nx.refl wr).alloc _).block g hgl).trans HBG.out, ?_⟩
                rw [hfa.out]
                exact HOI.out.alloc _
              case measure => simp [intOf]; omega
        · obtain rfl : q = m2 := by omega
          rw [List.take_of_length_le (by have := HM2.out; omega)] at hown
          obtain ⟨A9, c9, e9, _, _⟩ := Rd.of_own encS_len rfl hown
          obtain ⟨rr, hrr⟩ : ∃ rr, rr = ks2.filter (onR D key) := ⟨_, rfl⟩
          rw [← hrr] at e9 hown
          obtain ⟨nr, hnr⟩ : ∃ nr, nr = rr.length := ⟨_, rfl⟩
          rw [← hnr] at e9
          subst e9
          have HRR := hide hrr
          have HNR := hide hnr
          have HOR := hide hown
          have hN := hide (Nx.of_gr ((Gr.of_nx (s := g) HN8.out).trans HGR.out) hgw)
          have g0 : wr.cell? ⟨g, 0, none⟩ = some (.string key) := cell_of_row wr _ 0 _ _ _ hbg
          have g1 : wr.cell? ⟨g, 1, none⟩ = some (.string zn) := cell_of_row wr _ 1 _ _ _ hbg
          have g2 : wr.cell? ⟨g, 2, none⟩ = some (.int .i64 za) := cell_of_row wr _ 2 _ _ _ hbg
          have g3 : wr.cell? ⟨g, 3, none⟩ = some (.bool bk) := cell_of_row wr _ 3 _ _ _ hbg
          have g4 : wr.cell? ⟨g, 4, none⟩ = some (.slice A9 nr c9) := cell_of_row wr _ 4 _ _ _ hbg
          obtain ⟨x9, hx9⟩ : ∃ x9 : WrS, x9 = ⟨⟨key, zn, za, bk, rr⟩, A9, c9⟩ := ⟨_, rfl⟩
          have HX9 := hide hx9
          have hxe : encWr x9 = [.string key, .string zn, .int .i64 za, .bool bk, .slice A9 nr c9] := by rw [HX9.out, HNR.out]; rfl
          have HXE := hide hxe
          have HOO := hide (own_nx HOW.out hN.out)
          have HRO := hide (HRW.out.nx hN.out)
          have hzz : w3.heap.size ≤ wr.heap.size := Nat.le_trans hz3 hN.out.sz
          have hz38 : w3.heap.size ≤ w8.heap.size := Nat.le_trans hz3 HN8.out.sz
          have hx9c := hide (show ∀ rk, KeysOf D.rides rk → x9.core = wrR D rk key by
            intro rk hrk
            have e : rk = ks2 := hrk.uniq HK2.out (fun _ => rfl)
            rw [HX9.out, e, HRR.out, HZ.out.1, HZ.out.2, HBK.out]; rfl)
          have hx9l := hide (show x9.core.rides.length ≤ 3 * n by
            rw [HX9.out, HRR.out]
            exact Nat.le_trans (List.length_filter_le _ _) (by have := HM2.out; omega))
          have hlen : L.length ≤ 10000 := by omega
          have HOX := hide (show wr.ownsRow w3.heap.size 9 1 (.slice x9.ra x9.core.rides.length x9.rc) x9.core.rides.length (x9.core.rides.flatMap encS) by
            rw [HX9.out]
            show wr.ownsRow w3.heap.size 9 1 (.slice A9 rr.length c9) rr.length (rr.flatMap encS)
            rw [← HNR.out]
            have := World.ownsRow.mono HOR.out hz38
            rw [← HNR.out] at this
            exact this)
          clear hbg hown hgr hrr hnr hx9 hxe
          go_wp2_with (first
            | (at_builtin; refine wpApp rfl _ _ _ rfl el_Wr encWr encWr_len encWr_one (by omega) (by omega) w3.heap.size _ L rfl (HOO.out.alloc _) _ x9 _ rfl (hnew (by simp)) (by rw [HXE.out]) (by omega) (by simp; omega) ?_; intro v10 w10 hown10 hg10; (have HO10 := hide hown10); (have HG10 := hide hg10); clear hown10 hg10))
          go_roundw
          case rel =>
            refine ⟨k + 1, L ++ [x9], by omega, by go_num, ((HNX.out.trans hN.out).alloc _).grown HG10.out (fun p hp => own_blk_lt HOO.out p hp), by simp; omega, HO10.out, HRO.out.snoc HOX.out HOO.out HG10.out, ?_, ?_⟩
            · intro rk hrk
              rw [List.map_append, HCO.out rk hrk, hts.out rk]
              show _ ++ [x9.core] = _
              rw [hx9c.out rk hrk]
            · intro x hx
              rcases List.mem_append.1 hx with hx | hx
              · exact HRL.out x hx
              · rw [List.mem_singleton.1 hx]; exact hx9l.out
          case measure => simp [intOf]; omega
    · obtain rfl : k = m := by omega
      rw [List.take_of_length_le (by have := HM.out; omega)] at hcore
      obtain ⟨B, bc, eB, hB, _⟩ := Rd.of_own encWr_len rfl hown
      obtain ⟨nl, hnl2⟩ : ∃ nl, nl = L.length := ⟨_, rfl⟩
      rw [← hnl2] at eB
      subst eB
      have HB := hide hB
      have HRW := hide hrows
      have HCO := hide hcore
      have HRL := hide hrl
      have HNL := hide hnl2
      clear hB hnx hown hrows hcore hrl hnl2
      go_wp2_with fail
      go_ret
      refine ⟨B, bc, ks, L, by rw [← HNL.out]; rfl, ⟨HB.out.low (HN1.out.trans HN3.out).sz, fun x hx => (HRW.out.rd x hx).low (HN1.out.trans HN3.out).sz⟩, ⟨HK.out.1, fun x => by rw [HK.out.2, carsF_is]⟩, HCO.out, by omega, HRL.out, (HN1.out.trans HN3.out).trans HNX.out⟩
end Go.Proofs.YtdjopfagccildaaGreatDoor
