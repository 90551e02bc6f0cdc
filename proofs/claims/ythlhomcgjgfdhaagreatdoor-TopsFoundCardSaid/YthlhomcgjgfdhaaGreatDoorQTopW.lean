/- The busiest cells of an hour: demand.Top, the reference's TopOf. -/
import Derived.Test.YthlhomcgjgfdhaaGreatDoorQSortT
import Derived.Test.YthlhomcgjgfdhaaGreatDoorQCheckT
import Derived.Test.YthlhomcgjgfdhaaGreatDoorQG6
import Derived.Deep.DeepCutAuto
import Derived.Deep.DeepMust
namespace Go.Proofs.YthlhomcgjgfdhaaGreatDoor
open Go.RowKit

def hourQ (h : Int) (t : Tally) : Bool := t.hour != h
def ofHour (h : Int) (l : List Tally) : List Tally := l.filter (fun x => !hourQ h x)
theorem el_CellT : ElemOf Tryz.prog 31 39 2 16 := ElemOf.mk' (z := .agg #[.int .i64 0, .int .i64 0]) Tryz.underlying31 (by kernel_rfl) rfl
theorem encC_len (x : Cell) : (encCell x).length = 2 := rfl
theorem encC_one (x : Cell) : ∀ v ∈ encCell x, v.oneCell' = true := by
  intro v hv; simp [encCell] at hv; rcases hv with rfl | rfl <;> rfl
def topL (h : Int) (m : Nat) (l : List Tally) : List Cell := ((sortT (ofHour h l)).take m).map (fun t => ⟨t.x, t.y⟩)
theorem top_step {l : List Tally} {k : Nat} (hk : k < l.length) : (l.take (k + 1)).map (fun t => (⟨t.x, t.y⟩ : Cell)) = (l.take k).map (fun t => (⟨t.x, t.y⟩ : Cell)) ++ [⟨l[k].x, l[k].y⟩] := by
  rw [List.take_succ_eq_append_getElem hk, List.map_append]; rfl
theorem w_tp1 (y : Tally) (bh : Nat) (h : Int) (W : World) (hc : W.cell? ⟨bh, 0, none⟩ = some (.int .i64 h)) (hb : bh < W.heap.size) : Calls Tryz.prog 52 #[.agg #[.int .i64 y.x, .int .i64 y.y, .int .i64 y.hour, .int .i64 y.many], .pointer (some ⟨bh, 0, none⟩)] W fun e w' => e = .returned (.bool (hourQ h y)) ∧ Nx W w' := by
  have HE := hide (show hourQ h y = (y.hour != h) from rfl)
  generalize y.x = a0 at *
  generalize y.y = a1 at *
  generalize y.many = a3 at *
  obtain ⟨z, hz⟩ : ∃ z, z = y.hour := ⟨_, rfl⟩
  rw [← hz] at HE ⊢
  generalize hourQ h y = B at *
  clear hz
  have hc2 : ∀ o, (W.alloc o).cell? ⟨bh, 0, none⟩ = some (.int .i64 h) := fun o => nx_cell ((Nx.refl W).alloc o) hb hc
  go_enter Tryz.func52, Tryz.ntmps52
  go_wp2_with fail
  go_ret
  exact ⟨by rw [HE.out]; rfl, (Nx.refl W).alloc _⟩
theorem w_tp2 (x y : Tally) (w : World) : Calls Tryz.prog 54 #[.agg (encTally x).toArray, .agg (encTally y).toArray] w fun e w' => e = .returned (.int .i64 (manyC x y)) ∧ Lays w w' := by
  unfold encTally
  go_enter Tryz.func54, Tryz.ntmps54
  go_wp2_with (go_at_call 46; refine (w_Compare _ _ _).mono ?_; rintro e w' ⟨rfl, rfl⟩)
  go_ret
  exact ⟨rfl, ((Lays.refl _).alloc _).alloc _⟩
theorem eg_w_tp1 : Enters 52 := enters_of Tryz.func52 (by kernel_rfl) rfl
theorem eg_w_tp2 : Enters 54 := enters_of Tryz.func54 (by kernel_rfl) rfl
theorem w_to1 (y : Tally) (bh : Nat) (h : Int) (W : World) (hc : W.cell? ⟨bh, 0, none⟩ = some (.int .i64 h)) (hb : bh < W.heap.size) : Calls Tryz.prog 55 #[.agg #[.int .i64 y.x, .int .i64 y.y, .int .i64 y.hour, .int .i64 y.many], .pointer (some ⟨bh, 0, none⟩)] W fun e w' => e = .returned (.bool (hourQ h y)) ∧ Nx W w' := by
  have HE := hide (show hourQ h y = (y.hour != h) from rfl)
  generalize y.x = a0 at *
  generalize y.y = a1 at *
  generalize y.many = a3 at *
  obtain ⟨z, hz⟩ : ∃ z, z = y.hour := ⟨_, rfl⟩
  rw [← hz] at HE ⊢
  generalize hourQ h y = B at *
  clear hz
  have hc2 : ∀ o, (W.alloc o).cell? ⟨bh, 0, none⟩ = some (.int .i64 h) := fun o => nx_cell ((Nx.refl W).alloc o) hb hc
  go_enter Tryz.func55, Tryz.ntmps55
  go_wp2_with fail
  go_ret
  exact ⟨by rw [HE.out]; rfl, (Nx.refl W).alloc _⟩
theorem w_to2 (x y : Tally) (w : World) : Calls Tryz.prog 56 #[.agg (encTally x).toArray, .agg (encTally y).toArray] w fun e w' => e = .returned (.int .i64 (manyC x y)) ∧ Lays w w' := by
  unfold encTally
  go_enter Tryz.func56, Tryz.ntmps56
  go_wp2_with (go_at_call 46; refine (w_Compare _ _ _).mono ?_; rintro e w' ⟨rfl, rfl⟩)
  go_ret
  exact ⟨rfl, ((Lays.refl _).alloc _).alloc _⟩
theorem eg_w_to1 : Enters 55 := enters_of Tryz.func55 (by kernel_rfl) rfl
theorem eg_w_to2 : Enters 56 := enters_of Tryz.func56 (by kernel_rfl) rfl
set_option maxRecDepth 100000 in
set_option maxHeartbeats 4000000 in
theorem w_TopO (lo : Nat) (A : Option Addr) (c : Nat) (l : List Tally) (h : Int) (m : Nat) (w : World) (hR : Rd w lo A 4 encTally l) (hl : l.length ≤ 400) (h20 : (ofHour h l).length < 20) (hm : m ≤ 400) (hf : talliesF l = 0) (hh : 0 ≤ h ∧ h ≤ 167) :
    Calls Tryz.prog 9 #[.slice A l.length c, .int .i64 h, .int .i64 (m : Int)] w fun e w' => ∃ (B : Option Addr) (d : Nat), e = .returned (.tuple #[.slice B (topL h m l).length d, .int .i64 0]) ∧ Rd w' w.heap.size B 2 encCell (topL h m l) ∧ Nx w w' := by
  obtain ⟨bh, hbh⟩ : ∃ bh, bh = w.heap.size := ⟨_, rfl⟩
  obtain ⟨w0, hw0⟩ : ∃ w0, w0 = w.alloc (.cells #[.int .i64 h] 3 (0, 0)) := ⟨_, rfl⟩
  have HB0 := hide (show w0.heap[bh]? = some (.cells #[.int .i64 h] 3 (0, 0)) by rw [hw0, hbh]; exact heap_alloc_new w _)
  have HN0 := hide (show Nx w w0 from hw0 ▸ (Nx.refl w).alloc _)
  have hb0 : bh < w0.heap.size := (Array.getElem?_eq_some_iff.1 HB0.out).1
  have HR := hide (fun W (hn : Nx w0 W) => (hR.nx HN0.out).nx hn)
  have HL := hide (show l.length = l.length from rfl)
  have H20 := hide h20
  have HCT := hide (fun W (hn : Nx w0 W) => (show Calls Tryz.prog 48 #[.slice A l.length c] W fun e w' => e = .returned (.int .i64 0) ∧ Nx W w' from by have h := w_CheckTallies lo A c l W (HR.out W hn) hl; rw [hf] at h; exact h))
  have ho1 : outB h 0 167 = false := outB_false.2 hh
  have ho2 : outB (m : Int) 0 400 = false := outB_false.2 (by omega)
  have HCL := hide (fun W (hn : Nx w0 W) => w_CloneT lo A c l W (HR.out W hn) (by omega))
  have HFL := hide (show l.length ≤ 400 from hl)
  obtain ⟨n, hn⟩ : ∃ n, n = l.length := ⟨_, rfl⟩
  rw [← hn] at HCL HCT ⊢
  have HN := hide hn
  clear hR h20 hn hl HL hf hh
  go_enter Tryz.func9, Tryz.ntmps9
  go_upto_region 1 with fail
  rw [← hw0, ← hbh]
  clear hw0 hbh
  have c0 : w0.cell? ⟨bh, 0, none⟩ = some (.int .i64 h) := cell_of_row w0 bh 0 _ _ _ HB0.out
  go_upto_region 6 with (first
    | (go_at_call 48; refine (HCT.out _ (Nx.refl _)).mono ?_; rintro e w1 ⟨rfl, hn1⟩; (have c1 := nx_cell hn1 hb0 c0))
    | (go_at_call 49; refine (w_Out _ _ _ _).mono ?_; rintro e w' ⟨rfl, rfl⟩; first | rw [ho1] | rw [ho2]))
  have HN1 := hide hn1
  clear hn1 HCT c0 c1
  go_wp2_with fail
  refine (HCL.out _ HN1.out).mono ?_
  rintro e w2 ⟨v, rfl, hown, hn2⟩
  have HN2 := hide (HN1.out.trans hn2)
  have HN12 := hide hn2
  have HOW := hide hown
  have hz1 := HN1.out.sz
  have HBX : Hid (∀ W, w2.grownBy W v.ownBlock → W.cell? ⟨bh, 0, none⟩ = some (.int .i64 h) ∧ bh < W.heap.size) := hide (fun W hg => by
    have hb2 : bh < w2.heap.size := Nat.lt_of_lt_of_le hb0 HN2.out.sz
    have c2 : w2.cell? ⟨bh, 0, none⟩ = some (.int .i64 h) := nx_cell HN2.out hb0 (cell_of_row w0 bh 0 _ _ _ HB0.out)
    exact ⟨World.grownBy.cell hg c2 (fun e => by have := (HOW.out.lt bh e.symm).1; omega), Nat.lt_of_lt_of_le hb2 hg.size⟩)
  have HDL := hide (w_DeleteV 52 (hourQ h) (.pointer (some ⟨bh, 0, none⟩)) eg_w_tp1 l w2 (by have := HFL.out; omega) (fun y W hg => w_tp1 y bh h W (HBX.out W hg).1 (HBX.out W hg).2) (HN.out ▸ HOW.out))
  clear hown hn2 HCL
  go_wp2_with fail
  refine HDL.out.mono ?_
  rintro e w3 ⟨v3, rfl, ho3, hk3⟩
  have HN3 := hide (hk3 w1 HN12.out (Nat.le_refl _))
  have HST := hide (w_SortTV 54 eg_w_tp2 w_tp2 (ofHour h l) H20.out ho3)
  clear ho3 hk3 HDL HBX HOW
  go_wp2_with fail
  refine HST.out.mono ?_
  rintro e w4 ⟨rfl, ho4, hk4⟩
  have HN4 := hide (hk4 w1 HN3.out (Nat.le_refl _))
  obtain ⟨S, hS⟩ : ∃ S, S = sortT (ofHour h l) := ⟨_, rfl⟩
  have hSl : (ofHour h l).length = S.length := by rw [hS, sortT_len]
  have hSm : S.length < 20 := by rw [← hSl]; exact H20.out
  have HTL := hide (show topL h m l = (S.take m).map (fun t => (⟨t.x, t.y⟩ : Cell)) by rw [hS]; rfl)
  rw [← hS, hSl] at ho4
  obtain ⟨TL, hTL⟩ : ∃ TL, TL = topL h m l := ⟨_, rfl⟩
  rw [← hTL] at HTL
  have HTLE := hide hTL.symm
  clear hTL
  clear hS hSl HST hk4
  have HWW := hide (HN0.out.trans (HN1.out.trans HN4.out))
  rcases ho4.2 with ⟨rfl, hs0⟩ | ⟨g, cap, cur, rfl, hbg, hgg, hnc, _⟩
  · have hS0 : S = [] := List.eq_nil_of_length_eq_zero hs0
    have hT0 : TL = [] := by rw [HTL.out, hS0]; simp
    rw [hT0] at HTLE
    clear ho4 hSm HTL hs0 hS0 hT0
    go_wp2_with fail
    refine wp_loop_rounds 1 ?_
    rw [rounds_succ]
    go_wp2_with fail
    go_ret2
    rw [HTLE.out]
    exact ⟨none, 0, rfl, Rd.nil, HWW.out⟩
  · obtain ⟨A9, c9, e9, hRS, _⟩ := Rd.of_own encTally_len rfl ho4
    obtain ⟨rfl, rfl⟩ : A9 = some ⟨g, 0, none⟩ ∧ c9 = cap := by injection e9 with e1 _ e3; exact ⟨e1.symm, e3.symm⟩
    have HRS := hide hRS
    obtain ⟨ns, hns⟩ : ∃ ns, ns = S.length := ⟨_, rfl⟩
    rw [← hns] at hnc hSm ⊢
    have HNS := hide hns
    obtain ⟨k, hk, hkm⟩ : ∃ k : Nat, (k : Int) = min (m : Int) (ns : Int) ∧ k = min m ns := ⟨min m ns, by omega, rfl⟩
    have hkn : k ≤ ns := by omega
    have HTK := hide (show TL = (S.take k).map (fun t => (⟨t.x, t.y⟩ : Cell)) by
      rw [HTL.out, hkm]
      congr 1
      rw [HNS.out]
      by_cases hmn : m ≤ S.length
      · rw [Nat.min_eq_left hmn]
      · rw [Nat.min_eq_right (by omega), List.take_of_length_le (by omega), List.take_of_length_le (Nat.le_refl _)])
    have HKM := hide hkm
    have hmi : (m : Int) ≤ (ns : Int) ∧ min (m : Int) (ns : Int) = (k : Int) ∨ (ns : Int) < (m : Int) ∧ min (m : Int) (ns : Int) = (k : Int) := by omega
    clear ho4 e9 hRS hns hgg hkm HTL hk
    go_wp2_with fail
    go_loopw [10, 37] (fun v i wr => ∃ j : Nat, j ≤ k ∧ i = .int .i64 (j : Int) ∧ wr.ownsRow w4.heap.size 39 2 v ((S.take j).map (fun t => (⟨t.x, t.y⟩ : Cell))).length (((S.take j).map (fun t => (⟨t.x, t.y⟩ : Cell))).flatMap encCell) ∧ Nx w4 wr) (fun _ i _ => k - (intOf i).toNat)
    case atStart => exact ⟨0, Nat.zero_le _, rfl, World.ownsRow_nil _ _ _ _, Nx.refl _⟩
    case round =>
      obtain ⟨j, hj, rfl, hown, hnr⟩ := hrel
      by_cases hlt : j < k
      · have hjl : j < S.length := by have := HNS.out; omega
        obtain ⟨b, off, eb, _, hb, hbr, hc⟩ := HRS.out.open_ hnr (by omega)
        injection eb with eb
        injection eb with eb1 eb2
        subst eb1
        subst eb2
        have c0 : wr.cell? ⟨g, j * 4, none⟩ = some (.int .i64 S[j].x) := by have h := hc j hjl 0 _ rfl; simpa using h
        have c1 : wr.cell? ⟨g, j * 4 + 1, none⟩ = some (.int .i64 S[j].y) := by have h := hc j hjl 1 _ rfl; simpa using h
        have c2 : wr.cell? ⟨g, j * 4 + 2, none⟩ = some (.int .i64 S[j].hour) := by have h := hc j hjl 2 _ rfl; simpa using h
        have c3 : wr.cell? ⟨g, j * 4 + 3, none⟩ = some (.int .i64 S[j].many) := by have h := hc j hjl 3 _ rfl; simpa using h
        have HT := hide (top_step hjl)
        have hlj : ((S.take j).map (fun t => (⟨t.x, t.y⟩ : Cell))).length = j := by rw [List.length_map, List.length_take]; omega
        have HO := hide hown
        have HNR := hide hnr
        have hwz := hnr.sz
        clear hc hown hnr
        generalize (S.take j).map (fun t => (⟨t.x, t.y⟩ : Cell)) = P at *
        generalize S[j].x = a0 at *
        generalize S[j].y = a1 at *
        generalize S[j].hour = a2 at *
        generalize S[j].many = a3 at *
        have i1 : (0 : Int) ≤ (j : Int) := by omega
        have i2 : (j : Int) < (k : Int) := by omega
        obtain ⟨AP, cp, ep, _, _⟩ := Rd.of_own encC_len rfl HO.out
        obtain rfl := ep
        have HLJ := hide hlj
        clear hlj
        go_wp2_with (at_builtin; go_must (refine wpApp rfl _ _ _ rfl el_CellT encCell encC_len encC_one (by omega) (by omega) w4.heap.size _ P rfl ((HO.out.alloc _).alloc _) _ ⟨a0, a1⟩ _ rfl (hnew (by simp)) rfl (by have := HLJ.out; omega) (by have := HLJ.out; simp; omega) ?_); intro v2 w6 hown6 hg6)
        have hnx6 := ((HNR.out.alloc _).alloc (.cells #[.int .i64 a0, .int .i64 a1] 39)).grown hg6 (fun m hm => by exact own_blk_lt HO.out m hm)
        go_roundw
        case rel => exact ⟨j + 1, by omega, by go_num, by rw [HT.out]; exact hown6, hnx6⟩
        case measure => simp [intOf]; omega
      · have ej : j = k := by omega
        subst ej
        obtain ⟨A1, d1, ev, hR1, _⟩ := Rd.of_own encC_len rfl hown
        obtain rfl := ev
        rw [← HTK.out] at hR1
        have hlT : ((S.take j).map (fun t => (⟨t.x, t.y⟩ : Cell))).length = TL.length := by rw [HTK.out]
        have HR1 := hide hR1
        have HNR := hide hnr
        rw [hlT]
        clear hown hR1 hnr hlT
        go_wp2_with fail
        go_ret2
        rw [HTLE.out]
        exact ⟨A1, d1, rfl, HR1.out.low HWW.out.sz, HWW.out.trans HNR.out⟩
set_option maxRecDepth 100000 in
set_option maxHeartbeats 4000000 in
theorem w_TopOf (lo : Nat) (A : Option Addr) (c : Nat) (l : List Tally) (h : Int) (m : Nat) (w : World) (hR : Rd w lo A 4 encTally l) (hl : l.length ≤ 400) (h20 : (ofHour h l).length < 20) (hm : m ≤ 400) :
    Calls Tryz.prog 14 #[.slice A l.length c, .int .i64 h, .int .i64 (m : Int)] w fun e w' => ∃ (B : Option Addr) (d : Nat), e = .returned (.slice B (topL h m l).length d) ∧ Rd w' w.heap.size B 2 encCell (topL h m l) ∧ Nx w w' := by
  obtain ⟨bh, hbh⟩ : ∃ bh, bh = w.heap.size := ⟨_, rfl⟩
  obtain ⟨w0, hw0⟩ : ∃ w0, w0 = w.alloc (.cells #[.int .i64 h] 3 (0, 0)) := ⟨_, rfl⟩
  have HB0 := hide (show w0.heap[bh]? = some (.cells #[.int .i64 h] 3 (0, 0)) by rw [hw0, hbh]; exact heap_alloc_new w _)
  have HN0 := hide (show Nx w w0 from hw0 ▸ (Nx.refl w).alloc _)
  have hb0 : bh < w0.heap.size := (Array.getElem?_eq_some_iff.1 HB0.out).1
  have HR := hide (fun W (hn : Nx w0 W) => (hR.nx HN0.out).nx hn)
  have HL := hide (show l.length = l.length from rfl)
  have H20 := hide h20
  have HCL := hide (fun W (hn : Nx w0 W) => w_CloneT lo A c l W (HR.out W hn) (by omega))
  have HFL := hide (show l.length ≤ 400 from hl)
  obtain ⟨n, hn⟩ : ∃ n, n = l.length := ⟨_, rfl⟩
  rw [← hn] at HCL ⊢
  have HN := hide hn
  clear hR h20 hn hl HL
  go_enter Tryz.func14, Tryz.ntmps14
  go_upto_region 1 with fail
  rw [← hw0, ← hbh]
  clear hw0 hbh
  obtain ⟨w1, hw1⟩ : ∃ w1, w1 = w0 := ⟨_, rfl⟩
  have HN1 := hide (show Nx w0 w1 from hw1 ▸ Nx.refl _)
  rw [← hw1]
  clear hw1
  go_wp2_with fail
  refine (HCL.out _ HN1.out).mono ?_
  rintro e w2 ⟨v, rfl, hown, hn2⟩
  have HN2 := hide (HN1.out.trans hn2)
  have HN12 := hide hn2
  have HOW := hide hown
  have hz1 := HN1.out.sz
  have HBX : Hid (∀ W, w2.grownBy W v.ownBlock → W.cell? ⟨bh, 0, none⟩ = some (.int .i64 h) ∧ bh < W.heap.size) := hide (fun W hg => by
    have hb2 : bh < w2.heap.size := Nat.lt_of_lt_of_le hb0 HN2.out.sz
    have c2 : w2.cell? ⟨bh, 0, none⟩ = some (.int .i64 h) := nx_cell HN2.out hb0 (cell_of_row w0 bh 0 _ _ _ HB0.out)
    exact ⟨World.grownBy.cell hg c2 (fun e => by have := (HOW.out.lt bh e.symm).1; omega), Nat.lt_of_lt_of_le hb2 hg.size⟩)
  have HDL := hide (w_DeleteV 55 (hourQ h) (.pointer (some ⟨bh, 0, none⟩)) eg_w_to1 l w2 (by have := HFL.out; omega) (fun y W hg => w_to1 y bh h W (HBX.out W hg).1 (HBX.out W hg).2) (HN.out ▸ HOW.out))
  clear hown hn2 HCL
  go_wp2_with fail
  refine HDL.out.mono ?_
  rintro e w3 ⟨v3, rfl, ho3, hk3⟩
  have HN3 := hide (hk3 w1 HN12.out (Nat.le_refl _))
  have HST := hide (w_SortTV 56 eg_w_to2 w_to2 (ofHour h l) H20.out ho3)
  clear ho3 hk3 HDL HBX HOW
  go_wp2_with fail
  refine HST.out.mono ?_
  rintro e w4 ⟨rfl, ho4, hk4⟩
  have HN4 := hide (hk4 w1 HN3.out (Nat.le_refl _))
  obtain ⟨S, hS⟩ : ∃ S, S = sortT (ofHour h l) := ⟨_, rfl⟩
  have hSl : (ofHour h l).length = S.length := by rw [hS, sortT_len]
  have hSm : S.length < 20 := by rw [← hSl]; exact H20.out
  have HTL := hide (show topL h m l = (S.take m).map (fun t => (⟨t.x, t.y⟩ : Cell)) by rw [hS]; rfl)
  rw [← hS, hSl] at ho4
  obtain ⟨TL, hTL⟩ : ∃ TL, TL = topL h m l := ⟨_, rfl⟩
  rw [← hTL] at HTL
  have HTLE := hide hTL.symm
  clear hTL
  clear hS hSl HST hk4
  have HWW := hide (HN0.out.trans (HN1.out.trans HN4.out))
  rcases ho4.2 with ⟨rfl, hs0⟩ | ⟨g, cap, cur, rfl, hbg, hgg, hnc, _⟩
  · have hS0 : S = [] := List.eq_nil_of_length_eq_zero hs0
    have hT0 : TL = [] := by rw [HTL.out, hS0]; simp
    rw [hT0] at HTLE
    clear ho4 hSm HTL hs0 hS0 hT0
    go_wp2_with fail
    refine wp_loop_rounds 1 ?_
    rw [rounds_succ]
    go_wp2_with fail
    go_ret
    rw [HTLE.out]
    exact ⟨none, 0, rfl, Rd.nil, HWW.out⟩
  · obtain ⟨A9, c9, e9, hRS, _⟩ := Rd.of_own encTally_len rfl ho4
    obtain ⟨rfl, rfl⟩ : A9 = some ⟨g, 0, none⟩ ∧ c9 = cap := by injection e9 with e1 _ e3; exact ⟨e1.symm, e3.symm⟩
    have HRS := hide hRS
    obtain ⟨ns, hns⟩ : ∃ ns, ns = S.length := ⟨_, rfl⟩
    rw [← hns] at hnc hSm ⊢
    have HNS := hide hns
    obtain ⟨k, hk, hkm⟩ : ∃ k : Nat, (k : Int) = min (m : Int) (ns : Int) ∧ k = min m ns := ⟨min m ns, by omega, rfl⟩
    have hkn : k ≤ ns := by omega
    have HTK := hide (show TL = (S.take k).map (fun t => (⟨t.x, t.y⟩ : Cell)) by
      rw [HTL.out, hkm]
      congr 1
      rw [HNS.out]
      by_cases hmn : m ≤ S.length
      · rw [Nat.min_eq_left hmn]
      · rw [Nat.min_eq_right (by omega), List.take_of_length_le (by omega), List.take_of_length_le (Nat.le_refl _)])
    have HKM := hide hkm
    have hmi : (m : Int) ≤ (ns : Int) ∧ min (m : Int) (ns : Int) = (k : Int) ∨ (ns : Int) < (m : Int) ∧ min (m : Int) (ns : Int) = (k : Int) := by omega
    clear ho4 e9 hRS hns hgg hkm HTL hk
    go_wp2_with fail
    go_loopw [8, 24] (fun v i wr => ∃ j : Nat, j ≤ k ∧ i = .int .i64 (j : Int) ∧ wr.ownsRow w4.heap.size 39 2 v ((S.take j).map (fun t => (⟨t.x, t.y⟩ : Cell))).length (((S.take j).map (fun t => (⟨t.x, t.y⟩ : Cell))).flatMap encCell) ∧ Nx w4 wr) (fun _ i _ => k - (intOf i).toNat)
    case atStart => exact ⟨0, Nat.zero_le _, rfl, World.ownsRow_nil _ _ _ _, Nx.refl _⟩
    case round =>
      obtain ⟨j, hj, rfl, hown, hnr⟩ := hrel
      by_cases hlt : j < k
      · have hjl : j < S.length := by have := HNS.out; omega
        obtain ⟨b, off, eb, _, hb, hbr, hc⟩ := HRS.out.open_ hnr (by omega)
        injection eb with eb
        injection eb with eb1 eb2
        subst eb1
        subst eb2
        have c0 : wr.cell? ⟨g, j * 4, none⟩ = some (.int .i64 S[j].x) := by have h := hc j hjl 0 _ rfl; simpa using h
        have c1 : wr.cell? ⟨g, j * 4 + 1, none⟩ = some (.int .i64 S[j].y) := by have h := hc j hjl 1 _ rfl; simpa using h
        have c2 : wr.cell? ⟨g, j * 4 + 2, none⟩ = some (.int .i64 S[j].hour) := by have h := hc j hjl 2 _ rfl; simpa using h
        have c3 : wr.cell? ⟨g, j * 4 + 3, none⟩ = some (.int .i64 S[j].many) := by have h := hc j hjl 3 _ rfl; simpa using h
        have HT := hide (top_step hjl)
        have hlj : ((S.take j).map (fun t => (⟨t.x, t.y⟩ : Cell))).length = j := by rw [List.length_map, List.length_take]; omega
        have HO := hide hown
        have HNR := hide hnr
        have hwz := hnr.sz
        clear hc hown hnr
        generalize (S.take j).map (fun t => (⟨t.x, t.y⟩ : Cell)) = P at *
        generalize S[j].x = a0 at *
        generalize S[j].y = a1 at *
        generalize S[j].hour = a2 at *
        generalize S[j].many = a3 at *
        have i1 : (0 : Int) ≤ (j : Int) := by omega
        have i2 : (j : Int) < (k : Int) := by omega
        obtain ⟨AP, cp, ep, _, _⟩ := Rd.of_own encC_len rfl HO.out
        obtain rfl := ep
        have HLJ := hide hlj
        clear hlj
        go_wp2_with (at_builtin; go_must (refine wpApp rfl _ _ _ rfl el_CellT encCell encC_len encC_one (by omega) (by omega) w4.heap.size _ P rfl ((HO.out.alloc _).alloc _) _ ⟨a0, a1⟩ _ rfl (hnew (by simp)) rfl (by have := HLJ.out; omega) (by have := HLJ.out; simp; omega) ?_); intro v2 w6 hown6 hg6)
        have hnx6 := ((HNR.out.alloc _).alloc (.cells #[.int .i64 a0, .int .i64 a1] 39)).grown hg6 (fun m hm => by exact own_blk_lt HO.out m hm)
        go_roundw
        case rel => exact ⟨j + 1, by omega, by go_num, by rw [HT.out]; exact hown6, hnx6⟩
        case measure => simp [intOf]; omega
      · have ej : j = k := by omega
        subst ej
        obtain ⟨A1, d1, ev, hR1, _⟩ := Rd.of_own encC_len rfl hown
        obtain rfl := ev
        rw [← HTK.out] at hR1
        have hlT : ((S.take j).map (fun t => (⟨t.x, t.y⟩ : Cell))).length = TL.length := by rw [HTK.out]
        have HR1 := hide hR1
        have HNR := hide hnr
        rw [hlT]
        clear hown hR1 hnr hlT
        go_wp2_with fail
        go_ret
        rw [HTLE.out]
        exact ⟨A1, d1, rfl, HR1.out.low HWW.out.sz, HWW.out.trans HNR.out⟩
end Go.Proofs.YthlhomcgjgfdhaaGreatDoor
