/- Two lists of events merged, by the reference. -/
import Derived.Test.YtfkmbeppckelfaaGreatDoorQG41
import Derived.Test.YtfkmbeppckelfaaGreatDoorQRfI
import Derived.Test.YtfkmbeppckelfaaGreatDoorQG43
import Derived.Test.YtfkmbeppckelfaaGreatDoorQG22
import Derived.Test.YtfkmbeppckelfaaGreatDoorQG10
import Derived.Test.YtfkmbeppckelfaaGreatDoorQG19
import Derived.Test.YtfkmbeppckelfaaGreatDoorQG38
import Derived.Lib.SliceRun
import Derived.Laws.IdiomCopy
import Derived.Deep.RegionHeld
namespace Go.Proofs.YtfkmbeppckelfaaGreatDoor
open Go.RowKit Go.Maps

theorem w_merged1 (s : ByteArray) (n : Int) (y : Ev) (q : Nat) (w : World) (h0 : w.cell? ⟨q, 0, none⟩ = some (.string s)) (h1 : w.cell? ⟨q, 1, none⟩ = some (.int .i64 n)) (hql : q < w.heap.size) :
    Calls Tryz.prog 51 #[.agg #[.string y.source, .int .i64 y.no, .int .i64 y.at_, .int .i64 y.kind, .string y.ride, .string y.car, .string y.node, .int .i64 y.up, .int .i64 y.down, .string y.from_, .int .i64 y.number], .pointer (some ⟨q, 0, none⟩)] w fun e w' => e = .returned (.bool (nmB s n y)) ∧ Nx w w' := by
  obtain ⟨w1, hw1⟩ : ∃ w1, w1 = w.alloc (.cells #[.string y.source, .int .i64 y.no, .int .i64 y.at_, .int .i64 y.kind, .string y.ride, .string y.car, .string y.node, .int .i64 y.up, .int .i64 y.down, .string y.from_, .int .i64 y.number] 31 (0, 0)) := ⟨_, rfl⟩
  have hn1 : Nx w w1 := hw1 ▸ (Nx.refl w).alloc _
  have hb1 : w1.heap[w.heap.size]? = some (.cells #[.string y.source, .int .i64 y.no, .int .i64 y.at_, .int .i64 y.kind, .string y.ride, .string y.car, .string y.node, .int .i64 y.up, .int .i64 y.down, .string y.from_, .int .i64 y.number] 31 (0, 0)) := by rw [hw1]; exact heap_alloc_new w _
  have a0 : w1.cell? ⟨w.heap.size, 0, none⟩ = some (.string y.source) := cell_of_row w1 _ 0 _ _ _ hb1
  have a1 : w1.cell? ⟨w.heap.size, 1, none⟩ = some (.int .i64 y.no) := cell_of_row w1 _ 1 _ _ _ hb1
  have b9 := nx_cell hn1 hql h0
  have b10 := nx_cell hn1 hql h1
  have te : (y.source.toList == s.toList) = decide (y.source = s) := eqS_iff _ _
  have HN1 := hide hn1
  have hnm := hide (show nmB s n y = (decide (y.source = s) && decide (y.no = n)) from rfl)
  generalize nmB s n y = r at *
  have tn : (y.no == n) = decide (y.no = n) := rfl
  generalize decide (y.source = s) = e1 at *
  generalize decide (y.no = n) = e2 at *
  clear h0 h1 hb1 hn1
  go_enter Tryz.func51, Tryz.ntmps51
  go_upto_region 1 with fail
  rw [← hw1]
  clear hw1
  cases e1 <;> cases e2
  all_goals
    go_wp2_with fail
    go_ret
    exact ⟨by rw [hnm.out] <;> rfl, HN1.out⟩
theorem enters_merged : Enters 51 := enters_of Tryz.func51 (by kernel_rfl) rfl
/-- Where the list so far has an event of this name. -/
theorem mrg_tgt {a b : List Ev} (hb : NamesD b) {j : Nat} (hj : j < b.length) : tgtI (mrgL a (b.take j)) b[j].source b[j].no = match inA a b[j] with | some i => (i : Int) | none => -1 := by
  rw [tgtI_eq]
  have e : tgtF (mrgL a (b.take j)) b[j].source b[j].no = inA a b[j] := by
    unfold mrgL
    refine idx_append (fun y hy => ?_)
    obtain ⟨i, hi, rfl⟩ := List.mem_iff_getElem.1 (List.mem_filter.1 hy).1
    rw [List.length_take] at hi
    rw [List.getElem_take]
    exact List.pairwise_iff_getElem.1 hb i j (by omega) hj (by omega)
  rw [e]
  cases inA a b[j] <;> rfl
def MergedEnd (a b : List Ev) (w : World) (e : Ending) (w' : World) : Prop :=
  (∃ (B : Option Addr) (m cb : Nat), e = .returned (.tuple #[.slice B m cb, .int .i64 (mrgF1 a b)]) ∧ (mrgF1 a b ≠ 0 → m = 0) ∧ (mrgF1 a b = 0 → m = (mrgS a b).length ∧ Rd w' w.heap.size B 11 encEvt (mrgS a b))) ∧ Nx w w'
theorem ok_mrg2 {a b : List Ev} (hoa : ∀ x ∈ a, okEv x) (hob : ∀ x ∈ b, okEv x) : ∀ x ∈ mrgS a b, okEv x := by
  intro x hx
  rcases List.mem_append.1 ((mrgS_sorted a b).1.mem_iff.1 hx) with h | h
  · exact hoa x h
  · exact hob x (List.mem_filter.1 h).1
theorem mrgL_get {a b : List Ev} {i : Nat} {y : Ev} (h : a[i]? = some y) : (mrgL a b)[i]? = some y := by
  unfold mrgL
  rw [List.getElem?_append_left (List.getElem?_eq_some_iff.1 h).1]; exact h
set_option maxRecDepth 100000 in
set_option maxHeartbeats 8000000 in
theorem w_EventsMerged (lo : Nat) (A B : Option Addr) (c d : Nat) (a b : List Ev) (w : World) (hA : Rd w lo A 11 encEvt a) (hB : Rd w lo B 11 encEvt b) (hla : a.length ≤ 25) (hlb : b.length ≤ 25) (hoa : ∀ x ∈ a, okEv x) (hob : ∀ x ∈ b, okEv x) (hra : evsF a = 0) (hrb : evsF b = 0) :
    Calls Tryz.prog 22 #[.slice A a.length c, .slice B b.length d] w (MergedEnd a b w) := by
  have HCL := hide (w_CloneEv lo A c a w hA (by omega))
  have HOKM := hide (ok_mrg2 hoa hob)
  have HLM := hide (mrgL_len a b)
  unfold MergedEnd
  obtain ⟨F, hF⟩ : ∃ F, F = mrgF1 a b := ⟨_, rfl⟩
  rw [← hF]
  have HF3 := hide hF
  have HE1 := hide hra
  have HND := hide (names_right hrb)
  have HA := hide hA
  have HB := hide hB
  have HOA := hide hoa
  have HOB := hide hob
  obtain ⟨n, hn⟩ : ∃ n, n = a.length := ⟨_, rfl⟩
  obtain ⟨m, hm⟩ : ∃ m, m = b.length := ⟨_, rfl⟩
  rw [← hn] at HCL hla ⊢
  rw [← hm] at hlb ⊢
  have HNN := hide hn
  have HMM := hide hm
  clear hA hB hoa hob hF hn hm hra hrb
  go_enter Tryz.func22, Tryz.ntmps22
  go_wp2_with fail
  refine HCL.out.mono ?_
  rintro e w5 ⟨v5, rfl, hown5, hn5⟩
  have HN5 := hide hn5
  have HO5 := hide hown5
  clear hown5 hn5 HCL
  go_wp2_with fail
  go_loopw [6, 15] (fun v i wr => ∃ j : Nat, j ≤ m ∧ i = .int .i64 j ∧ wr.ownsRow w.heap.size 31 11 v (mrgL a (b.take j)).length ((mrgL a (b.take j)).flatMap encEvt) ∧ (b.take j).any (clash a) = false ∧ Nx w wr) (fun _ i _ => m - (intOf i).toNat)
  case atStart =>
    refine ⟨0, Nat.zero_le _, rfl, ?_, rfl, HN5.out⟩
    have e0 : mrgL a (b.take 0) = a := by simp [mrgL]
    rw [e0, ← HNN.out]; exact HO5.out
  case round =>
    obtain ⟨j, hj, rfl, hown, hcl, hnx⟩ := hrel
    have HOW := hide hown
    have HNX := hide hnx
    have HCL := hide hcl
    have hwr := hnx.sz
    obtain ⟨A9, c9, e9, hcap9, hR9, _⟩ := own_rd encEvt_len hown
    clear hown hcl
    by_cases hlt : j < m
    · have hlt' : j < b.length := by have := HMM.out; omega
      obtain ⟨b1, off, rfl, _, hb, hbr, hc⟩ := HB.out.open_ hnx (by have := HMM.out; omega)
      obtain ⟨c0, c1, c2, c3, c4, c5, c6, c7, c8, c9', c10⟩ := ev_cells (hc j hlt')
      have hx := HOB.out b[j] (List.getElem_mem hlt')
      have HT := hide (mrg_take a b j hlt')
      have HCT := hide (clash_take a b j hlt')
      have HCA := hide (clash_at a b j hlt')
      have HLL := hide (show (mrgL a (b.take j)).length ≤ 50 by have := mrgL_len a (b.take j); have := List.length_take_le j b; have := HNN.out; have := HMM.out; omega)
      have htg := mrg_tgt (a := a) HND.out hlt'
      have hnw : newIn a b[j] = (inA a b[j]).isNone := rfl
      have hcd : clash a b[j] = match inA a b[j] with | none => false | some i => decide (a[i]? ≠ some b[j]) := rfl
      have hin : ∀ i, inA a b[j] = some i → ∃ y, a[i]? = some y ∧ (mrgL a (b.take j))[i]? = some y := fun i h => by
        obtain ⟨y, hy, _⟩ := inA_some h; exact ⟨y, hy, mrgL_get hy⟩
      clear hc hnx
      obtain ⟨wb, hwb⟩ : ∃ wb, wb = wr.alloc (.cells (evA b[j]) 31 (0, 0)) := ⟨_, rfl⟩
      obtain ⟨bx, hbx⟩ : ∃ bx, bx = wr.heap.size := ⟨_, rfl⟩
      have hnb : Nx wr wb := hwb ▸ (Nx.refl wr).alloc _
      have hbb : wb.heap[bx]? = some (.cells (evA b[j]) 31 (0, 0)) := by rw [hwb, hbx]; exact heap_alloc_new wr _
      have hbl := (Array.getElem?_eq_some_iff.1 hbb).1
      have k0 : wb.cell? ⟨bx, 0, none⟩ = some (.string b[j].source) := cell_of_row wb _ 0 _ _ _ hbb
      have k1 : wb.cell? ⟨bx, 1, none⟩ = some (.int .i64 b[j].no) := cell_of_row wb _ 1 _ _ _ hbb
      have hix := w_IndexFE1 51 (nmB b[j].source b[j].no) (.pointer (some ⟨bx, 0, none⟩)) enters_merged w.heap.size A9 c9 (mrgL a (b.take j)) wb (fun x W _ hn => w_merged1 b[j].source b[j].no x bx W (nx_cell hn hbl k0) (nx_cell hn hbl k1) (Nat.lt_of_lt_of_le hbl hn.sz)) (hR9.nx hnb) (by have := HLL.out; omega)
      rw [show idxE (nmB b[j].source b[j].no) (mrgL a (b.take j)) 0 = tgtI (mrgL a (b.take j)) b[j].source b[j].no from rfl, htg] at hix
      have HIX := hide hix
      have HNB := hide (HNX.out.trans hnb)
      have HOB2 := hide (own_nx HOW.out hnb)
      have HR9 := hide (hR9.nx hnb)
      have hzb := hnb.sz
      clear htg k0 k1 hix hnb hR9
      generalize newIn a b[j] = nw at *
      generalize clash a b[j] = cl at *
      generalize inA a b[j] = q at *
      generalize mrgL a (b.take j) = L at *
      generalize b[j] = x at *
      have HX := hide hx
      clear hx
      obtain ⟨so, no, at_, ki, ri, ca, nd, up, dn, fo, nu⟩ := x
      unfold evA at hwb hbb
      simp only at c0 c1 c2 c3 c4 c5 c6 c7 c8 c9' c10 hwb hbb
      obtain ⟨ll, hll⟩ : ∃ ll, ll = L.length := ⟨_, rfl⟩
      rw [← hll] at e9 HIX
      have HLLn := hide hll
      subst e9
      have HBB := hide hbb
      have q1 : (0 : Int) ≤ (j : Int) := by omega
      have q2 : (j : Int) < (m : Int) := by omega
      clear hll hbb
      go_upto_region 5 with fail
      rw [← hwb, ← hbx]
      clear hwb hbx c0 c1 c2 c3 c4 c5 c6 c7 c8 c9' c10
      cases q with
      | none =>
        have HT2 := hide (HT.out.trans (if_pos (by rw [hnw]; rfl)))
        have HCT2 := hide (HCT.out.trans (by rw [HCL.out, hcd] <;> rfl))
        clear hnw hcd hin HT HCT
        go_upto_region 7 with (go_at_call 50; refine HIX.out.mono ?_; rintro e w6 ⟨rfl, hn6⟩; (have HN6 := hide hn6); clear hn6)
        have hb6 := (HN6.out.block _ hbl).trans HBB.out
        obtain ⟨d0, d1, d2, d3, d4, d5, d6, d7, d8, d9, d10⟩ := evb_cells hb6
        have hbl6 := (Array.getElem?_eq_some_iff.1 hb6).1
        have HO6 := hide (own_nx HOB2.out HN6.out)
        rw [HLLn.out.symm] at HO6
        have hz6 := HN6.out.sz
        have hll50 : ll ≤ 50 := by have := HLL.out; have := HLLn.out; omega
        clear hb6
        go_wp2_with (at_builtin; refine wpApp rfl _ _ _ rfl el_Evt encEvt encEvt_len encEvt_one (by omega) (by omega) w.heap.size _ L rfl (by rw [← HLLn.out]; exact own_nx HO6.out ((Nx.refl w6).alloc _)) _ ⟨so, no, at_, ki, ri, ca, nd, up, dn, fo, nu⟩ _ rfl (hnew (by simp)) rfl (by rw [← HLLn.out]; omega) (by simp; omega) ?_; intro v8 w8 hown8 hg8; (have HO8 := hide hown8); (have HG8 := hide hg8); clear hown8 hg8)
        go_roundw
        case rel =>
          refine ⟨j + 1, by omega, by go_num, by rw [HT2.out]; exact HO8.out, HCT2.out, ((HNB.out.trans HN6.out).alloc _).grown HG8.out (fun p hp => own_blk_lt HO6.out p hp)⟩
        case measure => simp [intOf]; omega
      | some i =>
        obtain ⟨y, hy, hyL⟩ := hin i rfl
        obtain ⟨hil, ey⟩ := List.getElem?_eq_some_iff.1 hyL
        have HT2 := hide (HT.out.trans (if_neg (by rw [hnw]; simp)))
        have hcd2 : cl = decide (y ≠ ⟨so, no, at_, ki, ri, ca, nd, up, dn, fo, nu⟩) := by rw [hcd]; simp only [hy]; congr 1; simp
        have hin' : i < ll := by rw [HLLn.out]; exact hil
        clear hnw hcd hin HT
        go_upto_region 8 with (go_at_call 50; refine HIX.out.mono ?_; rintro e w6 ⟨rfl, hn6⟩; (have HN6 := hide hn6); clear hn6)
        have hb6 := (HN6.out.block _ hbl).trans HBB.out
        obtain ⟨k0, k1, k2, k3, k4, k5, k6, k7, k8, k9, k10⟩ := evb_cells hb6
        have hbl6 := (Array.getElem?_eq_some_iff.1 hb6).1
        obtain ⟨b2, off2, eb2, _, hb2, hbr2, hc2⟩ := HR9.out.open_ HN6.out (by rw [← HLLn.out]; omega)
        obtain ⟨d0, d1, d2, d3, d4, d5, d6, d7, d8, d9, d10⟩ := ev_cells (hc2 i hil)
        rw [ey] at d0 d1 d2 d3 d4 d5 d6 d7 d8 d9 d10
        clear hc2 hy ey hyL hb6
        obtain ⟨dd, hdd⟩ : ∃ dd, dd = decide (y = ⟨so, no, at_, ki, ri, ca, nd, up, dn, fo, nu⟩) := ⟨_, rfl⟩
        have hcd3 : cl = !dd := by rw [hcd2, hdd]; simp
        obtain ⟨yso, yno, yat, yki, yri, yca, ynd, yup, ydn, yfo, ynu⟩ := y
        simp only at d0 d1 d2 d3 d4 d5 d6 d7 d8 d9 d10
        have q3 : (0 : Int) ≤ (i : Int) := by omega
        have q4 : (i : Int) < (ll : Int) := by omega
        have HCD := hide hcd3
        have hne : ∀ W, (binOp .neq 31 (.agg #[.string yso, .int .i64 yno, .int .i64 yat, .int .i64 yki, .string yri, .string yca, .string ynd, .int .i64 yup, .int .i64 ydn, .string yfo, .int .i64 ynu]) (.agg #[.string so, .int .i64 no, .int .i64 at_, .int .i64 ki, .string ri, .string ca, .string nd, .int .i64 up, .int .i64 dn, .string fo, .int .i64 nu])).run Tryz.prog W = .ok (.bool (!dd)) W := fun W => by rw [neq_Ev, ← hdd]
        subst eb2
        clear hcd2 hcd3 hdd hil
        go_quiet (fail)
        cases dd
        · have HB2 := hide (HCA.out (by rw [HCD.out]; rfl))
          have HF4 := hide (show F = 13 by rw [HF3.out]; unfold mrgF1; rw [if_pos HB2.out])
          clear HCA
          go_wp2_with fail
          go_ret2
          exact ⟨⟨_, _, _, by rw [HF4.out] <;> rfl, fun _ => rfl, fun h => by rw [HF4.out] at h; cases h⟩, (HNB.out.trans HN6.out).drewN _⟩
        · have HCT2 := hide (HCT.out.trans (by rw [HCL.out, HCD.out] <;> rfl))
          clear HCA HCT
          go_wp2_with fail
          go_roundw
          case rel =>
            exact ⟨j + 1, by omega, by go_num, by rw [HT2.out]; exact own_nx HOB2.out (HN6.out.drewN _), HCT2.out, (HNB.out.trans HN6.out).drewN _⟩
          case measure => simp [intOf]; omega
    · obtain rfl : j = m := by omega
      have ht : b.take j = b := List.take_of_length_le (by have := HMM.out; omega)
      rw [ht] at HOW HCL
      have hsu : ∀ S, SortedE (mrgL a b) S → S = mrgS a b := fun S hS => sorted_uniq (names_mrg HE1.out HND.out) hS (mrgS_sorted a b)
      have HSU := hide hsu
      have HF5 := hide (show F = evsF (mrgS a b) by rw [HF3.out]; unfold mrgF1; rw [if_neg (by unfold mrgB; rw [HCL.out]; decide)])
      have hll : (mrgL a b).length ≤ 50 := by have := HLM.out; have := HNN.out; have := HMM.out; omega
      have HSO := hide (w_SortEvR wr rfl (by omega) HOW.out)
      clear hsu hnx e9 hcap9 hR9
      go_upto_region 12 with (go_at_call 48; refine HSO.out.mono ?_; rintro e w6 ⟨rfl, ys, hs, ho, hg6⟩; (have HS := hide hs); (have HO := hide ho); (have HG6 := hide hg6); clear hs ho hg6)
      have hys := HSU.out ys HS.out
      have hyl : ys.length = (mrgL a b).length := HS.out.1.length_eq
      have ho := HO.out
      rw [← hyl] at ho
      obtain ⟨A9, c9, e9, hR9, _⟩ := Rd.of_own encEvt_len rfl ho
      have HN6 := hide (HNX.out.grown HG6.out (fun p hp => own_blk_lt HOW.out p hp))
      have hky := HOKM.out
      rw [← hys] at hky
      rw [← hys] at HF5
      have HCE := hide (w_EventsFaultR _ A9 c9 ys w6 hR9 (by omega) hky)
      have HR9 := hide hR9
      have HYS := hide hys
      clear hys hky ho hR9 hyl
      obtain ⟨f9, hf9⟩ : ∃ f9, f9 = evsF ys := ⟨_, rfl⟩
      rw [← hf9] at HCE HF5
      obtain ⟨yl, hyl⟩ : ∃ yl, yl = ys.length := ⟨_, rfl⟩
      rw [← hyl] at HCE e9
      have HYL := hide hyl
      have hF5 := HF5.out
      subst hF5
      subst e9
      clear hf9 hyl HF5
      go_wp2_with fail
      refine HCE.out.mono ?_
      rintro e w7 ⟨rfl, hn7⟩
      have HN7 := hide hn7
      clear hn7
      have hq : F = 0 ∨ (F != 0) = true := by simp; omega
      rcases hq with rfl | hq
      · go_wp2_with fail
        go_ret2
        exact ⟨⟨_, _, ⟨_, rfl⟩, by rw [← HYS.out]; exact HYL.out, by rw [← HYS.out]; exact HR9.out.nx HN7.out⟩, HN6.out.trans HN7.out⟩
      · have HQ := hide (show F ≠ 0 by simpa using hq)
        go_wp2_with fail
        go_ret2
        exact ⟨⟨_, _, _, rfl, fun _ => rfl, fun h => absurd h HQ.out⟩, HN6.out.trans HN7.out⟩
end Go.Proofs.YtfkmbeppckelfaaGreatDoor
/- Events as keys of a map. -/
namespace Go.Proofs.YtfkmbeppckelfaaGreatDoor
open Go.RowKit Go.Maps

theorem law_evt : Keyed Tryz.prog 31 := Keyed.of_law (deep_law_laid laidOut (m := 5) (by omega) (k := 31) (by rw [tySize]; decide) (by kernel_rfl) (by kernel_rfl))
theorem kt_evt : Tryz.prog.keyType 31 = true := by kernel_rfl
theorem cells_evt : Tryz.prog.cellsOf 31 = 11 := by kernel_rfl
def domEv (x : Ev) : Prop := okEv x
def ekEv (x : Ev) : Value := .agg (evA x)
theorem ekEv_inj (a b : Ev) (h : ekEv a = ekEv b) : a = b := by
  cases a; cases b; simp [ekEv, evA] at h; simp [h]
theorem lits_evt (d : Nat) (x : Ev) (h : domEv x) : Tryz.prog.keyLits (d + 2) 31 (encEvt x) = some [.string x.source.data.toList, .int .i64 x.no, .int .i64 x.at_, .int .i64 x.kind, .string x.ride.data.toList, .string x.car.data.toList, .string x.node.data.toList, .int .i64 x.up, .int .i64 x.down, .string x.from_.data.toList, .int .i64 x.number] := by
  have s0 := domS_1000 h.source
  have s1 := domS_1000 h.ride
  have s2 := domS_1000 h.car
  have s3 := domS_1000 h.node
  have s4 := domS_1000 h.from_
  have i0 := wf_15 h.no
  have i1 := wf_15 h.at_
  have i2 := wf_15 h.kind
  have i3 := wf_15 h.up
  have i4 := wf_15 h.down
  have i5 := wf_15 h.number
  unfold domS at s0 s1 s2 s3 s4
  unfold Program.keyLits; rw [Tryz.underlying31]; simp [encEvt, cells_evt, cells_str, cells_int, lits_str _ _ s0, lits_str _ _ s1, lits_str _ _ s2, lits_str _ _ s3, lits_str _ _ s4, lits_int _ _ i0, lits_int _ _ i1, lits_int _ _ i2, lits_int _ _ i3, lits_int _ _ i4, lits_int _ _ i5]
theorem key_evt (x : Ev) (h : domEv x) : ∃ l, keyOf Tryz.prog 31 (ekEv x) = some l := by
  refine ⟨.string (keyBytes [.string x.source.data.toList, .int .i64 x.no, .int .i64 x.at_, .int .i64 x.kind, .string x.ride.data.toList, .string x.car.data.toList, .string x.node.data.toList, .int .i64 x.up, .int .i64 x.down, .string x.from_.data.toList, .int .i64 x.number]), ?_⟩
  unfold keyOf ekEv evA
  rw [Tryz.underlying31, kt_evt, tySize]
  have e := lits_evt 307 x h
  unfold encEvt at e
  simp [Value.formed, Tryz.underlying31, cells_evt, Value.cells, e]
abbrev MpEB (w : World) (b n : Nat) (f : Ev → Option Bool) : Prop := MgI Tryz.prog 31 ekEv domEv (plainElem Tryz.prog 4) (fun z : Bool => (.lit (.bool z) : DataW Unit)) w b n f
theorem zeroBoolEv (w : World) : (zeroValue 4).run Tryz.prog w = .ok (.bool false) w := by kernel_rfl
/-- Which events there are, of the first k. -/
def evSet (l : List Ev) (k : Nat) : Ev → Option Bool := fun x => if x ∈ l.take k then some true else none
theorem evSet_zero (l : List Ev) : evSet l 0 = fun _ => none := by funext x; simp [evSet]
theorem evSet_succ (l : List Ev) (k : Nat) (h : k < l.length) : evSet l (k + 1) = fun q => if q = l[k] then some true else evSet l k q := by
  funext q
  unfold evSet
  rw [List.take_add_one, List.getElem?_eq_getElem h, Option.toList_some]
  by_cases e : q = l[k]
  · rw [if_pos e, if_pos (List.mem_append_right _ (by rw [e]; exact List.mem_singleton.2 rfl))]
  · rw [if_neg e]
    by_cases e2 : q ∈ l.take k
    · rw [if_pos e2, if_pos (List.mem_append_left _ e2)]
    · rw [if_neg e2, if_neg (fun hm => (List.mem_append.1 hm).elim e2 (fun h => e (List.mem_singleton.1 h)))]
theorem evSet_get (l : List Ev) (x : Ev) : (evSet l l.length x).getD false = decide (x ∈ l) := by
  unfold evSet
  rw [List.take_length]
  by_cases h : x ∈ l <;> simp [h]
end Go.Proofs.YtfkmbeppckelfaaGreatDoor
/- What one list of events lacks of another, by the program. -/
namespace Go.Proofs.YtfkmbeppckelfaaGreatDoor
open Go.RowKit Go.Maps

theorem lacks_take (a b : List Ev) (k : Nat) (h : k < b.length) : lacksL a (b.take (k + 1)) = if b[k] ∈ a then lacksL a (b.take k) else lacksL a (b.take k) ++ [b[k]] := by
  unfold lacksL
  rw [List.take_add_one, List.getElem?_eq_getElem h, Option.toList_some, List.filter_append]
  by_cases hm : b[k] ∈ a
  · rw [if_pos hm, List.filter_cons_of_neg (by simpa using hm), List.filter_nil, List.append_nil]
  · rw [if_neg hm, List.filter_cons_of_pos (by simpa using hm), List.filter_nil]
def LacksEnd (a b : List Ev) (w : World) (e : Ending) (w' : World) : Prop :=
  (∃ (B : Option Addr) (m cb : Nat), e = .returned (.tuple #[.slice B m cb, .int .i64 (twoF a b)]) ∧ (twoF a b ≠ 0 → m = 0) ∧ (twoF a b = 0 → m = (lacksL a b).length ∧ Rd w' w.heap.size B 11 encEvt (lacksL a b))) ∧ Nx w w'
theorem lacksL_len (a b : List Ev) : (lacksL a b).length ≤ b.length := List.length_filter_le _ _
set_option maxRecDepth 100000 in
set_option maxHeartbeats 4000000 in
theorem w_Lacks (lo : Nat) (A B : Option Addr) (c d : Nat) (a b : List Ev) (w : World) (hA : Rd w lo A 11 encEvt a) (hB : Rd w lo B 11 encEvt b) (hla : a.length ≤ 50) (hlb : b.length ≤ 50) (hoa : ∀ x ∈ a, okEv x) (hob : ∀ x ∈ b, okEv x) :
    Calls Tryz.prog 20 #[.slice A a.length c, .slice B b.length d] w (LacksEnd a b w) := by
  have hmm := @run_makeMap Tryz.prog
  have HC1 := hide (w_CheckEvents lo A c a w hA hla hoa)
  have HC2 := hide (fun W (hn : Nx w W) => w_CheckEvents lo B d b W (hB.nx hn) hlb hob)
  unfold LacksEnd
  obtain ⟨f, hf⟩ : ∃ f, f = twoF a b := ⟨_, rfl⟩
  rw [← hf]
  unfold twoF at hf
  have HF := hide hf
  generalize evsF a = f1 at *
  generalize evsF b = f2 at *
  have HA := hide hA
  have HB := hide hB
  have HOA := hide hoa
  have HOB := hide hob
  obtain ⟨n, hn⟩ : ∃ n, n = a.length := ⟨_, rfl⟩
  obtain ⟨m, hm⟩ : ∃ m, m = b.length := ⟨_, rfl⟩
  rw [← hn] at HC1 hla ⊢
  rw [← hm] at HC2 hlb ⊢
  have HNN := hide hn
  have HMM := hide hm
  clear hA hB hoa hob hf hn hm
  go_enter Tryz.func20, Tryz.ntmps20
  go_wp2_with fail
  refine HC1.out.mono ?_
  rintro e w1 ⟨rfl, hn1⟩
  have HC3 := hide (HC2.out w1 hn1)
  have HN1 := hide hn1
  clear hn1
  go_wp2_with fail
  refine HC3.out.mono ?_
  rintro e w2 ⟨rfl, hn2⟩
  have HN2 := hide (HN1.out.trans hn2)
  clear hn2
  go_wp2_with fail
  refine (w_First2 f1 f2 w2.heap.size 2 _ (hnew rfl)).mono ?_
  rintro e w3 ⟨rfl, hw3⟩
  rw [← HF.out]
  have HN3 := hide (show Nx w w3 from hw3 ▸ HN2.out.alloc _)
  clear hw3 HC1 HC2 HC3
  have hq : f = 0 ∨ (f != 0) = true := by simp; omega
  rcases hq with rfl | hq
  · go_upto_region 6 with fail
    clear hmm
    obtain ⟨g, hg⟩ : ∃ g, g = w3.heap.size := ⟨_, rfl⟩
    have HM0 : Hid (MpEB (w3.alloc (.map #[] 0)) w3.heap.size 0 (evSet a 0)) := hide (by rw [evSet_zero]; exact MgI.made w3)
    rw [← hg] at HM0 ⊢
    have hgw : w.heap.size ≤ g := by have := HN3.out.sz; omega
    have HG := hide hg
    clear hg
    go_loopw [25] (fun i wr => ∃ k : Nat, k ≤ n ∧ i = .int .i64 k ∧ Nx w wr ∧ MpEB wr g k (evSet a k)) (fun i _ => n - (intOf i).toNat)
    case atStart => exact ⟨0, Nat.zero_le _, rfl, HN3.out.alloc _, HM0.out⟩
    case round =>
      clear HM0
      obtain ⟨k, hk, rfl, hnx, hM⟩ := hrel
      by_cases hlt : k < n
      · have hlt' : k < a.length := by have := HNN.out; omega
        obtain ⟨b1, off, rfl, _, hb, hbr, hc⟩ := HA.out.open_ hnx (by have := HNN.out; omega)
        obtain ⟨c0, c1, c2, c3, c4, c5, c6, c7, c8, c9, c10⟩ := ev_cells (hc k hlt')
        have hx := HOA.out a[k] (List.getElem_mem hlt')
        have HSX := hide (evSet_succ a k hlt')
        clear hc
        generalize a[k] = x at *
        obtain ⟨kl, hkey⟩ := key_evt x hx
        have HM := hide hM
        have HNX := hide hnx
        have HX := hide hx
        have hml := hM.lt
        clear hM hx hnx
        obtain ⟨so, no, at_, ki, ri, ca, nd, up, dn, fo, nu⟩ := x
        simp only at c0 c1 c2 c3 c4 c5 c6 c7 c8 c9 c10
        have q1 : (0 : Int) ≤ (k : Int) := by omega
        have q2 : (k : Int) < (n : Int) := by omega
        go_wp2_with (at_mapUpdate; refine wpMgPut _ rfl _ _ _ _ rfl boolE law_evt ekEv_inj Tryz.underlying85 g k _ rfl (HM.out.nx ((Nx.refl _).alloc _)) (by unfold maxLen; omega) ⟨so, no, at_, ki, ri, ca, nd, up, dn, fo, nu⟩ rfl HX.out _ hkey true rfl trivial ?_; intro w5 hM5 hg5)
        go_roundw
        case rel =>
          refine ⟨k + 1, by omega, by go_num, (HNX.out.alloc _).grown hg5 (fun j hj => by injection hj with hj; omega), ?_⟩
          rw [HSX.out]; exact hM5
        case measure => simp [intOf]; omega
      · obtain rfl : k = n := by omega
        have HM := hide hM
        have HNX := hide hnx
        have HGW := hide hgw
        have hml := hM.lt
        clear hM hnx
        go_upto_region 12 with fail
        obtain ⟨wz, hwz⟩ : ∃ wz, wz = wr := ⟨_, rfl⟩
        rw [← hwz] at HM HNX hml ⊢
        clear hwz
        go_loopw [10, 34] (fun v i wr => ∃ j : Nat, j ≤ m ∧ i = .int .i64 j ∧ wr.ownsRow wz.heap.size 31 11 v (lacksL a (b.take j)).length ((lacksL a (b.take j)).flatMap encEvt) ∧ Nx wz wr) (fun _ i _ => m - (intOf i).toNat)
        case atStart => exact ⟨0, Nat.zero_le _, rfl, World.ownsRow_nil _ _ _ _, Nx.refl _⟩
        case round =>
          obtain ⟨j, hj, rfl, hown, hnx⟩ := hrel
          have HOW := hide hown
          have HNY := hide hnx
          clear hown
          by_cases hlt2 : j < m
          · have hlt' : j < b.length := by have := HMM.out; omega
            obtain ⟨b1, off, rfl, _, hb, hbr, hc⟩ := HB.out.open_ (HNX.out.trans hnx) (by have := HMM.out; omega)
            obtain ⟨c0, c1, c2, c3, c4, c5, c6, c7, c8, c9, c10⟩ := ev_cells (hc j hlt')
            have hx := HOB.out b[j] (List.getElem_mem hlt')
            have HLT := hide (lacks_take a b j hlt')
            have hget := evSet_get a b[j]
            have HLN := hide (show (lacksL a (b.take j)).length ≤ 50 by have := lacksL_len a (b.take j); have := List.length_take_le j b; omega)
            clear hc
            generalize b[j] = x at *
            generalize lacksL a (b.take j) = L at *
            obtain ⟨kl, hkey⟩ := key_evt x hx
            have hbw : b1 < wr.heap.size := hbr
            have hlk := (((HM.out.nx hnx).nx ((Nx.refl wr).alloc (.cells (evA x) 31 (0, 0)))).look boolE law_evt Tryz.underlying85 (z := false) trivial (zeroBoolEv _) hx hkey).1
            rw [← HNN.out] at hget
            rw [hget] at hlk
            unfold ekEv at hlk
            have hgl : g < wr.heap.size := Nat.lt_of_lt_of_le hml hnx.sz
            obtain ⟨so, no, at_, ki, ri, ca, nd, up, dn, fo, nu⟩ := x
            unfold evA at hlk
            simp only at c0 c1 c2 c3 c4 c5 c6 c7 c8 c9 c10 hlk
            have q1 : (0 : Int) ≤ (j : Int) := by omega
            have q2 : (j : Int) < (m : Int) := by omega
            by_cases hin : (⟨so, no, at_, ki, ri, ca, nd, up, dn, fo, nu⟩ : Ev) ∈ a
            · have HLT2 := hide (HLT.out.trans (if_pos hin))
              rw [decide_eq_true hin] at hlk
              have HIN := hide hin
              clear hin hx hnx
              go_wp2_with fail
              go_roundw
              case rel => exact ⟨j + 1, by omega, by go_num, by rw [HLT2.out]; exact own_nx HOW.out ((Nx.refl _).alloc _), HNY.out.alloc _⟩
              case measure => simp [intOf]; omega
            · have HLT2 := hide (HLT.out.trans (if_neg hin))
              rw [decide_eq_false hin] at hlk
              have HIN := hide hin
              clear hin hx hnx
              go_wp2_with (at_builtin; refine wpApp rfl _ _ _ rfl el_Evt encEvt encEvt_len encEvt_one (by omega) (by omega) wz.heap.size _ L rfl (own_nx HOW.out (((Nx.refl wr).alloc _).alloc _)) _ ⟨so, no, at_, ki, ri, ca, nd, up, dn, fo, nu⟩ _ rfl (hnew (by simp)) rfl (by have := HLN.out; omega) (by have := HNY.out.sz; simp; omega) ?_; intro v8 w8 hown8 hg8; (have HO8 := hide hown8); (have HG8 := hide hg8); clear hown8 hg8)
              go_roundw
              case rel => exact ⟨j + 1, by omega, by go_num, by rw [HLT2.out]; exact HO8.out, ((HNY.out.alloc _).alloc _).grown HG8.out (fun p hp => own_blk_lt HOW.out p hp)⟩
              case measure => simp [intOf]; omega
          · obtain rfl : j = m := by omega
            have ht : b.take j = b := List.take_of_length_le (by have := HMM.out; omega)
            rw [ht] at HOW
            go_wp2_with fail
            go_ret2
            obtain ⟨A9, c9, e9, hR9, _⟩ := Rd.of_own encEvt_len rfl HOW.out
            subst e9
            exact ⟨⟨_, _, ⟨_, rfl⟩, rfl, hR9.low HNX.out.sz⟩, HNX.out.trans HNY.out⟩
  · have HQ := hide (show f ≠ 0 by simpa using hq)
    go_wp2_with fail
    go_ret2
    exact ⟨⟨_, _, _, rfl, fun _ => rfl, fun h => absurd h HQ.out⟩, HN3.out⟩
end Go.Proofs.YtfkmbeppckelfaaGreatDoor
/- slices.DeleteFunc of events on a row of one's own; what one list lacks of another, by the reference. -/
namespace Go.Proofs.YtfkmbeppckelfaaGreatDoor
open Go.RowKit

/-- An element of a row is stored whole. -/
theorem row_put {w : World} {base g cap n o i : Nat} {ys : List Ev} (hn : ys.length = n) (h : w.ownsRow base 31 11 (.slice (some ⟨g, 0, none⟩) n cap) n (ys.flatMap encEvt)) (hi : i < ys.length) (x : Ev) (ho : o = i * 11) :
    (((((((((((w.setCell ⟨g, o, none⟩ (.string x.source)).setCell ⟨g, o + 1, none⟩ (.int .i64 x.no)).setCell ⟨g, o + 2, none⟩ (.int .i64 x.at_)).setCell ⟨g, o + 3, none⟩ (.int .i64 x.kind)).setCell ⟨g, o + 4, none⟩ (.string x.ride)).setCell ⟨g, o + 5, none⟩ (.string x.car)).setCell ⟨g, o + 6, none⟩ (.string x.node)).setCell ⟨g, o + 7, none⟩ (.int .i64 x.up)).setCell ⟨g, o + 8, none⟩ (.int .i64 x.down)).setCell ⟨g, o + 9, none⟩ (.string x.from_)).setCell ⟨g, o + 10, none⟩ (.int .i64 x.number)).ownsRow base 31 11 (.slice (some ⟨g, 0, none⟩) n cap) n ((ys.set i x).flatMap encEvt) := by
  obtain ⟨y, hy⟩ : ∃ y, y = ys[i] := ⟨_, rfl⟩
  have stp : ∀ {W : World} {a b : Ev} {j : Nat} {u : Value}, W.ownsRow base 31 11 (.slice (some ⟨g, 0, none⟩) n cap) n ((ys.set i a).flatMap encEvt) → j < 11 → encEvt b = (encEvt a).set j u → (W.setCell ⟨g, o + j, none⟩ u).ownsRow base 31 11 (.slice (some ⟨g, 0, none⟩) n cap) n ((ys.set i b).flatMap encEvt) := by
    intro W a b j u hW hj he
    have hl : (ys.set i a).length = n := by rw [List.length_set]; exact hn
    have hi' : i < (ys.set i a).length := by rw [List.length_set]; exact hi
    have := own_set encEvt_len hl hW i hi' j hj u b (by rw [List.getElem_set_self]; exact he) (o + j) (by rw [ho])
    rw [List.set_set] at this
    exact this
  have h0 : w.ownsRow base 31 11 (.slice (some ⟨g, 0, none⟩) n cap) n ((ys.set i y).flatMap encEvt) := by
    rw [hy, List.set_getElem_self]; exact h
  have h1 := stp (b := { y with source := x.source }) (j := 0) (u := .string x.source) h0 (by omega) rfl
  have h2 := stp (b := { y with source := x.source, no := x.no }) (j := 1) (u := .int .i64 x.no) h1 (by omega) rfl
  have h3 := stp (b := { y with source := x.source, no := x.no, at_ := x.at_ }) (j := 2) (u := .int .i64 x.at_) h2 (by omega) rfl
  have h4 := stp (b := { y with source := x.source, no := x.no, at_ := x.at_, kind := x.kind }) (j := 3) (u := .int .i64 x.kind) h3 (by omega) rfl
  have h5 := stp (b := { y with source := x.source, no := x.no, at_ := x.at_, kind := x.kind, ride := x.ride }) (j := 4) (u := .string x.ride) h4 (by omega) rfl
  have h6 := stp (b := { y with source := x.source, no := x.no, at_ := x.at_, kind := x.kind, ride := x.ride, car := x.car }) (j := 5) (u := .string x.car) h5 (by omega) rfl
  have h7 := stp (b := { y with source := x.source, no := x.no, at_ := x.at_, kind := x.kind, ride := x.ride, car := x.car, node := x.node }) (j := 6) (u := .string x.node) h6 (by omega) rfl
  have h8 := stp (b := { x with down := y.down, from_ := y.from_, number := y.number }) (j := 7) (u := .int .i64 x.up) h7 (by omega) rfl
  have h9 := stp (b := { x with from_ := y.from_, number := y.number }) (j := 8) (u := .int .i64 x.down) h8 (by omega) rfl
  have h10 := stp (b := { x with number := y.number }) (j := 9) (u := .string x.from_) h9 (by omega) rfl
  exact stp (b := x) (j := 10) (u := .int .i64 x.number) h10 (by omega) rfl
theorem row_gr {w : World} {g o : Nat} (u0 u1 u2 u3 u4 u5 u6 u7 u8 u9 u10 : Value) : Gr g w (((((((((((w.setCell ⟨g, o, none⟩ u0).setCell ⟨g, o + 1, none⟩ u1).setCell ⟨g, o + 2, none⟩ u2).setCell ⟨g, o + 3, none⟩ u3).setCell ⟨g, o + 4, none⟩ u4).setCell ⟨g, o + 5, none⟩ u5).setCell ⟨g, o + 6, none⟩ u6).setCell ⟨g, o + 7, none⟩ u7).setCell ⟨g, o + 8, none⟩ u8).setCell ⟨g, o + 9, none⟩ u9).setCell ⟨g, o + 10, none⟩ u10) :=
  ((((((((((((Gr.refl g w).setS (p := ⟨g, o, none⟩) (.inl rfl) u0).setS (p := ⟨g, o + 1, none⟩) (.inl rfl) u1).setS (p := ⟨g, o + 2, none⟩) (.inl rfl) u2).setS (p := ⟨g, o + 3, none⟩) (.inl rfl) u3).setS (p := ⟨g, o + 4, none⟩) (.inl rfl) u4).setS (p := ⟨g, o + 5, none⟩) (.inl rfl) u5).setS (p := ⟨g, o + 6, none⟩) (.inl rfl) u6).setS (p := ⟨g, o + 7, none⟩) (.inl rfl) u7).setS (p := ⟨g, o + 8, none⟩) (.inl rfl) u8).setS (p := ⟨g, o + 9, none⟩) (.inl rfl) u9).setS (p := ⟨g, o + 10, none⟩) (.inl rfl) u10)
/-- 'clear(s)', elements of K cells. -/
theorem run_clear_K {P : Program} (n : Nat) (w : World) (t e ty : TypeId) (z : Value) (ht : P.underlying t = some (.slice e)) (hv : (zeroValue e).run P w = .ok z w) (h1 : ∀ v ∈ (Builtin.zeroCells z.cells n).toList, v.oneCell' = true) (b o c : Nat) (hn : 0 < n)
    (hc : ∀ j, j < (Builtin.zeroCells z.cells n).toList.length → (w.cell? ⟨b, o + j, none⟩).isSome = true) (hf : ∀ j, j < (Builtin.zeroCells z.cells n).toList.length → w.frozen? ⟨b, o + j, none⟩ = false) :
    (Builtin.clear_ #[t] ty #[.slice (some ⟨b, o, none⟩) n c]).run P w = .ok (.tuple #[]) (w.setCells b o (Builtin.zeroCells z.cells n).toList) := by
  have hst := run_storeCells_cells (P := P) b o (Builtin.zeroCells z.cells n).toList 0 w (by simpa using hc) (by simpa using hf) h1
  simp only [Nat.add_zero] at hst
  obtain ⟨m, rfl⟩ : ∃ m, n = m + 1 := ⟨n - 1, by omega⟩
  simp [Builtin.clear_, run_underlying ht, hv, hst]
/-- What is left while the loop runs. -/
structure DelI (p : Ev → Bool) (xs ys : List Ev) (i j : Nat) : Prop where
  ij : i < j
  len : ys.length = xs.length
  left : ys.take i = (xs.take j).filter (fun x => !p x)
  rest : ∀ q, j ≤ q → ys[q]? = xs[q]?
theorem DelI.keep {p : Ev → Bool} {xs ys : List Ev} {i j : Nat} (h : DelI p xs ys i j) (hj : j < xs.length) (hp : p xs[j] = true) : DelI p xs ys i (j + 1) := by
  refine ⟨by have := h.ij; omega, h.len, ?_, fun q hq => h.rest q (by omega)⟩
  rw [List.take_add_one, List.getElem?_eq_getElem hj, Option.toList_some, List.filter_append, h.left, List.filter_cons_of_neg (by simp [hp]), List.filter_nil, List.append_nil]
theorem DelI.put {p : Ev → Bool} {xs ys : List Ev} {i j : Nat} (h : DelI p xs ys i j) (hj : j < xs.length) (hp : p xs[j] = false) : DelI p xs (ys.set i xs[j]) (i + 1) (j + 1) := by
  have hij := h.ij
  have hi : i < ys.length := by rw [h.len]; omega
  refine ⟨by omega, by rw [List.length_set]; exact h.len, ?_, fun q hq => ?_⟩
  · rw [List.take_add_one (l := xs), List.getElem?_eq_getElem hj, Option.toList_some, List.filter_append, ← h.left, List.filter_cons_of_pos (by simp [hp]), List.filter_nil, List.take_add_one, List.getElem?_set_self hi, Option.toList_some, List.take_set_of_le (Nat.le_refl i)]
  · rw [List.getElem?_set_ne (by omega)]; exact h.rest q (by omega)
theorem DelI.start {p : Ev → Bool} {xs : List Ev} {i : Nat} (h : xs.findIdx? p = some i) : DelI p xs xs i (i + 1) := by
  rw [List.findIdx?_eq_some_iff_getElem] at h
  obtain ⟨hi, hp, hlt⟩ := h
  refine ⟨by omega, rfl, ?_, fun _ _ => rfl⟩
  rw [List.take_add_one, List.getElem?_eq_getElem hi, Option.toList_some, List.filter_append, List.filter_cons_of_neg (by simp [hp]), List.filter_nil, List.append_nil]
  symm
  rw [List.filter_eq_self]
  intro x hx
  obtain ⟨j, hj, rfl⟩ := List.mem_iff_getElem.1 hx
  rw [List.length_take] at hj
  rw [List.getElem_take]
  simpa using hlt j (by omega)
theorem del_none {p : Ev → Bool} {xs : List Ev} (h : xs.findIdx? p = none) : xs.filter (fun x => !p x) = xs := by
  rw [List.findIdx?_eq_none_iff] at h
  rw [List.filter_eq_self]
  intro x hx
  simpa using h x hx
end Go.Proofs.YtfkmbeppckelfaaGreatDoor
/- slices.DeleteFunc of events, walked. -/
namespace Go.Proofs.YtfkmbeppckelfaaGreatDoor
open Go.RowKit

theorem gr_setCells (b : Nat) : ∀ (vs : List Value) (o : Nat) (w : World), Gr b w (w.setCells b o vs)
  | [], _, w => Gr.refl b w
  | v :: vs, o, w => ((Gr.refl b w).setS (p := ⟨b, o, none⟩) (.inl rfl) v).trans (gr_setCells b vs (o + 1) _)
theorem zeroEvE (w : World) : (zeroValue 31).run Tryz.prog w = .ok (.agg (evA ev0)) w := by kernel_rfl
theorem zeroEv_one (n : Nat) : ∀ v ∈ (Builtin.zeroCells (Value.agg (evA ev0)).cells n).toList, v.oneCell' = true := by
  intro v hv
  have h : ∀ v ∈ (evA ev0), v.oneCell' = true := by
    intro v hv
    have : v ∈ encEvt ev0 := by simpa [encEvt, evA] using hv
    exact encEvt_one ev0 v this
  unfold Builtin.zeroCells at hv
  rw [Array.toList_map, List.mem_map] at hv
  obtain ⟨i, hi, rfl⟩ := hv
  have hs : (Value.agg (evA ev0)).cells.size = 11 := rfl
  have hlt : i % (Value.agg (evA ev0)).cells.size < (Value.agg (evA ev0)).cells.size := by rw [hs]; omega
  rw [getElem!_pos (Value.agg (evA ev0)).cells _ hlt]
  exact h _ (Array.getElem_mem hlt)
set_option maxRecDepth 100000 in
set_option maxHeartbeats 1000000 in
theorem w_DeleteFE (gp : Nat) (p : Ev → Bool) (cap0 : Value) (eg : Enters gp) {base g cap n : Nat} (xs : List Ev) (w : World) (hn : xs.length = n) (hl : n ≤ 1000) (hcap : n ≤ cap)
    (hcl : ∀ (y : Ev) W, Gr g w W → Calls Tryz.prog gp #[.agg #[.string y.source, .int .i64 y.no, .int .i64 y.at_, .int .i64 y.kind, .string y.ride, .string y.car, .string y.node, .int .i64 y.up, .int .i64 y.down, .string y.from_, .int .i64 y.number], cap0] W fun e w' => e = .returned (.bool (p y)) ∧ Nx W w')
    (hown : w.ownsRow base 31 11 (.slice (some ⟨g, 0, none⟩) n cap) n (xs.flatMap encEvt)) :
    Calls Tryz.prog 55 #[.slice (some ⟨g, 0, none⟩) n cap, .func (.func gp) #[] #[cap0]] w fun e w' => ∃ m, e = .returned (.slice (some ⟨g, 0, none⟩) m cap) ∧ m = (xs.filter (fun x => !p x)).length ∧ Rd w' base (some ⟨g, 0, none⟩) 11 encEvt (xs.filter (fun x => !p x)) ∧ Gr g w w' := by
  obtain ⟨A0, c0', e0, hR, -⟩ := Rd.of_own encEvt_len hn.symm hown
  injection e0 with e1 e2 e3
  subst e1 e3
  clear e2
  have HIX := hide (w_IndexFE1 gp p cap0 eg base _ cap xs w (fun y W _ hn => hcl y W (Gr.of_nx hn)) hR (by omega))
  rw [hn] at HIX
  have hgw := (hown.lt g rfl).2
  have HOW := hide hown
  have HCL0 := hide hcl
  have HN := hide hn
  cases hfi : xs.findIdx? p with
  | none =>
    have hix : idxE p xs 0 = -1 := by rw [idxE_find, hfi]
    have hf := del_none hfi
    rw [hix] at HIX
    have HR := hide hR
    have HF := hide hf
    clear hfi hix hf hR hown hcl hn
    go_enter Tryz.func55, Tryz.ntmps55
    go_wp2_with (go_at_call 50; refine HIX.out.mono ?_; rintro e w2 ⟨rfl, hn2⟩)
    go_ret
    exact ⟨n, rfl, by rw [HF.out]; exact HN.out.symm, by rw [HF.out]; exact HR.out.nx hn2, Gr.of_nx hn2⟩
  | some i0 =>
    have hix : idxE p xs 0 = (i0 : Int) := by rw [idxE_find, hfi]; simp
    have hst := DelI.start hfi
    have hi0 : i0 < n := by rw [← hn]; rw [List.findIdx?_eq_some_iff_getElem] at hfi; exact hfi.1
    rw [hix] at HIX
    have HST := hide hst
    have wi : IntKind.i64.wrap ((i0 : Int) + 1) = (i0 : Int) + 1 := IntWalk.i64_in _ (by omega)
    have t0 : ((i0 : Int) == -1) = false := by simp <;> omega
    clear hfi hix hst hR hown hcl hn
    unfold Enters at eg
    go_enter Tryz.func55, Tryz.ntmps55
    go_wp2_with fail
    refine HIX.out.mono ?_
    rintro e w2 ⟨rfl, hn2⟩
    have HN2 := hide hn2
    clear hn2 HIX
    go_upto_region 5 with fail
    go_loopw [5, 6] (fun a b wr => ∃ (i j : Nat) (ys : List Ev), a = .int .i64 i ∧ b = .int .i64 j ∧ j ≤ n ∧ DelI p xs ys i j ∧ wr.ownsRow base 31 11 (.slice (some ⟨g, 0, none⟩) n cap) n (ys.flatMap encEvt) ∧ Gr g w wr) (fun _ b _ => n - (intOf b).toNat)
    case atStart => exact ⟨i0, i0 + 1, xs, rfl, by go_num, by omega, HST.out, own_nx HOW.out HN2.out, Gr.of_nx HN2.out⟩
    case round =>
      obtain ⟨i, j, ys, rfl, rfl, hj, hD, how, hg⟩ := hrel
      have HD := hide hD
      have HO := hide how
      have HG := hide hg
      have hyl : ys.length = n := by rw [hD.len, HN.out]
      have hij := hD.ij
      obtain ⟨A1, c1', e1, hR1, -⟩ := Rd.of_own encEvt_len hyl.symm how
      injection e1 with f1 f2 f3
      subst f1
      clear hD how hg f2 f3
      by_cases hlt : j < n
      · have hjy : j < ys.length := by omega
        have hiy : i < ys.length := by omega
        have hjx : j < xs.length := by rw [HN.out]; exact hlt
        obtain ⟨b, off, eb, _, hb, hbr, hc⟩ := hR1.open_ (Nx.refl wr) (by omega)
        injection eb with eb
        injection eb with eb1 eb2
        subst eb1
        subst eb2
        have c := ev_cells (hc j hjy)
        have d := ev_cells (hc i hiy)
        have hyx : ys[j] = xs[j] := by
          have := HD.out.rest j (Nat.le_refl _)
          rw [List.getElem?_eq_getElem hjy, List.getElem?_eq_getElem hjx] at this
          injection this
        rw [hyx] at c
        have HK := hide (fun hp => HD.out.keep hjx hp)
        have HP := hide (fun hp => HD.out.put hjx hp)
        have hcl2 := fun W (h : Gr g w W) => HCL0.out xs[j] W h
        clear hc hyx
        generalize xs[j] = x at *
        generalize ys[i] = y0 at *
        obtain ⟨c0, c1, c2, c3, c4, c5, c6, c7, c8, c9, c10⟩ := c
        obtain ⟨d0, d1, d2, d3, d4, d5, d6, d7, d8, d9, d10⟩ := d
        have HRP := hide (fun (W : World) (h : W.ownsRow base 31 11 (.slice (some ⟨g, 0, none⟩) n cap) n (ys.flatMap encEvt)) => row_put (o := i * 11) hyl h hiy x rfl)
        obtain ⟨so, no, at_, ki, ri, ca, nd, up, dn, fo, nu⟩ := x
        obtain ⟨yso, yno, yat, yki, yri, yca, ynd, yup, ydn, yfo, ynu⟩ := y0
        simp only [Nat.zero_add] at c0 c1 c2 c3 c4 c5 c6 c7 c8 c9 c10 d0 d1 d2 d3 d4 d5 d6 d7 d8 d9 d10 hcl2 HRP
        have q1 : (0 : Int) ≤ (j : Int) := by omega
        have q2 : (j : Int) < (n : Int) := by omega
        have q3 : (0 : Int) ≤ (i : Int) := by omega
        have q4 : (i : Int) < (n : Int) := by omega
        have wj : IntKind.i64.wrap ((j : Int) + 1) = (j : Int) + 1 := IntWalk.i64_in _ (by omega)
        have wi2 : IntKind.i64.wrap ((i : Int) + 1) = (i : Int) + 1 := IntWalk.i64_in _ (by omega)
        obtain ⟨wb, hwb⟩ : ∃ wb, wb = wr.alloc (.cells #[.string so, .int .i64 no, .int .i64 at_, .int .i64 ki, .string ri, .string ca, .string nd, .int .i64 up, .int .i64 dn, .string fo, .int .i64 nu] 31 (0, 0)) := ⟨_, rfl⟩
        obtain ⟨bx, hbx⟩ : ∃ bx, bx = wr.heap.size := ⟨_, rfl⟩
        have hnb : Nx wr wb := hwb ▸ (Nx.refl wr).alloc _
        have hbb : wb.heap[bx]? = some (.cells #[.string so, .int .i64 no, .int .i64 at_, .int .i64 ki, .string ri, .string ca, .string nd, .int .i64 up, .int .i64 dn, .string fo, .int .i64 nu] 31 (0, 0)) := by rw [hwb, hbx]; exact heap_alloc_new wr _
        have HCL := hide (hcl2 wb (HG.out.then_nx hnb))
        have HGB := hide (HG.out.then_nx hnb)
        have HBB := hide hbb
        have HNB := hide hnb
        have hgb : g ≠ bx := by omega
        clear hcl2 hnb hbb
        go_upto_region 8 with fail
        rw [← hwb, ← hbx]
        clear hwb hbx c0 c1 c2 c3 c4 c5 c6 c7 c8 c9 c10
        obtain ⟨k0, k1, k2, k3, k4, k5, k6, k7, k8, k9, k10⟩ := evb_cells HBB.out
        have hbl := (Array.getElem?_eq_some_iff.1 HBB.out).1
        cases hbig : p ⟨so, no, at_, ki, ri, ca, nd, up, dn, fo, nu⟩
        · rw [hbig] at HCL
          have HP2 := hide (HP.out hbig)
          clear hbig HP HK
          go_upto_region 9 with (go_at_fn gp; refine HCL.out.mono ?_; rintro e w8 ⟨rfl, hn8⟩; (have HN8 := hide (HNB.out.trans hn8)); (have HB8 := hide ((hn8.block _ hbl).trans HBB.out)); clear hn8)
          clear k0 k1 k2 k3 k4 k5 k6 k7 k8 k9 k10
          obtain ⟨k0, k1, k2, k3, k4, k5, k6, k7, k8, k9, k10⟩ := evb_cells HB8.out
          have hbl8 := (Array.getElem?_eq_some_iff.1 HB8.out).1
          have v0 := nx_cell HN8.out hbr d0
          have v1 := nx_cell HN8.out hbr d1
          have v2 := nx_cell HN8.out hbr d2
          have v3 := nx_cell HN8.out hbr d3
          have v4 := nx_cell HN8.out hbr d4
          have v5 := nx_cell HN8.out hbr d5
          have v6 := nx_cell HN8.out hbr d6
          have v7 := nx_cell HN8.out hbr d7
          have v8 := nx_cell HN8.out hbr d8
          have v9 := nx_cell HN8.out hbr d9
          have v10 := nx_cell HN8.out hbr d10
          have hgl8 := Nat.lt_of_lt_of_le hbr HN8.out.sz
          have hfz : ∀ q, w8.frozen? ⟨g, q, none⟩ = false := fun q => by
            obtain ⟨cur, hcur⟩ := own_cells (own_nx HO.out HN8.out) rfl
            simp [World.frozen?, hcur]
          have HO9 := hide (HRP.out w8 (own_nx HO.out HN8.out))
          have HG9 := hide ((HG.out.then_nx HN8.out).trans (row_gr (g := g) (o := i * 11) (.string so) (.int .i64 no) (.int .i64 at_) (.int .i64 ki) (.string ri) (.string ca) (.string nd) (.int .i64 up) (.int .i64 dn) (.string fo) (.int .i64 nu)))
          obtain ⟨w9, hw9⟩ : ∃ w9, w9 = ((((((((((w8.setCell ⟨g, i * 11, none⟩ (.string so)).setCell ⟨g, i * 11 + 1, none⟩ (.int .i64 no)).setCell ⟨g, i * 11 + 2, none⟩ (.int .i64 at_)).setCell ⟨g, i * 11 + 3, none⟩ (.int .i64 ki)).setCell ⟨g, i * 11 + 4, none⟩ (.string ri)).setCell ⟨g, i * 11 + 5, none⟩ (.string ca)).setCell ⟨g, i * 11 + 6, none⟩ (.string nd)).setCell ⟨g, i * 11 + 7, none⟩ (.int .i64 up)).setCell ⟨g, i * 11 + 8, none⟩ (.int .i64 dn)).setCell ⟨g, i * 11 + 9, none⟩ (.string fo)).setCell ⟨g, i * 11 + 10, none⟩ (.int .i64 nu) := ⟨_, rfl⟩
          rw [← hw9] at HO9 HG9
          clear d0 d1 d2 d3 d4 d5 d6 d7 d8 d9 d10 hR1 HRP
          go_upto_region 10 with fail
          rw [← hw9]
          clear hw9 v0 v1 v2 v3 v4 v5 v6 v7 v8 v9 v10 k0 k1 k2 k3 k4 k5 k6 k7 k8 k9 k10 hfz
          go_wp2_with fail
          go_roundw
          case rel => exact ⟨i + 1, j + 1, _, by go_num, by go_num, by omega, HP2.out, HO9.out, HG9.out⟩
          case measure => simp [intOf]; omega
        · rw [hbig] at HCL
          have HK2 := hide (HK.out hbig)
          clear hbig HP HK d0 d1 d2 d3 d4 d5 d6 d7 d8 d9 d10 hR1 HRP
          go_wp2_with (go_at_fn gp; refine HCL.out.mono ?_; rintro e w8 ⟨rfl, hn8⟩)
          go_roundw
          case rel => exact ⟨i, j + 1, ys, by go_num, by go_num, by omega, HK2.out, own_nx HO.out (HNB.out.trans hn8), HGB.out.then_nx hn8⟩
          case measure => simp [intOf]; omega
      · obtain rfl : j = n := by omega
        have hiz : (i : Int) < (j : Int) := by omega
        have hi0 : (0 : Int) ≤ (i : Int) := by omega
        have hij2 : (i : Int) ≤ (j : Int) := by omega
        have hic : (i : Int) ≤ (cap : Int) := by omega
        have hic2 : i ≤ cap := by omega
        have hij3 : i ≤ j := by omega
        have HR1 := hide hR1
        have ht : xs.take j = xs := List.take_of_length_le (by rw [HN.out]; exact Nat.le_refl _)
        have hfil : xs.filter (fun x => !p x) = ys.take i := by rw [HD.out.left, ht]
        have HFI := hide hfil
        have HBG := hide (HO.out.lt g rfl)
        obtain ⟨Z, hZ⟩ : ∃ Z, Z = (Builtin.zeroCells (Value.agg (evA ev0)).cells (j - i)).toList := ⟨_, rfl⟩
        have hZl : Z.length = (j - i) * 11 := by rw [hZ, Array.length_toList, size_zeroCells]; rfl
        have hclr : (Builtin.clear_ #[26] 0 #[.slice (some ⟨g, i * 11, none⟩) (j - i) (cap - i)]).run Tryz.prog wr = .ok (.tuple #[]) (wr.setCells g (i * 11) Z) := by
          rw [hZ]
          refine run_clear_K (j - i) wr 26 31 0 (.agg (evA ev0)) Tryz.underlying26 (zeroEvE wr) (zeroEv_one _) g (i * 11) (cap - i) (by omega) (fun q hq => ?_) (fun q _ => ?_)
          · rw [← hZ, hZl] at hq
            have hlt2 : i * 11 + q < j * 11 := by omega
            rw [HO.out.cellAt (i * 11 + q) (by simpa using hlt2)]
            rw [List.getElem?_eq_getElem (by rw [flat_len encEvt_len, hyl]; exact hlt2)]
            rfl
          · obtain ⟨cur, hcur⟩ := own_cells HO.out rfl
            simp [World.frozen?, hcur]
        have HZL := hide hZl
        clear hR1 ht hfil hZ hZl
        go_wp2_with fail
        go_ret
        have hG9 : Gr g w (wr.setCells g (i * 11) Z) := HG.out.trans (gr_setCells g Z (i * 11) wr)
        refine ⟨i, rfl, ?_, ?_, hG9⟩
        · rw [HFI.out, List.length_take]; omega
        · rw [HFI.out]
          intro hp
          obtain ⟨b, off, eb, hlo, hb, hc⟩ := HR1.out (by omega)
          injection eb with eb
          injection eb with eb1 eb2
          subst eb1
          subst eb2
          refine ⟨g, 0, rfl, hlo, Nat.lt_of_lt_of_le hb (gr_setCells g Z (i * 11) wr).sz, fun q x hx q2 u hu => ?_⟩
          obtain ⟨hq, ex⟩ := List.getElem?_eq_some_iff.1 hx
          rw [List.length_take] at hq
          have hq2 : q2 < 11 := by have := (List.getElem?_eq_some_iff.1 hu).1; rwa [encEvt_len] at this
          rw [World.cell?_setCells_out g Z (i * 11) wr _ (fun _ _ => .inl (by show 0 + q * 11 + q2 < i * 11; omega))]
          refine hc q x ?_ q2 u hu
          rw [List.getElem?_take_of_lt (by omega)] at hx
          exact hx
end Go.Proofs.YtfkmbeppckelfaaGreatDoor
