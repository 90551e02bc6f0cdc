/- jitlaw1.EventsTold returns true. -/
import Derived.Test.YtfkmbeppckelfaaGreatDoorQStW
import Derived.Test.YtfkmbeppckelfaaGreatDoorQG41
import Derived.Test.YtfkmbeppckelfaaGreatDoorQG43
import Derived.Test.YtfkmbeppckelfaaGreatDoorQG44
import Derived.Test.YtfkmbeppckelfaaGreatDoorQG45
import Derived.Test.YtfkmbeppckelfaaGreatDoorQWriW
import Derived.Test.YtfkmbeppckelfaaGreatDoorQWriR
import Derived.Test.YtfkmbeppckelfaaGreatDoorQG1
namespace Go.Proofs.YtfkmbeppckelfaaGreatDoor
open Go.RowKit Go.Maps

/-- Two lists as the law goes on with them. -/
def TwoLists (s : Nat) (w0 : World) (va vb : Value) (w : World) : Prop :=
  ∃ (A B : Option Addr) (c d : Nat) (la lb : List Ev), va = .slice A la.length c ∧ vb = .slice B lb.length d ∧ Rd w (s + 1) A 11 encEvt la ∧ Rd w (s + 1) B 11 encEvt lb ∧ (∀ x ∈ la, okEv x) ∧ (∀ x ∈ lb, okEv x) ∧ la.length ≤ 10 ∧ lb.length ≤ 10 ∧ la.length ≤ c ∧ Gr s w0 w ∧ Str w s 100000
theorem ok_filter {l : List Ev} {p : Ev → Bool} (h : ∀ x ∈ l, okEv x) : ∀ x ∈ l.filter p, okEv x := fun x hx => h x (List.mem_filter.1 hx).1
set_option maxRecDepth 100000 in
set_option maxHeartbeats 8000000 in
theorem w_lawET (A : Option Addr) (n c : Nat) (w : World) (hn : n ≤ 9223372036854775807)
    (hL : 0 < n → ∃ b off, A = some ⟨b, off, none⟩ ∧ b < w.heap.size ∧ ∀ j, j < n → ∃ z : Int, w.cell? ⟨b, off + j, none⟩ = some (.int .i64 z) ∧ -9223372036854775808 ≤ z ∧ z ≤ 9223372036854775807) :
    Calls Tryz.prog 3 #[.slice A n c] w (TrueNx w) := by
  have hS0 : Str (w.alloc (.cells #[.slice A n c, .int .i64 0] 25)) w.heap.size 0 := str_new A n c w hn hL
  clear hL
  have hsz : (w.alloc (.cells #[.slice A n c, .int .i64 0] 25)).heap.size = w.heap.size + 1 := by simp
  go_enter Tryz.func3, Tryz.ntmps3
  go_wp2_with fail
  refine (w_Range 0 10 _ _ _ hS0 (by omega) (by omega) (by omega)).mono ?_
  rintro e w1 ⟨r, hr1, hr2, rfl, hg1, hS1⟩
  obtain ⟨m, rfl⟩ : ∃ m : Nat, r = (m : Int) := ⟨r.toNat, by omega⟩
  have hz1 := hg1.sz
  rw [hsz] at hz1
  have hg01 : Gr w.heap.size w w1 := (Gr.of_nx ((Nx.refl w).alloc _)).trans hg1
  clear hg1 hS0 hsz
  go_wp2_with fail
  refine (w_Events m _ _ _ (by omega) hS1 (by omega)).mono ?_
  rintro e w2 ⟨B, cB, l, rfl, hR2, hlm, hlc, hok, hg2, hS2⟩
  have hl10 : l.length ≤ 10 := by omega
  have hz2 := hg2.sz
  have HR2 := hide (hR2.low hz1)
  have HOK := hide hok
  have HG2 := hide (hg01.trans hg2)
  have HS2 := hide hS2
  have HCL := hide (w_CloneEv w1.heap.size B cB l w2 hR2 (by omega))
  obtain ⟨s, hs⟩ : ∃ s, s = w.heap.size := ⟨_, rfl⟩
  rw [← hs] at HG2 HS2 HR2 hz1 ⊢
  have HSW := hide hs
  have HSW2 := hide (show s < w2.heap.size by omega)
  obtain ⟨nl, hnl⟩ : ∃ nl, nl = l.length := ⟨_, rfl⟩
  rw [← hnl] at HCL hl10 hlc ⊢
  have HNL := hide hnl
  clear hR2 hok hg2 hS2 hg01 hS1 hlm hr1 hr2 hnl hs
  go_wp2_with fail
  refine HCL.out.mono ?_
  rintro e w3 ⟨v3, rfl, hown3, hn3⟩
  have HO3 := hide hown3
  have HN3 := hide hn3
  have hz3 := hn3.sz
  clear hown3 hn3 HCL
  have hsw2 := HSW2.out
  go_upto_region 4 with fail
  go_cut [29] (fun v wx => ∃ r : Int, v = .int .i64 r ∧ 0 ≤ r ∧ r ≤ 3 ∧ Gr s w3 wx ∧ Str wx s 20003)
  case first =>
    go_wp2_with fail
    refine (w_Next 4 s _ _ (HS2.out.nx HN3.out) (by omega) (by omega)).mono ?_
    rintro e w4 ⟨r, hr1, hr2, rfl, hg4, hS4⟩
    have HG4 := hide hg4
    have HS4 := hide hS4
    clear hg4 hS4
    go_wp2_with fail
    go_meet
    exact ⟨r, rfl, hr1, by omega, HG4.out, HS4.out.more (by omega)⟩
  case rest =>
  obtain ⟨r, rfl, hr1, hr2, hg4, hS4⟩ := hcut
  obtain ⟨w4, hw4⟩ : ∃ w4, w4 = wc := ⟨_, rfl⟩
  rw [← hw4] at hg4 hS4 ⊢
  have HR4 := hide ((HR2.out.nx HN3.out).gr hg4 (by omega))
  have HO4 := hide (own_gr HO3.out hg4 (by omega))
  have HG4 := hide ((HG2.out.then_nx HN3.out).trans hg4)
  have HS4 := hide hS4
  have hz4 := hg4.sz
  clear hw4 hg4 hS4 HR2 HO3 HG2 HS2 HN3
  refine ‹∀ (a : Act) (w_1 : World), Code.wp _ _ _ a w_1 → _› _ _ ?_
  have HHA := hide (w_HalfEvents (s + 1) B cB l s 20003 w4 HR4.out (by omega) (by have := HNL.out; omega) HS4.out (by omega))
  rw [← HNL.out] at HHA
  go_cut [4, 5] (fun va vb wx => TwoLists s w va vb wx)
  case first =>
    have hrr : r = 0 ∨ r = 1 ∨ r = 2 ∨ r = 3 := by omega
    rcases hrr with rfl | rfl | rfl | rfl
    · go_wp2_with fail
      refine (w_Range 0 4 s _ _ HS4.out (by omega) (by omega) (by omega)).mono ?_
      rintro e w5 ⟨q, hq1, hq2, rfl, hg5, hS5⟩
      obtain ⟨m5, rfl⟩ : ∃ m5 : Nat, q = (m5 : Int) := ⟨q.toNat, by omega⟩
      have hz5 := hg5.sz
      go_wp2_with fail
      refine (w_Events m5 s _ _ (by omega) hS5 (by omega)).mono ?_
      rintro e w6 ⟨B6, c6, lb, rfl, hR6, hlb, hcb, hob, hg6, hS6⟩
      have HR6 := hide (hR6.low (show s + 1 ≤ w5.heap.size by omega))
      have HOB := hide hob
      have HR46 := hide ((HR4.out.gr hg5 (by omega)).gr hg6 (by omega))
      have HG6 := hide ((HG4.out.trans hg5).trans hg6)
      have HS6 := hide hS6
      have HLB := hide (show lb.length ≤ 10 by omega)
      clear hR6 hlb hcb hob hg6 hS6 hg5 hS5 HHA
      go_wp2_with fail
      go_meet
      exact ⟨B, B6, cB, c6, l, lb, by rw [HNL.out], rfl, HR46.out, HR6.out, HOK.out, HOB.out, by have := HNL.out; omega, HLB.out, by have := HNL.out; omega, HG6.out, HS6.out.more (by omega)⟩
    · skip
      go_wp2_with fail
      refine HHA.out.mono ?_
      rintro e w5 ⟨cut, v1, v2, rfl, hT, hg5, hS5⟩
      have hsz5 : s + 1 ≤ w4.heap.size := by omega
      obtain ⟨A1, a1, e1, ha1, hRa, -⟩ := own_rd encEvt_len hT.r1
      obtain ⟨A2, a2, e2, ha2, hRb, hA2⟩ := own_rd encEvt_len hT.r2
      have hoa : ∀ x ∈ halfA cut l, okEv x := ok_filter HOK.out
      have hob : ∀ x ∈ halfB cut l, okEv x := ok_filter HOK.out
      have hla : (halfA cut l).length ≤ 10 := by have := List.length_filter_le (pA cut) l; have := HNL.out; unfold halfA; omega
      have hlb : (halfB cut l).length ≤ 10 := by have := List.length_filter_le (pB cut) l; have := HNL.out; unfold halfB; omega
      obtain ⟨la, hLa⟩ : ∃ la, la = halfA cut l := ⟨_, rfl⟩
      obtain ⟨lb, hLb⟩ : ∃ lb, lb = halfB cut l := ⟨_, rfl⟩
      rw [← hLa] at hT e1 ha1 hRa hoa hla
      rw [← hLb] at hT e2 ha2 hRb hob hlb
      subst e1
      subst e2
      have HT := hide hT
      have HG5 := hide hg5
      have HGW5 := hide (HG4.out.trans hg5)
      have HS5 := hide hS5
      have HRA := hide (hRa.low hsz5)
      have HRB := hide (hRb.low hsz5)
      have HOA := hide hoa
      have HOB := hide hob
      have HAA := hide ha1
      have hz5 := hg5.sz
      clear hT hg5 hS5 hRa hoa hob ha1 hLa hLb HHA
      rcases lb with _ | ⟨y, t⟩
      · clear hRb hA2
        go_wp2_with fail
        go_meet
        exact ⟨A1, A2, a1, a2, la, [], rfl, rfl, HRA.out, Rd.nil, HOA.out, fun x hx => (by simp at hx), hla, by simp, HAA.out, HGW5.out, HS5.out.more (by omega)⟩
      · obtain ⟨g2, off2, eA, hlo2, hgl2, hc2⟩ := hRb (by simp)
        obtain ⟨rfl, _, _, _⟩ := hA2 g2 off2 none eA
        subst eA
        obtain ⟨tl, htl⟩ : ∃ tl, tl = t.length := ⟨_, rfl⟩
        have HTL := hide htl
        have hll : (y :: t).length = tl + 1 := by rw [List.length_cons, htl]
        have HLL := hide hll
        rw [hll]
        have k4 : w5.cell? ⟨g2, 4, none⟩ = some (.string y.ride) := hc2 0 y rfl 4 _ rfl
        have htl10 : tl ≤ 10 := by simp at hlb; omega
        have q0 : (0 : Int) < (tl : Int) + 1 := by omega
        clear hRb hA2 hc2 htl hll
        go_upto_if 51 with (go_at_call 13; refine (w_Flip 4 s _ _ HS5.out (by omega) (by omega)).mono ?_; rintro e w6 ⟨bo, rfl, hg6, hS6⟩; (have HG6 := hide hg6); (have HS6 := hide hS6); clear hg6 hS6)
        have hz6 := HG6.out.sz
        have HR1 := hide (HRA.out.gr HG6.out (by omega))
        have ho2 := own_gr HT.out.r2 HG6.out (by omega)
        have ho1 := own_gr HT.out.r1 HG6.out (by omega)
        cases bo with
        | false =>
          go_wp2_with fail
          go_meet
          exact ⟨A1, _, a1, a2, la, y :: t, rfl, by rw [HLL.out], HR1.out, HRB.out.gr HG6.out (by omega), HOA.out, HOB.out, hla, hlb, HAA.out, HGW5.out.trans HG6.out, HS6.out.more (by omega)⟩
        | true =>
          have k6 := World.grownBy.cell (row := some s) HG6.out k4 (by simp; omega)
          have hgl6 : g2 < w6.heap.size := by omega
          have hfz : ∀ q, w6.frozen? ⟨g2, q, none⟩ = false := fun q => by
            obtain ⟨cur, hcur⟩ := own_cells ho2 rfl
            simp [World.frozen?, hcur]
          have ho7 := own_set encEvt_len rfl ho2 0 (by simp) 4 (by omega) (.string ⟨#[114, 113]⟩) { y with ride := ⟨#[114, 113]⟩ } rfl 4 rfl
          rw [show (y :: t).set 0 { y with ride := (⟨#[114, 113]⟩ : ByteArray) } = { y with ride := ⟨#[114, 113]⟩ } :: t from rfl] at ho7
          have hg7 : Gr g2 w6 (w6.setCell ⟨g2, 4, none⟩ (.string ⟨#[114, 113]⟩)) := (Gr.refl g2 w6).setS (p := ⟨g2, 4, none⟩) (.inl rfl) _
          have ho17 := ho1.kept hg7 (.inr (fun e => HT.out.apart g2 e rfl))
          obtain ⟨A7, a7, e7, ha7, hR7, -⟩ := own_rd encEvt_len ho17
          injection e7 with f1 f2 f3
          subst f1
          obtain ⟨A8, a8, e8, ha8, hR8, -⟩ := own_rd (xs := { y with ride := (⟨#[114, 113]⟩ : ByteArray) } :: t) encEvt_len ho7
          injection e8 with f4 f5 f6
          have HY := hide (show okEv { y with ride := (⟨#[114, 113]⟩ : ByteArray) } from by
            have hy := HOB.out y (by simp)
            exact ⟨hy.source, by show (⟨#[114, 113]⟩ : ByteArray).size ≤ 1000; decide, hy.car, hy.node, hy.from_, hy.no, hy.at_, hy.kind, hy.up, hy.down, hy.number⟩)
          have HR7 := hide (hR7.low hsz5)
          have HR8 := hide (hR8.low hsz5)
          have HF4 := hide f4
          have HG7 := hide ((HGW5.out.trans HG6.out).setS (p := ⟨g2, 4, none⟩) (.inr (show w.heap.size ≤ g2 by have := HSW.out; omega)) (.string ⟨#[114, 113]⟩))
          have HS7 := hide (HS6.out.row (row := some g2) hg7 (fun j h => by injection h with h; omega))
          clear f2 f3 f4 f5 f6 ho1 ho2 ho7 ho17 ha7 ha8 hR7 hR8 hg7
          go_wp2_with fail
          go_meet
          exact ⟨A1, _, a1, a2, la, { y with ride := ⟨#[114, 113]⟩ } :: t, rfl, by rw [List.length_cons, ← HTL.out], HR7.out, by rw [HF4.out]; exact HR8.out, HOA.out, fun x hx => by
            rcases List.mem_cons.1 hx with rfl | hx
            · exact HY.out
            · exact HOB.out x (List.mem_cons_of_mem _ hx), hla, by simp at hlb ⊢; omega, HAA.out, HG7.out, HS7.out.more (by omega)⟩
    · skip
      go_wp2_with fail
      refine HHA.out.mono ?_
      rintro e w5 ⟨cut, v1, v2, rfl, hT, hg5, hS5⟩
      have hsz5 : s + 1 ≤ w4.heap.size := by omega
      obtain ⟨A1, a1, e1, ha1, hRa, -⟩ := own_rd encEvt_len hT.r1
      obtain ⟨A2, a2, e2, ha2, hRb, hA2⟩ := own_rd encEvt_len hT.r2
      have hoa : ∀ x ∈ halfA cut l, okEv x := ok_filter HOK.out
      have hob : ∀ x ∈ halfB cut l, okEv x := ok_filter HOK.out
      have hla : (halfA cut l).length ≤ 10 := by have := List.length_filter_le (pA cut) l; have := HNL.out; unfold halfA; omega
      have hlb : (halfB cut l).length ≤ 10 := by have := List.length_filter_le (pB cut) l; have := HNL.out; unfold halfB; omega
      obtain ⟨la, hLa⟩ : ∃ la, la = halfA cut l := ⟨_, rfl⟩
      obtain ⟨lb, hLb⟩ : ∃ lb, lb = halfB cut l := ⟨_, rfl⟩
      rw [← hLa] at hT e1 ha1 hRa hoa hla
      rw [← hLb] at hT e2 ha2 hRb hob hlb
      subst e1
      subst e2
      have HT := hide hT
      have HG5 := hide hg5
      have HGW5 := hide (HG4.out.trans hg5)
      have HS5 := hide hS5
      have HRA := hide (hRa.low hsz5)
      have HRB := hide (hRb.low hsz5)
      have HOA := hide hoa
      have HOB := hide hob
      have HAA := hide ha1
      have hz5 := hg5.sz
      clear hT hg5 hS5 hRa hoa hob ha1 hLa hLb HHA
      rcases lb with _ | ⟨y, t⟩
      · clear hRb hA2
        go_wp2_with fail
        go_meet
        exact ⟨A1, A2, a1, a2, la, [], rfl, rfl, HRA.out, Rd.nil, HOA.out, fun x hx => (by simp at hx), hla, by simp, HAA.out, HGW5.out, HS5.out.more (by omega)⟩
      · obtain ⟨g2, off2, eA, hlo2, hgl2, hc2⟩ := hRb (by simp)
        obtain ⟨rfl, _, _, _⟩ := hA2 g2 off2 none eA
        subst eA
        obtain ⟨tl, htl⟩ : ∃ tl, tl = t.length := ⟨_, rfl⟩
        have HTL := hide htl
        have hll : (y :: t).length = tl + 1 := by rw [List.length_cons, htl]
        have HLL := hide hll
        rw [hll]
        have k4 : w5.cell? ⟨g2, 4, none⟩ = some (.string y.ride) := hc2 0 y rfl 4 _ rfl
        have htl10 : tl ≤ 10 := by simp at hlb; omega
        have q0 : (0 : Int) < (tl : Int) + 1 := by omega
        clear hRb hA2 hc2 htl hll
        go_upto_if 51 with (go_at_call 13; refine (w_Flip 4 s _ _ HS5.out (by omega) (by omega)).mono ?_; rintro e w6 ⟨bo, rfl, hg6, hS6⟩; (have HG6 := hide hg6); (have HS6 := hide hS6); clear hg6 hS6)
        have hz6 := HG6.out.sz
        have HR1 := hide (HRA.out.gr HG6.out (by omega))
        have ho2 := own_gr HT.out.r2 HG6.out (by omega)
        have ho1 := own_gr HT.out.r1 HG6.out (by omega)
        cases bo with
        | false =>
          go_wp2_with fail
          go_meet
          exact ⟨A1, _, a1, a2, la, y :: t, rfl, by rw [HLL.out], HR1.out, HRB.out.gr HG6.out (by omega), HOA.out, HOB.out, hla, hlb, HAA.out, HGW5.out.trans HG6.out, HS6.out.more (by omega)⟩
        | true =>
          have k6 := World.grownBy.cell (row := some s) HG6.out k4 (by simp; omega)
          have hgl6 : g2 < w6.heap.size := by omega
          have hfz : ∀ q, w6.frozen? ⟨g2, q, none⟩ = false := fun q => by
            obtain ⟨cur, hcur⟩ := own_cells ho2 rfl
            simp [World.frozen?, hcur]
          have ho7 := own_set encEvt_len rfl ho2 0 (by simp) 4 (by omega) (.string ⟨#[114, 113]⟩) { y with ride := ⟨#[114, 113]⟩ } rfl 4 rfl
          rw [show (y :: t).set 0 { y with ride := (⟨#[114, 113]⟩ : ByteArray) } = { y with ride := ⟨#[114, 113]⟩ } :: t from rfl] at ho7
          have hg7 : Gr g2 w6 (w6.setCell ⟨g2, 4, none⟩ (.string ⟨#[114, 113]⟩)) := (Gr.refl g2 w6).setS (p := ⟨g2, 4, none⟩) (.inl rfl) _
          have ho17 := ho1.kept hg7 (.inr (fun e => HT.out.apart g2 e rfl))
          obtain ⟨A7, a7, e7, ha7, hR7, -⟩ := own_rd encEvt_len ho17
          injection e7 with f1 f2 f3
          subst f1
          obtain ⟨A8, a8, e8, ha8, hR8, -⟩ := own_rd (xs := { y with ride := (⟨#[114, 113]⟩ : ByteArray) } :: t) encEvt_len ho7
          injection e8 with f4 f5 f6
          have HY := hide (show okEv { y with ride := (⟨#[114, 113]⟩ : ByteArray) } from by
            have hy := HOB.out y (by simp)
            exact ⟨hy.source, by show (⟨#[114, 113]⟩ : ByteArray).size ≤ 1000; decide, hy.car, hy.node, hy.from_, hy.no, hy.at_, hy.kind, hy.up, hy.down, hy.number⟩)
          have HR7 := hide (hR7.low hsz5)
          have HR8 := hide (hR8.low hsz5)
          have HF4 := hide f4
          have HG7 := hide ((HGW5.out.trans HG6.out).setS (p := ⟨g2, 4, none⟩) (.inr (show w.heap.size ≤ g2 by have := HSW.out; omega)) (.string ⟨#[114, 113]⟩))
          have HS7 := hide (HS6.out.row (row := some g2) hg7 (fun j h => by injection h with h; omega))
          clear f2 f3 f4 f5 f6 ho1 ho2 ho7 ho17 ha7 ha8 hR7 hR8 hg7
          go_wp2_with fail
          go_meet
          exact ⟨A1, _, a1, a2, la, { y with ride := ⟨#[114, 113]⟩ } :: t, rfl, by rw [List.length_cons, ← HTL.out], HR7.out, by rw [HF4.out]; exact HR8.out, HOA.out, fun x hx => by
            rcases List.mem_cons.1 hx with rfl | hx
            · exact HY.out
            · exact HOB.out x (List.mem_cons_of_mem _ hx), hla, by simp at hlb ⊢; omega, HAA.out, HG7.out, HS7.out.more (by omega)⟩
    · obtain ⟨A3, a3, e3, ha3, hR3, -⟩ := own_rd (xs := l) encEvt_len (by rw [← HNL.out]; exact HO4.out)
      have HR3 := hide (hR3.low (show s + 1 ≤ w2.heap.size by omega))
      subst e3
      clear hR3 HHA
      go_wp2_with fail
      go_meet
      exact ⟨B, A3, cB, a3, l, l, by rw [HNL.out], rfl, HR4.out, HR3.out, HOK.out, HOK.out, by have := HNL.out; omega, by have := HNL.out; omega, by have := HNL.out; omega, HG4.out, HS4.out.more (by omega)⟩
  case rest =>
  obtain ⟨A1, B1, a1, b1, la, lb, rfl, rfl, hRa, hRb, hoa, hob, hla, hlb, hca, hgw, hSs⟩ := hcut
  obtain ⟨w5, hw5⟩ : ∃ w5, w5 = wc := ⟨_, rfl⟩
  rw [← hw5] at hRa hRb hgw hSs ⊢
  have HRA := hide hRa
  have HRB := hide hRb
  have HOA := hide hoa
  have HOB := hide hob
  have HGW := hide hgw
  have HSS := hide hSs
  have hz5 := hgw.sz
  have HS1 := hide (show s + 1 ≤ w5.heap.size by have := hSs.lt; omega)
  obtain ⟨na, hna⟩ : ∃ na, na = la.length := ⟨_, rfl⟩
  obtain ⟨nb, hnb⟩ : ∃ nb, nb = lb.length := ⟨_, rfl⟩
  rw [← hna] at hla hca ⊢
  rw [← hnb] at hlb ⊢
  have HNA := hide hna
  have HNB := hide hnb
  clear hw5 hRa hRb hoa hob hgw hSs hna hnb HR4 HO4 HG4 HS4 HHA HOK HNL HSW2
  refine ‹∀ (a : Act) (w_1 : World), Code.wp _ _ _ a w_1 → _› _ _ ?_
  go_wp2_with fail
  refine (w_PickI _ [20, 100, 300] _ s _ _ (HSS.out.nx ((Nx.refl _).alloc _)) (by omega) (hnew rfl) (by have := HSS.out.lt; omega) rfl (by simp) (by simp)).mono ?_
  rintro e w6 ⟨at_, hm6, rfl, hg6, hS6⟩
  have hat : 0 ≤ at_ ∧ at_ ≤ 1000000 := by
    simp only [List.mem_cons, List.not_mem_nil, or_false] at hm6
    rcases hm6 with rfl | rfl | rfl <;> decide
  have HG6 := hide ((Gr.of_nx (s := s) ((Nx.refl w5).alloc _)).trans hg6)
  have HRA6 := hide (HRA.out.gr HG6.out (by omega))
  have HRB6 := hide (HRB.out.gr HG6.out (by omega))
  have HNE := hide (w_NewEvent (s + 1) A1 a1 la at_ s _ w6 HRA6.out (by omega) (by have := HS1.out; have := HG6.out.sz; omega) (by have := HNA.out; omega) (by have := HNA.out; omega) HOA.out hat hS6 (by omega))
  rw [← HNA.out] at HNE
  clear hm6 hg6 hS6 HRA HRB HSS hat
  go_wp2_with fail
  refine HNE.out.mono ?_
  rintro e w7 ⟨x, rfl, hxo, hg7, _⟩
  have HXO := hide hxo
  have HRA7 := hide (HRA6.out.gr hg7 (by omega))
  have HRB7 := hide (HRB6.out.gr hg7 (by omega))
  have HG7 := hide ((HGW.out.trans HG6.out).trans hg7)
  clear hxo hg7 HNE HRA6 HRB6 HGW HG6
  obtain ⟨w8, hw8⟩ : ∃ w8, w8 = w7.alloc (.cells (evA x) 31 (0, 0)) := ⟨_, rfl⟩
  obtain ⟨bx, hbx⟩ : ∃ bx, bx = w7.heap.size := ⟨_, rfl⟩
  have hn8 : Nx w7 w8 := hw8 ▸ (Nx.refl w7).alloc _
  have hb8 : w8.heap[bx]? = some (.cells (evA x) 31 (0, 0)) := by rw [hw8, hbx]; exact heap_alloc_new w7 _
  have hbl8 := (Array.getElem?_eq_some_iff.1 hb8).1
  have HT := hide (fun W (h : Nx w8 W) => Nx.of_gr ((HG7.out.then_nx hn8).then_nx h) (by have := HSW.out; omega))
  have HRA8 := hide (HRA7.out.nx hn8)
  have HRB8 := hide (HRB7.out.nx hn8)
  have HE1 := hide (fun W (h : Nx w8 W) => w_EventsFaultR (s + 1) A1 a1 la W (HRA8.out.nx h) (by have := HNA.out; omega) HOA.out)
  have HE2 := hide (fun W (h : Nx w8 W) => w_EventsFaultR (s + 1) B1 b1 lb W (HRB8.out.nx h) (by have := HNB.out; omega) HOB.out)
  have HC1 := hide (fun W (h : Nx w8 W) => w_CheckEvents (s + 1) A1 a1 la W (HRA8.out.nx h) (by have := HNA.out; omega) HOA.out)
  have HMG := hide (fun W (h : Nx w8 W) => w_Merge (s + 1) A1 B1 a1 b1 la lb W (HRA8.out.nx h) (HRB8.out.nx h) (by have := HNA.out; omega) (by have := HNB.out; omega) HOA.out HOB.out)
  have HLK := hide (fun W (h : Nx w8 W) => w_Lacks (s + 1) A1 B1 a1 b1 la lb W (HRA8.out.nx h) (HRB8.out.nx h) (by have := HNA.out; omega) (by have := HNB.out; omega) HOA.out HOB.out)
  have HWR := hide (fun W (h : Nx w8 W) => w_Write (s + 1) A1 a1 la x W (HRA8.out.nx h) (by have := HNA.out; omega) HOA.out HXO.out)
  have HMR := hide (fun W (h : Nx w8 W) (h1 : evsF la = 0) (h2 : evsF lb = 0) => w_EventsMerged (s + 1) A1 B1 a1 b1 la lb W (HRA8.out.nx h) (HRB8.out.nx h) (by have := HNA.out; omega) (by have := HNB.out; omega) HOA.out HOB.out h1 h2)
  have HWT := hide (fun W (h : Nx w8 W) (h1 : evsF la = 0) => w_EventWritten (s + 1) A1 a1 la x W (HRA8.out.nx h) (by have := HNA.out; omega) HOA.out HXO.out h1)
  have HLO := hide (fun W (h : Nx w8 W) => w_LacksOf (s + 1) A1 B1 a1 b1 la lb W (HRA8.out.nx h) (HRB8.out.nx h) (by have := HNA.out; omega) (by have := HNB.out; omega))
  unfold MergeEnd at HMG
  unfold LacksEnd at HLK
  unfold WriteEnd at HWR
  unfold MergedEnd at HMR
  unfold WrittenEnd at HWT
  have hFdef : mrgF la lb = if twoF la lb = 0 then mrgF1 la lb else twoF la lb := rfl
  have hGdef : writeF la x = if evsF la = 0 then wrF la x else evsF la := rfl
  have h2z : twoF la lb = 0 → evsF la = 0 ∧ evsF lb = 0 := fun h => twoF_zero.1 h
  obtain ⟨F, hF⟩ : ∃ F, F = mrgF la lb := ⟨_, rfl⟩
  obtain ⟨G, hG⟩ : ∃ G, G = writeF la x := ⟨_, rfl⟩
  obtain ⟨tw, htw⟩ : ∃ tw, tw = twoF la lb := ⟨_, rfl⟩
  obtain ⟨f1, hf1⟩ : ∃ f1, f1 = evsF la := ⟨_, rfl⟩
  obtain ⟨f2, hf2⟩ : ∃ f2, f2 = evsF lb := ⟨_, rfl⟩
  have HTO := hide (show orI [f1, f2] = tw by rw [htw, hf1, hf2]; rfl)
  rw [← hF] at HMG hFdef
  rw [← hG] at HWR hGdef
  rw [← htw] at HLK hFdef h2z
  rw [← hf1] at HE1 HC1 HMR HWT hGdef h2z
  rw [← hf2] at HE2 HMR h2z
  rw [← HNA.out] at HE1 HC1 HMG HLK HWR HMR HWT HLO
  rw [← HNB.out] at HE2 HMG HLK HMR HLO
  have HFD := hide hFdef
  have HGD := hide hGdef
  have H2Z := hide h2z
  have HN8 := hide hb8
  clear hn8 hb8 hF hG htw hf1 hf2 hFdef hGdef h2z HG7 HRA7 HRB7 HRA8 HRB8 HXO HOA HOB
  obtain ⟨xso, xno, xat, xki, xri, xca, xnd, xup, xdn, xfo, xnu⟩ := x
  unfold evA at HWR HWT hw8 HN8 ⊢
  simp only at HWR HWT hw8 HN8 ⊢
  have HXB := hide (fun W (h : Nx w8 W) => (show W.heap[bx]? = some (.cells #[.string xso, .int .i64 xno, .int .i64 xat, .int .i64 xki, .string xri, .string xca, .string xnd, .int .i64 xup, .int .i64 xdn, .string xfo, .int .i64 xnu] 31 (0, 0)) from (h.block _ hbl8).trans HN8.out))
  go_upto_region 13 with fail
  rw [← hw8, ← hbx]
  clear hw8 hbx HN8
  go_wp2_with fail
  refine (HE1.out _ (Nx.refl _)).mono ?_
  rintro e w9 ⟨rfl, hn9⟩
  have HN9 := hide hn9
  clear hn9 HE1
  go_wp2_with fail
  refine (HE2.out _ HN9.out).mono ?_
  rintro e w10 ⟨rfl, hn10⟩
  have HN10 := hide (HN9.out.trans hn10)
  clear hn10 HE2
  go_wp2_with fail
  refine (HC1.out _ HN10.out).mono ?_
  rintro e w11 ⟨rfl, hn11⟩
  have HN11 := hide (HN10.out.trans hn11)
  have tff : (f1 != f1) = false := by simp
  clear hn11 HC1
  go_upto_region 17 with (go_at_call 18; refine (w_Or2 f1 f2 _ 2 _ (hnew rfl)).mono ?_; rintro e w12 ⟨rfl, hw12⟩; rw [HTO.out]; (have hn12 : Nx w11 w12 := hw12 ▸ (Nx.refl w11).alloc _); (have HN12 := hide (HN11.out.trans hn12)); clear hw12 hn12)
  go_wp2_with fail
  refine (HMG.out _ HN12.out).mono ?_
  rintro e w13 ⟨⟨B13, m13, c13, rfl, h13a, h13b⟩, hn13⟩
  obtain ⟨Lm, hLm⟩ : ∃ Lm, Lm = if F = 0 then mrgS la lb else [] := ⟨_, rfl⟩
  have hm13 : m13 = Lm.length ∧ Rd w13 0 B13 11 encEvt Lm := by
    by_cases h : F = 0
    · obtain ⟨e1, e2⟩ := h13b h
      rw [hLm, if_pos h]; exact ⟨e1, e2.low (Nat.zero_le _)⟩
    · rw [hLm, if_neg h]; exact ⟨h13a h, Rd.nil⟩
  have HLM := hide hLm
  have HM13 := hide hm13
  have HN13 := hide (HN12.out.trans hn13)
  have hlm : m13 ≤ 1000 := by
    rw [hm13.1, hLm]
    split
    · have := (mrgS_sorted la lb).1.length_eq; have := mrgL_len la lb; have := HNA.out; have := HNB.out; omega
    · simp
  clear h13a h13b hn13 hLm hm13 HMG
  go_wp2_with fail
  refine (HLK.out _ HN13.out).mono ?_
  rintro e w14 ⟨⟨B14, m14, c14, rfl, h14a, h14b⟩, hn14⟩
  have H14a := hide h14a
  have H14b := hide h14b
  have HN14 := hide (HN13.out.trans hn14)
  have HM13' := hide (HM13.out.2.nx hn14)
  obtain ⟨d0, d1, d2, d3, d4, d5, d6, d7, d8, d9, d10⟩ := evb_cells (HXB.out _ HN14.out)
  have hbl14 := (Array.getElem?_eq_some_iff.1 (HXB.out _ HN14.out)).1
  have hZ14 := hn14.sz
  have HSELF := hide (show Nx w14 w14 from Nx.refl _)
  clear h14a h14b hn14 HLK
  go_wp2_with fail
  refine (HWR.out _ HN14.out).mono ?_
  rintro e w15 ⟨⟨B15, m15, c15, rfl, h15a, h15b⟩, hn15⟩
  obtain ⟨Lw, hLw⟩ : ∃ Lw, Lw = if G = 0 then la ++ [newE la ⟨xso, xno, xat, xki, xri, xca, xnd, xup, xdn, xfo, xnu⟩] else [] := ⟨_, rfl⟩
  have hm15 : m15 = Lw.length ∧ Rd w15 0 B15 11 encEvt Lw := by
    by_cases h : G = 0
    · obtain ⟨e1, _, e2⟩ := h15b h
      rw [hLw, if_pos h]; exact ⟨by rw [e1, List.length_append, ← HNA.out]; rfl, e2.low (Nat.zero_le _)⟩
    · rw [hLw, if_neg h]; exact ⟨h15a h, Rd.nil⟩
  have HLW := hide hLw
  have HM15 := hide hm15
  have HN15 := hide (HN14.out.trans hn15)
  have HM13'' := hide (HM13'.out.nx hn15)
  have HN145 := hide hn15
  have hlw : m15 ≤ 1000 := by
    rw [hm15.1, hLw]
    split
    · rw [List.length_append]; have := HNA.out; simp; omega
    · simp
  clear h15a h15b hn15 hLw hm15 HWR d0 d1 d2 d3 d4 d5 d6 d7 d8 d9 d10
  go_upto_if 93 with fail
  go_cut [16, 18] (fun v f wx => f = .int .i64 F ∧ (∃ (B : Option Addr) (c : Nat), v = .slice B m13 c ∧ Rd wx 0 B 11 encEvt Lm) ∧ Nx w15 wx)
  case first =>
    have hq : tw = 0 ∨ (tw == 0) = false := by simp; omega
    rcases hq with hq | hq
    · obtain ⟨h1, h2⟩ := H2Z.out hq
      have HF1 := hide (HFD.out.trans (if_pos hq))
      have HMR2 := hide (HMR.out _ HN15.out h1 h2)
      rw [← HF1.out] at HMR2
      subst hq
      clear h1 h2
      go_wp2_with fail
      refine HMR2.out.mono ?_
      rintro e w16 ⟨⟨B16, m16, c16, rfl, h16a, h16b⟩, hn16⟩
      have hm16 : m16 = m13 ∧ Rd w16 0 B16 11 encEvt Lm := by
        rw [HM13.out.1]
        by_cases h : F = 0
        · obtain ⟨e1, e2⟩ := h16b h
          rw [HLM.out, if_pos h]; exact ⟨e1, e2.low (Nat.zero_le _)⟩
        · rw [HLM.out, if_neg h]; exact ⟨h16a h, Rd.nil⟩
      obtain ⟨rfl, hR16⟩ := hm16
      have HR16 := hide hR16
      have HN16 := hide hn16
      clear h16a h16b hR16 hn16
      go_wp2_with fail
      go_meet
      exact ⟨rfl, ⟨B16, c16, rfl, HR16.out⟩, HN16.out⟩
    · have hne : tw ≠ 0 := by simpa using hq
      have HF1 := hide (HFD.out.trans (if_neg hne))
      have hL0 : Lm = [] := by rw [HLM.out, if_neg (by rw [HF1.out]; exact hne)]
      have hm0 : m13 = 0 := by rw [HM13.out.1, hL0]; rfl
      have HL0 := hide hL0
      have HM0 := hide hm0
      clear hne hL0 hm0
      go_wp2_with fail
      go_meet
      exact ⟨by rw [HF1.out], ⟨none, 0, by rw [HM0.out], by rw [HL0.out]; exact Rd.nil⟩, Nx.refl _⟩
  case rest =>
  obtain ⟨rfl, ⟨B16, c16, rfl, hR16⟩, hn16⟩ := hcut
  obtain ⟨w16, hw16⟩ : ∃ w16, w16 = wc := ⟨_, rfl⟩
  rw [← hw16] at hR16 hn16 ⊢
  have HR16 := hide hR16
  have HN16 := hide (HN15.out.trans hn16)
  have HN156 := hide hn16
  clear hw16 hR16 hn16 HMR
  refine ‹∀ (a : Act) (w_1 : World), Code.wp _ _ _ a w_1 → _› _ _ ?_
  obtain ⟨d0, d1, d2, d3, d4, d5, d6, d7, d8, d9, d10⟩ := evb_cells (HXB.out _ HN16.out)
  have hbl16 := (Array.getElem?_eq_some_iff.1 (HXB.out _ HN16.out)).1
  go_upto_if 101 with fail
  go_cut [17, 7] (fun v f wx => f = .int .i64 G ∧ (∃ (B : Option Addr) (c : Nat), v = .slice B m15 c ∧ Rd wx 0 B 11 encEvt Lw) ∧ Nx w16 wx)
  case first =>
    have hq : f1 = 0 ∨ (f1 == 0) = false := by simp; omega
    rcases hq with hq | hq
    · have HG1 := hide (HGD.out.trans (if_pos hq))
      have HWT2 := hide (HWT.out _ HN16.out hq)
      rw [← HG1.out] at HWT2
      subst hq
      go_wp2_with fail
      refine HWT2.out.mono ?_
      rintro e w17 ⟨⟨B17, m17, c17, rfl, h17a, h17b⟩, hn17⟩
      have hm17 : m17 = m15 ∧ Rd w17 0 B17 11 encEvt Lw := by
        rw [HM15.out.1]
        by_cases h : G = 0
        · obtain ⟨e1, e2⟩ := h17b h
          rw [HLW.out, if_pos h]; exact ⟨by rw [e1, List.length_append, ← HNA.out]; rfl, e2.low (Nat.zero_le _)⟩
        · rw [HLW.out, if_neg h]; exact ⟨h17a h, Rd.nil⟩
      obtain ⟨rfl, hR17⟩ := hm17
      have HR17 := hide hR17
      have HN17 := hide hn17
      clear h17a h17b hR17 hn17 d0 d1 d2 d3 d4 d5 d6 d7 d8 d9 d10
      go_wp2_with fail
      go_meet
      exact ⟨rfl, ⟨B17, c17, rfl, HR17.out⟩, HN17.out⟩
    · have hne : f1 ≠ 0 := by simpa using hq
      have HG1 := hide (HGD.out.trans (if_neg hne))
      have hL0 : Lw = [] := by rw [HLW.out, if_neg (by rw [HG1.out]; exact hne)]
      have hm0 : m15 = 0 := by rw [HM15.out.1, hL0]; rfl
      have HL0 := hide hL0
      have HM0 := hide hm0
      clear hne hL0 hm0 d0 d1 d2 d3 d4 d5 d6 d7 d8 d9 d10
      go_wp2_with fail
      go_meet
      exact ⟨by rw [HG1.out], ⟨none, 0, by rw [HM0.out], by rw [HL0.out]; exact Rd.nil⟩, Nx.refl _⟩
  case rest =>
  obtain ⟨rfl, ⟨B17, c17, rfl, hR17⟩, hn17⟩ := hcut
  obtain ⟨w17, hw17⟩ : ∃ w17, w17 = wc := ⟨_, rfl⟩
  rw [← hw17] at hR17 hn17 ⊢
  have HR17 := hide hR17
  have HN17 := hide (HN16.out.trans hn17)
  have HN167 := hide hn17
  clear hw17 hR17 hn17 HWT d0 d1 d2 d3 d4 d5 d6 d7 d8 d9 d10
  refine ‹∀ (a : Act) (w_1 : World), Code.wp _ _ _ a w_1 → _› _ _ ?_
  have HQ1 := hide (fun W (h : Nx w17 W) => (show Calls Tryz.prog 24 #[.slice B13 m13 c13, .slice B16 m13 c16] W fun e w' => e = .returned (.bool true) ∧ Nx W w' by
    have hl := hlm
    rw [HM13.out.1] at hl ⊢
    exact w_EqualEv 0 0 B13 B16 c13 c16 Lm W (HM13''.out.nx ((HN156.out.trans HN167.out).trans h)) (HR16.out.nx (HN167.out.trans h)) (by omega)))
  have HQ2 := hide (fun W (h : Nx w17 W) => (show Calls Tryz.prog 24 #[.slice B15 m15 c15, .slice B17 m15 c17] W fun e w' => e = .returned (.bool true) ∧ Nx W w' by
    have hl := hlw
    rw [HM15.out.1] at hl ⊢
    exact w_EqualEv 0 0 B15 B17 c15 c17 Lw W (HM15.out.2.nx ((HN156.out.trans HN167.out).trans h)) (HR17.out.nx h) (by omega)))
  have tF : (F != F) = false := by simp
  have tG : (G != G) = false := by simp
  go_upto_region 26 with fail
  go_cut [127] (fun v wx => v = .bool false ∧ Nx w17 wx)
  case first =>
    go_wp2_with fail
    refine (HQ1.out _ (Nx.refl _)).mono ?_
    rintro e w18 ⟨rfl, hn18⟩
    have HN18 := hide hn18
    clear hn18
    go_wp2_with fail
    refine (HQ2.out _ HN18.out).mono ?_
    rintro e w19 ⟨rfl, hn19⟩
    have HN19 := hide (HN18.out.trans hn19)
    clear hn19
    go_wp2_with fail
    go_meet
    exact ⟨by rfl, HN19.out⟩
  case rest =>
  obtain ⟨rfl, hn20⟩ := hcut
  obtain ⟨w20, hw20⟩ : ∃ w20, w20 = wc := ⟨_, rfl⟩
  rw [← hw20] at hn20 ⊢
  have HN20 := hide (HN17.out.trans hn20)
  have HN1420 := hide (((HN145.out.trans HN156.out).trans HN167.out).trans hn20)
  clear hw20 hn20 HQ1 HQ2 tF tG
  have hq : tw = 0 ∨ (tw != 0) = true := by simp; omega
  rcases hq with hq | hq
  · obtain ⟨em, hR14⟩ := H14b.out hq
    subst hq
    have HLO2 := hide (HLO.out _ HN20.out)
    have HR14 := hide ((hR14.low (Nat.zero_le _)).nx HN1420.out)
    have HEM := hide em
    have hl14 : m14 ≤ 1000 := by rw [em]; have := lacksL_len la lb; have := HNB.out; omega
    clear em hR14 H14a H14b HLO
    go_wp2_with fail
    refine HLO2.out.mono ?_
    rintro e w21 ⟨B21, m21, c21, rfl, em21, hR21, hn21⟩
    have HEQ := hide (show Calls Tryz.prog 24 #[.slice B14 m14 c14, .slice B21 m21 c21] w21 fun e w' => e = .returned (.bool true) ∧ Nx w21 w' by
      rw [em21, HEM.out]
      exact w_EqualEv 0 0 B14 B21 c14 c21 (lacksL la lb) w21 (HR14.out.nx hn21) hR21 (by rw [← HEM.out]; omega))
    have HN21 := hide (HN20.out.trans hn21)
    clear em21 hR21 hn21
    go_wp2_with (first
      | (go_at_call 24; refine HEQ.out.mono ?_; rintro e w22 ⟨rfl, hn22⟩; (have HN22 := hide (HN21.out.trans hn22)); clear hn22)
      | (go_at_call 25; refine (w_lived _).mono ?_; rintro e w23 ⟨rfl, hn23⟩))
    go_ret
    exact ⟨rfl, HT.out _ (HN22.out.trans hn23)⟩
  · have em := H14a.out (by simpa using hq)
    subst em
    have tt : (tw == tw) = true := by simp
    clear H14a H14b HLO
    go_wp2_with (go_at_call 25; refine (w_lived _).mono ?_; rintro e w23 ⟨rfl, hn23⟩)
    go_ret
    exact ⟨rfl, HT.out _ (HN20.out.trans hn23)⟩
end Go.Proofs.YtfkmbeppckelfaaGreatDoor
