/- Two lists of events merged, by the program. -/
import Derived.Test.YtfkmbeppckelfaaGreatDoorQG41
import Derived.Test.YtfkmbeppckelfaaGreatDoorQG38
import Derived.Test.YtfkmbeppckelfaaGreatDoorQG22
import Derived.Test.YtfkmbeppckelfaaGreatDoorQRfU
import Derived.Test.YtfkmbeppckelfaaGreatDoorQG26
import Derived.Test.YtfkmbeppckelfaaGreatDoorQG1
import Derived.StillTailTactics
namespace Go.Proofs.YtfkmbeppckelfaaGreatDoor
open Go.RowKit Go.Maps

def MergeEnd (a b : List Ev) (w : World) (e : Ending) (w' : World) : Prop :=
  (∃ (B : Option Addr) (m cb : Nat), e = .returned (.tuple #[.slice B m cb, .int .i64 (mrgF a b)]) ∧ (mrgF a b ≠ 0 → m = 0) ∧ (mrgF a b = 0 → m = (mrgS a b).length ∧ Rd w' w.heap.size B 11 encEvt (mrgS a b))) ∧ Nx w w'
theorem ok_mrg {a b : List Ev} (hoa : ∀ x ∈ a, okEv x) (hob : ∀ x ∈ b, okEv x) : ∀ x ∈ mrgS a b, okEv x := by
  intro x hx
  rcases List.mem_append.1 ((mrgS_sorted a b).1.mem_iff.1 hx) with h | h
  · exact hoa x h
  · exact hob x (List.mem_filter.1 h).1
theorem names_at {a : List Ev} (h : evsF a = 0) (x : Ev) : evNamesF a a.length ⟨x.source, x.no⟩ = (inA a x).map (fun i : Nat => (i : Int)) := nameM_tgt h x.source x.no
set_option maxRecDepth 100000 in
set_option maxHeartbeats 8000000 in
theorem w_Merge (lo : Nat) (A B : Option Addr) (c d : Nat) (a b : List Ev) (w : World) (hA : Rd w lo A 11 encEvt a) (hB : Rd w lo B 11 encEvt b) (hla : a.length ≤ 25) (hlb : b.length ≤ 25) (hoa : ∀ x ∈ a, okEv x) (hob : ∀ x ∈ b, okEv x) :
    Calls Tryz.prog 19 #[.slice A a.length c, .slice B b.length d] w (MergeEnd a b w) := by
  have hmm := @run_makeMap Tryz.prog
  have HC1 := hide (w_CheckEvents lo A c a w hA (by omega) hoa)
  have HC2 := hide (fun W (hn : Nx w W) => w_CheckEvents lo B d b W (hB.nx hn) (by omega) hob)
  have HBN := hide (fun W (hn : Nx w W) => w_byName lo A c a W (hA.nx hn) (by omega) hoa)
  have HCL := hide (fun W (hn : Nx w W) => w_CloneEv lo A c a W (hA.nx hn) (by omega))
  have HOKM := hide (ok_mrg hoa hob)
  have HLM := hide (mrgL_len a b)
  unfold MergeEnd
  obtain ⟨F, hF⟩ : ∃ F, F = mrgF a b := ⟨_, rfl⟩
  rw [← hF]
  have HFF := hide (show F = if orI [evsF a, evsF b] = 0 then mrgF1 a b else orI [evsF a, evsF b] from hF)
  have HZ := hide (show orI [evsF a, evsF b] = 0 → evsF a = 0 ∧ evsF b = 0 from fun h => twoF_zero.1 h)
  obtain ⟨f1, hf1⟩ : ∃ f1, f1 = evsF a := ⟨_, rfl⟩
  obtain ⟨f2, hf2⟩ : ∃ f2, f2 = evsF b := ⟨_, rfl⟩
  rw [← hf1] at HC1 HFF HZ
  rw [← hf2] at HC2 HFF HZ
  have HF1 := hide hf1
  have HF2 := hide hf2
  have HA := hide hA
  have HB := hide hB
  have HOA := hide hoa
  have HOB := hide hob
  obtain ⟨n, hn⟩ : ∃ n, n = a.length := ⟨_, rfl⟩
  obtain ⟨m, hm⟩ : ∃ m, m = b.length := ⟨_, rfl⟩
  rw [← hn] at HC1 HBN HCL hla ⊢
  rw [← hm] at HC2 hlb ⊢
  have HNN := hide hn
  have HMM := hide hm
  clear hA hB hoa hob hF hn hm hf1 hf2
  go_enter Tryz.func19, Tryz.ntmps19
  go_wp2_with fail
  refine HC1.out.mono ?_
  rintro e w1 ⟨rfl, hn1⟩
  have HC3 := hide (HC2.out w1 hn1)
  have HN1 := hide hn1
  clear hn1
  go_wp2_with fail
  refine HC3.out.mono ?_
  rintro e w2 ⟨rfl, hn2⟩
  have HN2 := hide (HN1.out.trans hn2)
  clear hn2
  go_wp2_with fail
  refine (w_First2 f1 f2 w2.heap.size 2 _ (hnew rfl)).mono ?_
  rintro e w3 ⟨rfl, hw3⟩
  obtain ⟨f, hf⟩ : ∃ f, f = orI [f1, f2] := ⟨_, rfl⟩
  rw [← hf] at HFF HZ ⊢
  have HN3 := hide (show Nx w w3 from hw3 ▸ HN2.out.alloc _)
  clear hw3 HC1 HC2 HC3 hf
  have hq : f = 0 ∨ (f != 0) = true := by simp; omega
  rcases hq with hq | hq
  · subst hq
    obtain ⟨hz1, hz2⟩ := HZ.out rfl
    have HE1 := hide (show evsF a = 0 from HF1.out ▸ hz1)
    have HE2 := hide (show evsF b = 0 from HF2.out ▸ hz2)
    have HF3 := hide (show F = mrgF1 a b from HFF.out.trans (if_pos rfl))
    clear hz1 hz2 HF1 HF2 HFF HZ
    have HBN3 := hide (HBN.out w3 HN3.out)
    go_wp2_with fail
    refine HBN3.out.mono ?_
    rintro e w4 ⟨rfl, hM4, hn4⟩
    obtain ⟨g, hg⟩ : ∃ g, g = w3.heap.size := ⟨_, rfl⟩
    rw [← hg] at hM4 ⊢
    have HG := hide hg
    have HN4 := hide (HN3.out.trans hn4)
    have HM4 := hide hM4
    have HCL4 := hide (HCL.out w4 HN4.out)
    clear hg hM4 hn4 HBN HBN3
    go_wp2_with fail
    refine HCL4.out.mono ?_
    rintro e w5 ⟨v5, rfl, hown5, hn5⟩
    have HN5 := hide (HN4.out.trans hn5)
    have HM5 := hide (HM4.out.nx hn5)
    have HO5 := hide hown5
    have HN45 := hide hn5
    have hz5 := HN4.out.sz
    have hg5 : g < w4.heap.size := HM4.out.lt
    clear hown5 hn5 HCL HCL4 hmm
    go_wp2_with fail
    go_loopw [8, 29] (fun v i wr => ∃ j : Nat, j ≤ m ∧ i = .int .i64 j ∧ wr.ownsRow w4.heap.size 31 11 v (mrgL a (b.take j)).length ((mrgL a (b.take j)).flatMap encEvt) ∧ (b.take j).any (clash a) = false ∧ MpNI wr g n (evNamesF a a.length) ∧ w4.heap.size ≤ wr.heap.size ∧ Nx w wr) (fun _ i _ => m - (intOf i).toNat)
    case atStart =>
      refine ⟨0, Nat.zero_le _, rfl, ?_, rfl, ?_, HN45.out.sz, HN5.out⟩
      · have e0 : mrgL a (b.take 0) = a := by simp [mrgL]
        rw [e0, ← HNN.out]; exact HO5.out
      · have := HM5.out; rw [HNN.out] at this ⊢; exact this
    case round =>
      obtain ⟨j, hj, rfl, hown, hcl, hM, hw4, hnx⟩ := hrel
      have HOW := hide hown
      have HNX := hide hnx
      have HCL := hide hcl
      have HM := hide hM
      have hgl : g < wr.heap.size := hM.lt
      clear hown hcl hM
      by_cases hlt : j < m
      · have hlt' : j < b.length := by have := HMM.out; omega
        obtain ⟨b1, off, rfl, _, hb, hbr, hc⟩ := HB.out.open_ hnx (by have := HMM.out; omega)
        obtain ⟨c0, c1, c2, c3, c4, c5, c6, c7, c8, c9, c10⟩ := ev_cells (hc j hlt')
        have hx := HOB.out b[j] (List.getElem_mem hlt')
        have HT := hide (mrg_take a b j hlt')
        have HCT := hide (clash_take a b j hlt')
        have HCA := hide (clash_at a b j hlt')
        have HLL := hide (show (mrgL a (b.take j)).length ≤ 50 by have := mrgL_len a (b.take j); have := List.length_take_le j b; have := HNN.out; have := HMM.out; omega)
        have hna := names_at HE1.out b[j]
        have hnw : newIn a b[j] = (inA a b[j]).isNone := rfl
        have hcd : clash a b[j] = match inA a b[j] with | none => false | some i => decide (a[i]? ≠ some b[j]) := rfl
        have hin : ∀ i, inA a b[j] = some i → ∃ y, a[i]? = some y ∧ y ∈ a := fun i h => by
          obtain ⟨y, hy, _⟩ := inA_some h; exact ⟨y, hy, List.mem_of_getElem? hy⟩
        clear hc hnx
        generalize newIn a b[j] = nw at *
        generalize clash a b[j] = cl at *
        generalize inA a b[j] = q at *
        generalize mrgL a (b.take j) = L at *
        generalize b[j] = x at *
        have hdn : domName ⟨x.source, x.no⟩ := ⟨domS_1000 hx.source, wf_15 hx.no⟩
        obtain ⟨kl, hkey⟩ := key_name ⟨x.source, x.no⟩ hdn
        have hlk := ((HM.out.nx ((Nx.refl wr).alloc (.cells (evA x) 31 (0, 0)))).look_ok intE law_name Tryz.underlying79 (z := (0 : Int)) (by decide) (zeroIntE _) hdn hkey).1
        rw [hna] at hlk
        unfold ekName at hlk
        have HX := hide hx
        clear hna hdn hkey hx
        cases q with
        | none =>
          have HT2 := hide (HT.out.trans (if_pos (by rw [hnw]; rfl)))
          have HCT2 := hide (HCT.out.trans (by rw [HCL.out, hcd] <;> rfl))
          clear hnw hcd hin HT HCT
          simp only [Option.map_none, Option.getD_none, Option.isSome_none] at hlk
          obtain ⟨so, no, at_, ki, ri, ca, nd, up, dn, fo, nu⟩ := x
          unfold evA at hlk
          simp only at c0 c1 c2 c3 c4 c5 c6 c7 c8 c9 c10 hlk
          have q1 : (0 : Int) ≤ (j : Int) := by omega
          have q2 : (j : Int) < (m : Int) := by omega
          go_wp2_with (at_builtin; refine wpApp rfl _ _ _ rfl el_Evt encEvt encEvt_len encEvt_one (by omega) (by omega) w4.heap.size _ L rfl (own_nx HOW.out (((Nx.refl wr).alloc _).alloc _)) _ ⟨so, no, at_, ki, ri, ca, nd, up, dn, fo, nu⟩ _ rfl (hnew (by simp)) rfl (by have := HLL.out; omega) (by simp; omega) ?_; intro v8 w8 hown8 hg8; (have HO8 := hide hown8); (have HG8 := hide hg8); clear hown8 hg8)
          go_roundw
          case rel =>
            refine ⟨j + 1, by omega, by go_num, by rw [HT2.out]; exact HO8.out, HCT2.out, ?_, by have := HG8.out.size; simp at this; omega, ((HNX.out.alloc _).alloc _).grown HG8.out (fun p hp => by have := own_blk_lt HOW.out p hp; omega)⟩
            exact (((HM.out.nx (((Nx.refl wr).alloc _).alloc _)).grown HG8.out (fun e => by have := own_blk_lt HOW.out g e.symm; omega)))
          case measure => simp [intOf]; omega
        | some i =>
          obtain ⟨y, hy, hym⟩ := hin i rfl
          obtain ⟨hil, ey⟩ := List.getElem?_eq_some_iff.1 hy
          have HT2 := hide (HT.out.trans (if_neg (by rw [hnw]; simp)))
          simp only [Option.map_some, Option.getD_some, Option.isSome_some] at hlk
          have hcd2 : cl = decide (y ≠ x) := by rw [hcd]; simp only [hy]; congr 1; simp
          obtain ⟨b2, off2, rfl, _, hb2, hbr2, hc2⟩ := HA.out.open_ HNX.out (by omega)
          obtain ⟨d0, d1, d2, d3, d4, d5, d6, d7, d8, d9, d10⟩ := ev_cells (hc2 i hil)
          rw [ey] at d0 d1 d2 d3 d4 d5 d6 d7 d8 d9 d10
          have hin' : i < n := by have := HNN.out; omega
          clear hnw hcd hin HT hc2 hy ey hym
          obtain ⟨dd, hdd⟩ : ∃ dd, dd = decide (y = x) := ⟨_, rfl⟩
          have hcd3 : cl = !dd := by rw [hcd2, hdd]; simp
          obtain ⟨so, no, at_, ki, ri, ca, nd, up, dn, fo, nu⟩ := x
          obtain ⟨yso, yno, yat, yki, yri, yca, ynd, yup, ydn, yfo, ynu⟩ := y
          unfold evA at hlk
          simp only at c0 c1 c2 c3 c4 c5 c6 c7 c8 c9 c10 d0 d1 d2 d3 d4 d5 d6 d7 d8 d9 d10 hlk
          have q1 : (0 : Int) ≤ (j : Int) := by omega
          have q2 : (j : Int) < (m : Int) := by omega
          have q3 : (0 : Int) ≤ (i : Int) := by omega
          have q4 : (i : Int) < (n : Int) := by omega
          have HCD := hide hcd3
          have hne : ∀ W, (binOp .neq 31 (.agg #[.string yso, .int .i64 yno, .int .i64 yat, .int .i64 yki, .string yri, .string yca, .string ynd, .int .i64 yup, .int .i64 ydn, .string yfo, .int .i64 ynu]) (.agg #[.string so, .int .i64 no, .int .i64 at_, .int .i64 ki, .string ri, .string ca, .string nd, .int .i64 up, .int .i64 dn, .string fo, .int .i64 nu])).run Tryz.prog W = .ok (.bool (!dd)) W := fun W => by rw [neq_Ev, ← hdd]
          clear hcd2 hcd3 hdd hil
          go_upto_region 12 with fail
          go_quiet (fail)
          cases dd
          · have HB2 := hide (HCA.out (by rw [HCD.out]; rfl))
            have HF4 := hide (show F = 13 by rw [HF3.out]; unfold mrgF1; rw [if_pos HB2.out])
            clear HCA
            go_wp2_with fail
            go_ret2
            exact ⟨⟨_, _, _, by rw [HF4.out] <;> rfl, fun _ => rfl, fun h => by rw [HF4.out] at h; cases h⟩, (HNX.out.alloc _).drewN _⟩
          · have HCT2 := hide (HCT.out.trans (by rw [HCL.out, HCD.out] <;> rfl))
            clear HCA HCT
            go_wp2_with fail
            go_roundw
            case rel =>
              exact ⟨j + 1, by omega, by go_num, by rw [HT2.out]; exact own_nx HOW.out (((Nx.refl wr).alloc _).drewN _), HCT2.out, HM.out.nx (((Nx.refl wr).alloc _).drewN _), by simp; omega, (HNX.out.alloc _).drewN _⟩
            case measure => simp [intOf]; omega
      · obtain rfl : j = m := by omega
        have ht : b.take j = b := List.take_of_length_le (by have := HMM.out; omega)
        rw [ht] at HOW HCL
        have hsu : ∀ S, SortedE (mrgL a b) S → S = mrgS a b := fun S hS => sorted_uniq (names_mrg HE1.out (names_right HE2.out)) hS (mrgS_sorted a b)
        have HSU := hide hsu
        have HF5 := hide (show F = evsF (mrgS a b) by rw [HF3.out]; unfold mrgF1; rw [if_neg (by unfold mrgB; rw [HCL.out]; decide)])
        have hll : (mrgL a b).length ≤ 50 := by have := HLM.out; have := HNN.out; have := HMM.out; omega
        have HSO := hide (w_SortEv wr rfl (by omega) HOW.out)
        clear hsu hnx
        go_upto_region 16 with (go_at_call 48; refine HSO.out.mono ?_; rintro e w6 ⟨rfl, ys, hs, ho, hg6⟩; (have HS := hide hs); (have HO := hide ho); (have HG6 := hide hg6); clear hs ho hg6)
        have hys := HSU.out ys HS.out
        have hyl : ys.length = (mrgL a b).length := HS.out.1.length_eq
        have ho := HO.out
        rw [← hyl] at ho
        obtain ⟨A9, c9, e9, hR9, _⟩ := Rd.of_own encEvt_len rfl ho
        have HN6 := hide (HNX.out.grown HG6.out (fun p hp => by have := own_blk_lt HOW.out p hp; omega))
        have hky := HOKM.out
        rw [← hys] at hky
        rw [← hys] at HF5
        have HCE := hide (w_CheckEvents _ A9 c9 ys w6 hR9 (by omega) hky)
        have HR9 := hide (hR9.low hz5)
        have HYS := hide hys
        clear hys hky ho hR9 hyl
        obtain ⟨f9, hf9⟩ : ∃ f9, f9 = evsF ys := ⟨_, rfl⟩
        rw [← hf9] at HCE HF5
        obtain ⟨yl, hyl⟩ : ∃ yl, yl = ys.length := ⟨_, rfl⟩
        rw [← hyl] at HCE e9
        have HYL := hide hyl
        have hF5 := HF5.out
        subst hF5
        subst e9
        clear hf9 hyl HF5
        go_wp2_with fail
        refine HCE.out.mono ?_
        rintro e w7 ⟨rfl, hn7⟩
        have HN7 := hide hn7
        clear hn7
        have hq : F = 0 ∨ (F != 0) = true := by simp; omega
        rcases hq with rfl | hq
        · go_wp2_with fail
          go_ret2
          exact ⟨⟨_, _, ⟨_, rfl⟩, by rw [← HYS.out]; exact HYL.out, by rw [← HYS.out]; exact HR9.out.nx HN7.out⟩, HN6.out.trans HN7.out⟩
        · have HQ := hide (show F ≠ 0 by simpa using hq)
          go_wp2_with fail
          go_ret2
          exact ⟨⟨_, _, _, rfl, fun _ => rfl, fun h => absurd h HQ.out⟩, HN6.out.trans HN7.out⟩
  · have HQ := hide (show f ≠ 0 by simpa using hq)
    have HF3 := hide (show F = f from HFF.out.trans (if_neg HQ.out))
    have hff := HF3.out
    subst hff
    clear HFF HF3
    go_wp2_with fail
    go_ret2
    exact ⟨⟨_, _, _, rfl, fun _ => rfl, fun h => absurd h HQ.out⟩, HN3.out⟩
end Go.Proofs.YtfkmbeppckelfaaGreatDoor
/- An event that is right by itself: the reference's check. -/
namespace Go.Proofs.YtfkmbeppckelfaaGreatDoor
open Go.RowKit

/-- What a kind uses lies in a variable of the reference. -/
def UseR (u1 u2 u3 u4 : Bool) (wa : World) (v3 : Value) (wx : World) : Prop :=
  ∃ q : Nat, v3 = .pointer (some ⟨q, 0, none⟩) ∧ q < wx.heap.size ∧ wx.cell? ⟨q, 0, none⟩ = some (.bool u1) ∧ wx.cell? ⟨q, 1, none⟩ = some (.bool u2) ∧ wx.cell? ⟨q, 2, none⟩ = some (.bool u3) ∧ wx.cell? ⟨q, 3, none⟩ = some (.bool u4) ∧ Nx wa wx
def bdF (u1 u2 u3 u4 : Bool) (ri ca nd fo : ByteArray) : Nat → Bool
  | 0 => u1 && !keyB ri
  | 1 => u2 && !keyB ca
  | 2 => u3 && !keyB nd
  | 3 => u4 && !keyB fo
  | _ => false
theorem bdF_some {u1 u2 u3 u4 : Bool} {ri ca nd fo : ByteArray} {x : Int} {k : Nat} (h : bdF u1 u2 u3 u4 ri ca nd fo k = true) : (if u1 = true ∧ keyB ri = false then 5 else if u2 = true ∧ keyB ca = false then 5 else if u3 = true ∧ keyB nd = false then 5 else if u4 = true ∧ keyB fo = false then 5 else x) = 5 := by
  rcases k with _ | _ | _ | _ | k <;> simp [bdF] at h <;> simp [h]
theorem bdF_none {u1 u2 u3 u4 : Bool} {ri ca nd fo : ByteArray} {x : Int} (h : ∀ j, j < 4 → bdF u1 u2 u3 u4 ri ca nd fo j = false) : (if u1 = true ∧ keyB ri = false then 5 else if u2 = true ∧ keyB ca = false then 5 else if u3 = true ∧ keyB nd = false then 5 else if u4 = true ∧ keyB fo = false then 5 else x) = x := by
  have a := h 0 (by omega)
  have b := h 1 (by omega)
  have c := h 2 (by omega)
  have d := h 3 (by omega)
  simp only [bdF] at a b c d
  cases u1 <;> cases u2 <;> cases u3 <;> cases u4 <;> cases hr : keyB ri <;> cases hc : keyB ca <;> cases hn : keyB nd <;> cases hf : keyB fo <;> simp_all
set_option maxRecDepth 100000 in
set_option maxHeartbeats 4000000 in
theorem w_RfE1 (so : ByteArray) (no at_ ki : Int) (ri ca nd : ByteArray) (up dn : Int) (fo : ByteArray) (nu : Int) (w : World) (hok : okEv ⟨so, no, at_, ki, ri, ca, nd, up, dn, fo, nu⟩) (h1 : keyB so = true) (h2 : outB no 1 3000 = false) (h3 : momB at_ = true) (h4 : outB ki 1 9 = false) :
    Calls Tryz.prog 42 #[.agg #[.string so, .int .i64 no, .int .i64 at_, .int .i64 ki, .string ri, .string ca, .string nd, .int .i64 up, .int .i64 dn, .string fo, .int .i64 nu]] w fun e w' => e = .returned (.int .i64 (evF ⟨so, no, at_, ki, ri, ca, nd, up, dn, fo, nu⟩)) ∧ Nx w w' := by
  have z1 : so.size ≤ 1000 := hok.source
  have z2 : ri.size ≤ 1000 := hok.ride
  have z3 : ca.size ≤ 1000 := hok.car
  have z4 : nd.size ≤ 1000 := hok.node
  have z5 : fo.size ≤ 1000 := hok.from_
  have hev := hide (evF_eq ⟨so, no, at_, ki, ri, ca, nd, up, dn, fo, nu⟩)
  simp only [h1, h2, h3, h4] at hev
  simp only [Bool.true_eq_false, Bool.false_eq_true, if_false, lastMo, uBook, uUndo] at hev
  have hlb : ∀ w, (binOp .neq 31 (.agg (evA ⟨so, no, at_, ki, ri, ca, nd, up, dn, fo, nu⟩)) (.agg (evA (leanE ⟨so, no, at_, ki, ri, ca, nd, up, dn, fo, nu⟩)))).run Tryz.prog w = .ok (.bool (!leanB ⟨so, no, at_, ki, ri, ca, nd, up, dn, fo, nu⟩)) w := fun w => by
    unfold evA
    rw [neq_Ev]; rfl
  have HLE := hide (fun W => w_leanEvent ⟨so, no, at_, ki, ri, ca, nd, up, dn, fo, nu⟩ W)
  have HU := hide (fun W => w_usesR ki W)
  have hq1 : inB no 1 3000 = true := by rw [inB_out, h2]; rfl
  have hq2 : inB ki 1 9 = true := by rw [inB_out, h4]; rfl
  have hq3 : momF at_ = 0 := by unfold momF argF; rw [h3]; rfl
  unfold evA at hlb HLE
  simp only at hlb HLE
  generalize evF ⟨so, no, at_, ki, ri, ca, nd, up, dn, fo, nu⟩ = ev at hev ⊢
  generalize leanB ⟨so, no, at_, ki, ri, ca, nd, up, dn, fo, nu⟩ = lb at hev hlb
  generalize leanE ⟨so, no, at_, ki, ri, ca, nd, up, dn, fo, nu⟩ = y at hlb HLE
  obtain ⟨T, hT⟩ : ∃ T : Int, T = if (ki == 1) = true ∧ outB up at_ 345686399999 = true then 1 else if (ki == 1) = true ∧ outB dn up 345686399999 = true then 1 else if (ki == 9) = true ∧ outB nu 1 3000 = true then 1 else if lb = true then 0 else 3 := ⟨_, rfl⟩
  have HT := hide hT
  have hev2 : ∀ b1 b2 b3 b4 : Bool, uRide ki = b1 → uCar ki = b2 → uNode ki = b3 → uUndo ki = b4 → ev = if b1 = true ∧ keyB ri = false then 5 else if b2 = true ∧ keyB ca = false then 5 else if b3 = true ∧ keyB nd = false then 5 else if b4 = true ∧ keyB fo = false then 5 else T := by
    rintro b1 b2 b3 b4 rfl rfl rfl rfl
    rw [hev.out, hT]; rfl
  clear hev hT
  obtain ⟨ub1, hu1⟩ : ∃ b, b = uRide ki := ⟨_, rfl⟩
  obtain ⟨ub2, hu2⟩ : ∃ b, b = uCar ki := ⟨_, rfl⟩
  obtain ⟨ub3, hu3⟩ : ∃ b, b = uNode ki := ⟨_, rfl⟩
  obtain ⟨ub4, hu4⟩ : ∃ b, b = uUndo ki := ⟨_, rfl⟩
  have hev := hide (hev2 ub1 ub2 ub3 ub4 hu1.symm hu2.symm hu3.symm hu4.symm)
  rw [← hu1, ← hu2, ← hu3, ← hu4] at HU
  clear hev2 hu1 hu2 hu3 hu4 h2 h4
  obtain ⟨wa, hwa⟩ : ∃ wa, wa = w.alloc (.cells #[.string so, .int .i64 no, .int .i64 at_, .int .i64 ki, .string ri, .string ca, .string nd, .int .i64 up, .int .i64 dn, .string fo, .int .i64 nu] 31 (0, 0)) := ⟨_, rfl⟩
  have hna : Nx w wa := hwa ▸ (Nx.refl w).alloc _
  obtain ⟨bx, hbx⟩ : ∃ bx, bx = w.heap.size := ⟨_, rfl⟩
  have hb1 : wa.heap[bx]? = some (.cells #[.string so, .int .i64 no, .int .i64 at_, .int .i64 ki, .string ri, .string ca, .string nd, .int .i64 up, .int .i64 dn, .string fo, .int .i64 nu] 31 (0, 0)) := by rw [hwa, hbx]; exact heap_alloc_new w _
  have hgw : bx < wa.heap.size := (Array.getElem?_eq_some_iff.1 hb1).1
  have a0 : wa.cell? ⟨bx, 0, none⟩ = some (.string so) := cell_of_row wa _ 0 _ _ _ hb1
  have hcs : ∀ W, Nx wa W → W.heap[bx]? = some (.cells #[.string so, .int .i64 no, .int .i64 at_, .int .i64 ki, .string ri, .string ca, .string nd, .int .i64 up, .int .i64 dn, .string fo, .int .i64 nu] 31 (0, 0)) := fun W hn => (hn.block _ hgw).trans hb1
  have HCS := hide hcs
  have HNA := hide hna
  clear hcs hna hb1 hok
  go_enter Tryz.func42, Tryz.ntmps42
  go_upto_region 1 with fail
  rw [← hwa, ← hbx]
  clear hwa hbx
  go_wp2_with fail
  refine (w_KeyR _ _ (by omega)).mono ?_
  rintro e w1 ⟨rfl, hn1⟩
  rw [h1]
  have hb := HCS.out w1 hn1
  have a1 : w1.cell? ⟨bx, 1, none⟩ = some (.int .i64 no) := cell_of_row w1 _ 1 _ _ _ hb
  have a2 : w1.cell? ⟨bx, 2, none⟩ = some (.int .i64 at_) := cell_of_row w1 _ 2 _ _ _ hb
  have a3 : w1.cell? ⟨bx, 3, none⟩ = some (.int .i64 ki) := cell_of_row w1 _ 3 _ _ _ hb
  have a4 : w1.cell? ⟨bx, 4, none⟩ = some (.string ri) := cell_of_row w1 _ 4 _ _ _ hb
  have a5 : w1.cell? ⟨bx, 5, none⟩ = some (.string ca) := cell_of_row w1 _ 5 _ _ _ hb
  have a6 : w1.cell? ⟨bx, 6, none⟩ = some (.string nd) := cell_of_row w1 _ 6 _ _ _ hb
  have a9 : w1.cell? ⟨bx, 9, none⟩ = some (.string fo) := cell_of_row w1 _ 9 _ _ _ hb
  have HN1 := hide hn1
  have hg1 : bx < w1.heap.size := by have := hn1.sz; omega
  clear hb hn1 a0 h1
  go_upto_region 7 with (first
    | (go_at_call 78; refine (w_in _ _ _ _).mono ?_; rintro e w' ⟨rfl, rfl⟩)
    | (go_at_call 79; refine (w_MomentFault _ _).mono ?_; rintro e w' ⟨rfl, rfl⟩))
  go_cut [3] (fun v3 wx => UseR ub1 ub2 ub3 ub4 w1 v3 wx)
  case first =>
    have HH := hide h3
    clear h3 a1 a2 a4 a5 a6 a9
    go_wp2_with (go_at_call 80; refine (HU.out _).mono ?_; rintro e w2 ⟨rfl, hn2⟩)
    go_meet
    refine ⟨w2.heap.size, rfl, by simp, by go_simp, by go_simp, by go_simp, by go_simp, ?_⟩
    exact hn2.alloc _
  case rest =>
    obtain ⟨q, rfl, hq1, q1, q2, q3, q4, hnx⟩ := hcut
    have c4 := nx_cell hnx hg1 a4
    have c5 := nx_cell hnx hg1 a5
    have c6 := nx_cell hnx hg1 a6
    have c9 := nx_cell hnx hg1 a9
    have HNX := hide hnx
    have hg2 : bx < wc.heap.size := by have := hnx.sz; omega
    clear a1 a2 a3 a4 a5 a6 a9 hnx
    go_wp2_with fail
    obtain ⟨w3, hw3⟩ : ∃ w3, w3 = wc.alloc (.cells #[.string ri, .string ca, .string nd, .string fo] 9) := ⟨_, rfl⟩
    obtain ⟨b, hbb⟩ : ∃ b, b = wc.heap.size := ⟨_, rfl⟩
    have hb3 : w3.heap[b]? = some (.cells #[.string ri, .string ca, .string nd, .string fo] 9) := by rw [hw3, hbb]; exact heap_alloc_new wc _
    have hn3 : Nx wc w3 := hw3 ▸ (Nx.refl wc).alloc _
    rw [← hw3, ← hbb]
    have b0 : w3.cell? ⟨b, 0, none⟩ = some (.string ri) := cell_of_row w3 _ 0 _ _ _ hb3
    have b1 : w3.cell? ⟨b, 1, none⟩ = some (.string ca) := cell_of_row w3 _ 1 _ _ _ hb3
    have b2 : w3.cell? ⟨b, 2, none⟩ = some (.string nd) := cell_of_row w3 _ 2 _ _ _ hb3
    have b3 : w3.cell? ⟨b, 3, none⟩ = some (.string fo) := cell_of_row w3 _ 3 _ _ _ hb3
    have hg3 : b < w3.heap.size := (Array.getElem?_eq_some_iff.1 hb3).1
    have hq3' : q < w3.heap.size := by have := hn3.sz; omega
    have e0 := nx_cell hn3 hq1 q1
    have e1 := nx_cell hn3 hq1 q2
    have e2 := nx_cell hn3 hq1 q3
    have e3 := nx_cell hn3 hq1 q4
    have B0 := hide b0
    have B1 := hide b1
    have B2 := hide b2
    have B3 := hide b3
    have E0 := hide e0
    have E1 := hide e1
    have E2 := hide e2
    have E3 := hide e3
    have HN3 := hide (((HNA.out.trans HN1.out).trans HNX.out).trans hn3)
    have HNE := hide ((HN1.out.trans HNX.out).trans hn3)
    clear hw3 hbb hb3 hn3 b0 b1 b2 b3 e0 e1 e2 e3 q1 q2 q3 q4 hq1 c4 c5 c6 c9
    go_loopw [40] (fun i wr => ∃ k : Nat, k ≤ 4 ∧ i = .int .i64 k ∧ Nx w3 wr ∧ ∀ j, j < k → bdF ub1 ub2 ub3 ub4 ri ca nd fo j = false) (fun i _ => 4 - (intOf i).toNat)
    case atStart => exact ⟨0, by omega, rfl, Nx.refl _, fun j h => absurd h (by omega)⟩
    case round =>
      obtain ⟨k, hk, rfl, hnr, hall⟩ := hrel
      have HALL := hide hall
      have HNR := hide hnr
      have b0 := nx_cell hnr hg3 B0.out
      have b1 := nx_cell hnr hg3 B1.out
      have b2 := nx_cell hnr hg3 B2.out
      have b3 := nx_cell hnr hg3 B3.out
      have e0 := nx_cell hnr hq3' E0.out
      have e1 := nx_cell hnr hq3' E1.out
      have e2 := nx_cell hnr hq3' E2.out
      have e3 := nx_cell hnr hq3' E3.out
      clear hall hnr
      have hkk : k = 0 ∨ k = 1 ∨ k = 2 ∨ k = 3 ∨ k = 4 := by omega
      rcases hkk with rfl | rfl | rfl | rfl | rfl
      · cases ub1 with
        | false =>
          go_wp2_with fail
          go_roundw
          case rel =>
            refine ⟨1, by omega, by go_num, HNR.out, fun j hj => ?_⟩
            by_cases hj2 : j < 0
            · exact HALL.out j hj2
            · have hj3 : j = 0 := by omega
              subst hj3; simp [bdF]
          case measure => simp [intOf]
        | true =>
          cases hkb : keyB ri with
          | false =>
            have hv := hide (show ev = 5 by rw [hev.out]; exact bdF_some (k := 0) (by simp [bdF, hkb]))
            go_wp2_with (go_at_call 77; refine (w_KeyR _ _ (by omega)).mono ?_; rintro e w5 ⟨rfl, hn5⟩; rw [hkb])
            go_ret
            exact ⟨by rw [hv.out] <;> rfl, (HN3.out.trans HNR.out).trans hn5⟩
          | true =>
            go_wp2_with (go_at_call 77; refine (w_KeyR _ _ (by omega)).mono ?_; rintro e w5 ⟨rfl, hn5⟩; rw [hkb]; have HN5 := hide hn5)
            go_roundw
            case rel =>
              refine ⟨1, by omega, by go_num, HNR.out.trans HN5.out, fun j hj => ?_⟩
              by_cases hj2 : j < 0
              · exact HALL.out j hj2
              · have hj3 : j = 0 := by omega
                subst hj3; simp [bdF, hkb]
            case measure => simp [intOf]
      · cases ub2 with
        | false =>
          go_wp2_with fail
          go_roundw
          case rel =>
            refine ⟨2, by omega, by go_num, HNR.out, fun j hj => ?_⟩
            by_cases hj2 : j < 1
            · exact HALL.out j hj2
            · have hj3 : j = 1 := by omega
              subst hj3; simp [bdF]
          case measure => simp [intOf]
        | true =>
          cases hkb : keyB ca with
          | false =>
            have hv := hide (show ev = 5 by rw [hev.out]; exact bdF_some (k := 1) (by simp [bdF, hkb]))
            go_wp2_with (go_at_call 77; refine (w_KeyR _ _ (by omega)).mono ?_; rintro e w5 ⟨rfl, hn5⟩; rw [hkb])
            go_ret
            exact ⟨by rw [hv.out] <;> rfl, (HN3.out.trans HNR.out).trans hn5⟩
          | true =>
            go_wp2_with (go_at_call 77; refine (w_KeyR _ _ (by omega)).mono ?_; rintro e w5 ⟨rfl, hn5⟩; rw [hkb]; have HN5 := hide hn5)
            go_roundw
            case rel =>
              refine ⟨2, by omega, by go_num, HNR.out.trans HN5.out, fun j hj => ?_⟩
              by_cases hj2 : j < 1
              · exact HALL.out j hj2
              · have hj3 : j = 1 := by omega
                subst hj3; simp [bdF, hkb]
            case measure => simp [intOf]
      · cases ub3 with
        | false =>
          go_wp2_with fail
          go_roundw
          case rel =>
            refine ⟨3, by omega, by go_num, HNR.out, fun j hj => ?_⟩
            by_cases hj2 : j < 2
            · exact HALL.out j hj2
            · have hj3 : j = 2 := by omega
              subst hj3; simp [bdF]
          case measure => simp [intOf]
        | true =>
          cases hkb : keyB nd with
          | false =>
            have hv := hide (show ev = 5 by rw [hev.out]; exact bdF_some (k := 2) (by simp [bdF, hkb]))
            go_wp2_with (go_at_call 77; refine (w_KeyR _ _ (by omega)).mono ?_; rintro e w5 ⟨rfl, hn5⟩; rw [hkb])
            go_ret
            exact ⟨by rw [hv.out] <;> rfl, (HN3.out.trans HNR.out).trans hn5⟩
          | true =>
            go_wp2_with (go_at_call 77; refine (w_KeyR _ _ (by omega)).mono ?_; rintro e w5 ⟨rfl, hn5⟩; rw [hkb]; have HN5 := hide hn5)
            go_roundw
            case rel =>
              refine ⟨3, by omega, by go_num, HNR.out.trans HN5.out, fun j hj => ?_⟩
              by_cases hj2 : j < 2
              · exact HALL.out j hj2
              · have hj3 : j = 2 := by omega
                subst hj3; simp [bdF, hkb]
            case measure => simp [intOf]
      · cases ub4 with
        | false =>
          go_wp2_with fail
          go_roundw
          case rel =>
            refine ⟨4, by omega, by go_num, HNR.out, fun j hj => ?_⟩
            by_cases hj2 : j < 3
            · exact HALL.out j hj2
            · have hj3 : j = 3 := by omega
              subst hj3; simp [bdF]
          case measure => simp [intOf]
        | true =>
          cases hkb : keyB fo with
          | false =>
            have hv := hide (show ev = 5 by rw [hev.out]; exact bdF_some (k := 3) (by simp [bdF, hkb]))
            go_wp2_with (go_at_call 77; refine (w_KeyR _ _ (by omega)).mono ?_; rintro e w5 ⟨rfl, hn5⟩; rw [hkb])
            go_ret
            exact ⟨by rw [hv.out] <;> rfl, (HN3.out.trans HNR.out).trans hn5⟩
          | true =>
            go_wp2_with (go_at_call 77; refine (w_KeyR _ _ (by omega)).mono ?_; rintro e w5 ⟨rfl, hn5⟩; rw [hkb]; have HN5 := hide hn5)
            go_roundw
            case rel =>
              refine ⟨4, by omega, by go_num, HNR.out.trans HN5.out, fun j hj => ?_⟩
              by_cases hj2 : j < 3
              · exact HALL.out j hj2
              · have hj3 : j = 3 := by omega
                subst hj3; simp [bdF, hkb]
            case measure => simp [intOf]
      · rw [bdF_none (fun j hj => HALL.out j hj)] at hev
        have hcs := HCS.out wr (HNE.out.trans HNR.out)
        have a0 : wr.cell? ⟨bx, 0, none⟩ = some (.string so) := cell_of_row wr _ 0 _ _ _ hcs
        have a1 : wr.cell? ⟨bx, 1, none⟩ = some (.int .i64 no) := cell_of_row wr _ 1 _ _ _ hcs
        have a4 : wr.cell? ⟨bx, 4, none⟩ = some (.string ri) := cell_of_row wr _ 4 _ _ _ hcs
        have a5 : wr.cell? ⟨bx, 5, none⟩ = some (.string ca) := cell_of_row wr _ 5 _ _ _ hcs
        have a6 : wr.cell? ⟨bx, 6, none⟩ = some (.string nd) := cell_of_row wr _ 6 _ _ _ hcs
        have a9 : wr.cell? ⟨bx, 9, none⟩ = some (.string fo) := cell_of_row wr _ 9 _ _ _ hcs
        have a2 : wr.cell? ⟨bx, 2, none⟩ = some (.int .i64 at_) := cell_of_row wr _ 2 _ _ _ hcs
        have a3 : wr.cell? ⟨bx, 3, none⟩ = some (.int .i64 ki) := cell_of_row wr _ 3 _ _ _ hcs
        have a7 : wr.cell? ⟨bx, 7, none⟩ = some (.int .i64 up) := cell_of_row wr _ 7 _ _ _ hcs
        have a8 : wr.cell? ⟨bx, 8, none⟩ = some (.int .i64 dn) := cell_of_row wr _ 8 _ _ _ hcs
        have a10 : wr.cell? ⟨bx, 10, none⟩ = some (.int .i64 nu) := cell_of_row wr _ 10 _ _ _ hcs
        clear b0 b1 b2 b3 e0 e1 e2 e3
        have HEV := hide (hev.out.trans HT.out)
        clear hev
        have HNW := hide (HN3.out.trans HNR.out)
        have hg5 : bx < wr.heap.size := (Array.getElem?_eq_some_iff.1 hcs).1
        have HC5 := hide hcs
        clear hcs
        go_upto_region 14 with fail
        cases hA : (ki == 1) with
        | true =>
          have h9 : (ki == 9) = false := by have : ki = 1 := by simpa using hA
                                            subst this; rfl
          have i1 : inB up at_ 345686399999 = !outB up at_ 345686399999 := inB_out _ _ _
          have i2 : inB dn up 345686399999 = !outB dn up 345686399999 := inB_out _ _ _
          cases g1 : outB up at_ 345686399999 with
          | true =>
            rw [g1] at i1
            have hv := hide (show ev = 1 by rw [HEV.out]; simp [hA, g1])
            clear hlb
            go_wp2_with (first | (go_at_call 78; refine (w_in _ _ _ _).mono ?_; rintro e w' ⟨rfl, rfl⟩))
            go_ret
            exact ⟨by rw [hv.out] <;> rfl, HNW.out⟩
          | false =>
            rw [g1] at i1
            cases g2 : outB dn up 345686399999 with
            | true =>
              rw [g2] at i2
              have hv := hide (show ev = 1 by rw [HEV.out]; simp [hA, g1, g2])
              clear hlb
              go_wp2_with (first | (go_at_call 78; refine (w_in _ _ _ _).mono ?_; rintro e w' ⟨rfl, rfl⟩))
              go_ret
              exact ⟨by rw [hv.out] <;> rfl, HNW.out⟩
            | false =>
              rw [g2] at i2
              go_upto_region 18 with (first | (go_at_call 78; refine (w_in _ _ _ _).mono ?_; rintro e w' ⟨rfl, rfl⟩))
              go_cut [84] (fun v wx => v = .bool (!lb) ∧ Nx wr wx)
              case first =>
                go_region_with (go_at_call 81; refine (HLE.out _).mono ?_; rintro e w5 ⟨rfl, hn5⟩; have hw5 : Nx wr w5 := (Nx.refl wr).drew.trans hn5; have f0 := nx_cell hw5 hg5 a0; have f1 := nx_cell hw5 hg5 a1; have f2 := nx_cell hw5 hg5 a2; have f3 := nx_cell hw5 hg5 a3; have f4 := nx_cell hw5 hg5 a4; have f5 := nx_cell hw5 hg5 a5; have f6 := nx_cell hw5 hg5 a6; have f7 := nx_cell hw5 hg5 a7; have f8 := nx_cell hw5 hg5 a8; have f9 := nx_cell hw5 hg5 a9; have f10 := nx_cell hw5 hg5 a10)
                all_goals (go_wp2; go_meet)
                all_goals exact ⟨rfl, by assumption⟩
              case rest =>
                obtain ⟨rfl, hnc⟩ := hcut
                cases lb with
                | false =>
                  have hv := hide (show ev = 3 by rw [HEV.out]; simp [hA, g1, g2, h9])
                  go_wp2_with fail
                  go_ret
                  exact ⟨by rw [hv.out] <;> rfl, HNW.out.trans hnc⟩
                | true =>
                  have hv := hide (show ev = 0 by rw [HEV.out]; simp [hA, g1, g2, h9])
                  go_wp2_with fail
                  go_ret
                  exact ⟨by rw [hv.out] <;> rfl, HNW.out.trans hnc⟩
        | false =>
          cases h9 : (ki == 9) with
          | true =>
            have i1 : inB nu 1 3000 = !outB nu 1 3000 := inB_out _ _ _
            cases g1 : outB nu 1 3000 with
            | true =>
              rw [g1] at i1
              have hv := hide (show ev = 1 by rw [HEV.out]; simp [hA, h9, g1])
              clear hlb
              go_wp2_with (first | (go_at_call 78; refine (w_in _ _ _ _).mono ?_; rintro e w' ⟨rfl, rfl⟩))
              go_ret
              exact ⟨by rw [hv.out] <;> rfl, HNW.out⟩
            | false =>
              rw [g1] at i1
              go_upto_region 18 with (first | (go_at_call 78; refine (w_in _ _ _ _).mono ?_; rintro e w' ⟨rfl, rfl⟩))
              go_cut [84] (fun v wx => v = .bool (!lb) ∧ Nx wr wx)
              case first =>
                go_region_with (go_at_call 81; refine (HLE.out _).mono ?_; rintro e w5 ⟨rfl, hn5⟩; have hw5 : Nx wr w5 := (Nx.refl wr).drew.trans hn5; have f0 := nx_cell hw5 hg5 a0; have f1 := nx_cell hw5 hg5 a1; have f2 := nx_cell hw5 hg5 a2; have f3 := nx_cell hw5 hg5 a3; have f4 := nx_cell hw5 hg5 a4; have f5 := nx_cell hw5 hg5 a5; have f6 := nx_cell hw5 hg5 a6; have f7 := nx_cell hw5 hg5 a7; have f8 := nx_cell hw5 hg5 a8; have f9 := nx_cell hw5 hg5 a9; have f10 := nx_cell hw5 hg5 a10)
                all_goals (go_wp2; go_meet)
                all_goals exact ⟨rfl, by assumption⟩
              case rest =>
                obtain ⟨rfl, hnc⟩ := hcut
                cases lb with
                | false =>
                  have hv := hide (show ev = 3 by rw [HEV.out]; simp [hA, h9, g1])
                  go_wp2_with fail
                  go_ret
                  exact ⟨by rw [hv.out] <;> rfl, HNW.out.trans hnc⟩
                | true =>
                  have hv := hide (show ev = 0 by rw [HEV.out]; simp [hA, h9, g1])
                  go_wp2_with fail
                  go_ret
                  exact ⟨by rw [hv.out] <;> rfl, HNW.out.trans hnc⟩
          | false =>
            go_upto_region 18 with (first | (go_at_call 78; refine (w_in _ _ _ _).mono ?_; rintro e w' ⟨rfl, rfl⟩))
            go_cut [84] (fun v wx => v = .bool (!lb) ∧ Nx wr wx)
            case first =>
              go_region_with (go_at_call 81; refine (HLE.out _).mono ?_; rintro e w5 ⟨rfl, hn5⟩; have hw5 : Nx wr w5 := (Nx.refl wr).drew.trans hn5; have f0 := nx_cell hw5 hg5 a0; have f1 := nx_cell hw5 hg5 a1; have f2 := nx_cell hw5 hg5 a2; have f3 := nx_cell hw5 hg5 a3; have f4 := nx_cell hw5 hg5 a4; have f5 := nx_cell hw5 hg5 a5; have f6 := nx_cell hw5 hg5 a6; have f7 := nx_cell hw5 hg5 a7; have f8 := nx_cell hw5 hg5 a8; have f9 := nx_cell hw5 hg5 a9; have f10 := nx_cell hw5 hg5 a10)
              all_goals (go_wp2; go_meet)
              all_goals exact ⟨rfl, by assumption⟩
            case rest =>
              obtain ⟨rfl, hnc⟩ := hcut
              cases lb with
              | false =>
                have hv := hide (show ev = 3 by rw [HEV.out]; simp [hA, h9])
                go_wp2_with fail
                go_ret
                exact ⟨by rw [hv.out] <;> rfl, HNW.out.trans hnc⟩
              | true =>
                have hv := hide (show ev = 0 by rw [HEV.out]; simp [hA, h9])
                go_wp2_with fail
                go_ret
                exact ⟨by rw [hv.out] <;> rfl, HNW.out.trans hnc⟩
end Go.Proofs.YtfkmbeppckelfaaGreatDoor
/- An event that is not right by itself: the reference's check; and both joined. -/
namespace Go.Proofs.YtfkmbeppckelfaaGreatDoor
open Go.RowKit

set_option maxRecDepth 100000 in
set_option maxHeartbeats 4000000 in
theorem w_RfE0 (so : ByteArray) (no at_ ki : Int) (ri ca nd : ByteArray) (up dn : Int) (fo : ByteArray) (nu : Int) (w : World) (hok : okEv ⟨so, no, at_, ki, ri, ca, nd, up, dn, fo, nu⟩) (hbad : keyB so = false ∨ outB no 1 3000 = true ∨ momB at_ = false ∨ outB ki 1 9 = true) :
    Calls Tryz.prog 42 #[.agg #[.string so, .int .i64 no, .int .i64 at_, .int .i64 ki, .string ri, .string ca, .string nd, .int .i64 up, .int .i64 dn, .string fo, .int .i64 nu]] w fun e w' => e = .returned (.int .i64 (evF ⟨so, no, at_, ki, ri, ca, nd, up, dn, fo, nu⟩)) ∧ Nx w w' := by
  have z1 : so.size ≤ 1000 := hok.source
  have hev := hide (evF_eq ⟨so, no, at_, ki, ri, ca, nd, up, dn, fo, nu⟩)
  simp only at hev
  generalize evF ⟨so, no, at_, ki, ri, ca, nd, up, dn, fo, nu⟩ = ev at hev ⊢
  obtain ⟨wa, hwa⟩ : ∃ wa, wa = w.alloc (.cells #[.string so, .int .i64 no, .int .i64 at_, .int .i64 ki, .string ri, .string ca, .string nd, .int .i64 up, .int .i64 dn, .string fo, .int .i64 nu] 31 (0, 0)) := ⟨_, rfl⟩
  have hna : Nx w wa := hwa ▸ (Nx.refl w).alloc _
  obtain ⟨bx, hbx⟩ : ∃ bx, bx = w.heap.size := ⟨_, rfl⟩
  have hb1 : wa.heap[bx]? = some (.cells #[.string so, .int .i64 no, .int .i64 at_, .int .i64 ki, .string ri, .string ca, .string nd, .int .i64 up, .int .i64 dn, .string fo, .int .i64 nu] 31 (0, 0)) := by rw [hwa, hbx]; exact heap_alloc_new w _
  have hgw : bx < wa.heap.size := (Array.getElem?_eq_some_iff.1 hb1).1
  have a0 : wa.cell? ⟨bx, 0, none⟩ = some (.string so) := cell_of_row wa _ 0 _ _ _ hb1
  have hcs : ∀ W, Nx wa W → W.heap[bx]? = some (.cells #[.string so, .int .i64 no, .int .i64 at_, .int .i64 ki, .string ri, .string ca, .string nd, .int .i64 up, .int .i64 dn, .string fo, .int .i64 nu] 31 (0, 0)) := fun W hn => (hn.block _ hgw).trans hb1
  have hi1 : inB no 1 3000 = !outB no 1 3000 := inB_out _ _ _
  have hi2 : inB ki 1 9 = !outB ki 1 9 := inB_out _ _ _
  have hi3 : momF at_ = if momB at_ = true then 0 else 1 := by unfold momF argF; cases momB at_ <;> rfl
  have HCS := hide hcs
  have HNA := hide hna
  clear hcs hna hb1 hok
  cases h1 : keyB so with
  | false =>
    have hv := hide (show ev = 5 by rw [hev.out]; simp [h1])
    clear hbad hi1 hi2 hi3
    go_enter Tryz.func42, Tryz.ntmps42
    go_upto_region 1 with fail
    rw [← hwa, ← hbx]
    clear hwa hbx
    go_wp2_with (go_at_call 77; refine (w_KeyR _ _ (by omega)).mono ?_; rintro e w1 ⟨rfl, hn1⟩; rw [h1])
    go_ret
    exact ⟨by rw [hv.out] <;> rfl, HNA.out.trans hn1⟩
  | true =>
  have HK := hide h1
  cases h2 : outB no 1 3000 with
  | true =>
    rw [h2] at hi1
    have hv := hide (show ev = 1 by rw [hev.out]; simp [h1, h2])
    clear hbad hi2 hi3 h2
    go_enter Tryz.func42, Tryz.ntmps42
    go_upto_region 1 with fail
    rw [← hwa, ← hbx]
    clear hwa hbx
    go_wp2_with fail
    refine (w_KeyR _ _ (by omega)).mono ?_
    rintro e w1 ⟨rfl, hn1⟩
    rw [h1]
    have hb := HCS.out w1 hn1
    have a1 : w1.cell? ⟨bx, 1, none⟩ = some (.int .i64 no) := cell_of_row w1 _ 1 _ _ _ hb
    have HN1 := hide hn1
    clear hb hn1 a0 h1
    go_wp2_with (first
      | (go_at_call 78; refine (w_in _ _ _ _).mono ?_; rintro e w' ⟨rfl, rfl⟩)
      | (go_at_call 79; refine (w_MomentFault _ _).mono ?_; rintro e w' ⟨rfl, rfl⟩))
    go_ret
    exact ⟨by rw [hv.out] <;> rfl, HNA.out.trans HN1.out⟩
  | false =>
  rw [h2] at hi1
  cases h3 : momB at_ with
  | false =>
    rw [h3] at hi3
    simp only [Bool.false_eq_true, if_false] at hi3
    have hv := hide (show ev = 1 by rw [hev.out]; simp [h1, h2, h3])
    clear hbad hi2 h2
    go_enter Tryz.func42, Tryz.ntmps42
    go_upto_region 1 with fail
    rw [← hwa, ← hbx]
    clear hwa hbx
    go_wp2_with fail
    refine (w_KeyR _ _ (by omega)).mono ?_
    rintro e w1 ⟨rfl, hn1⟩
    rw [h1]
    have hb := HCS.out w1 hn1
    have a1 : w1.cell? ⟨bx, 1, none⟩ = some (.int .i64 no) := cell_of_row w1 _ 1 _ _ _ hb
    have a2 : w1.cell? ⟨bx, 2, none⟩ = some (.int .i64 at_) := cell_of_row w1 _ 2 _ _ _ hb
    have HN1 := hide hn1
    clear hb hn1 a0 h1 h3
    go_wp2_with (first
      | (go_at_call 78; refine (w_in _ _ _ _).mono ?_; rintro e w' ⟨rfl, rfl⟩)
      | (go_at_call 79; refine (w_MomentFault _ _).mono ?_; rintro e w' ⟨rfl, rfl⟩))
    go_ret
    exact ⟨by rw [hv.out] <;> rfl, HNA.out.trans HN1.out⟩
  | true =>
    rw [h3] at hi3
    simp only [if_true] at hi3
    have h4 : outB ki 1 9 = true := by simpa [h1, h2, h3] using hbad
    rw [h4] at hi2
    have hv := hide (show ev = 4 by rw [hev.out]; simp [h1, h2, h3, h4])
    clear hbad h2 h4
    go_enter Tryz.func42, Tryz.ntmps42
    go_upto_region 1 with fail
    rw [← hwa, ← hbx]
    clear hwa hbx
    go_wp2_with fail
    refine (w_KeyR _ _ (by omega)).mono ?_
    rintro e w1 ⟨rfl, hn1⟩
    rw [h1]
    have hb := HCS.out w1 hn1
    have a1 : w1.cell? ⟨bx, 1, none⟩ = some (.int .i64 no) := cell_of_row w1 _ 1 _ _ _ hb
    have a2 : w1.cell? ⟨bx, 2, none⟩ = some (.int .i64 at_) := cell_of_row w1 _ 2 _ _ _ hb
    have a3 : w1.cell? ⟨bx, 3, none⟩ = some (.int .i64 ki) := cell_of_row w1 _ 3 _ _ _ hb
    have HN1 := hide hn1
    clear hb hn1 a0 h1 h3
    go_wp2_with (first
      | (go_at_call 78; refine (w_in _ _ _ _).mono ?_; rintro e w' ⟨rfl, rfl⟩)
      | (go_at_call 79; refine (w_MomentFault _ _).mono ?_; rintro e w' ⟨rfl, rfl⟩))
    go_ret
    exact ⟨by rw [hv.out] <;> rfl, HNA.out.trans HN1.out⟩
theorem w_EventFaultR (x : Ev) (w : World) (hok : okEv x) : Calls Tryz.prog 42 #[.agg (evA x)] w fun e w' => e = .returned (.int .i64 (evF x)) ∧ Nx w w' := by
  obtain ⟨so, no, at_, ki, ri, ca, nd, up, dn, fo, nu⟩ := x
  by_cases hbad : keyB so = false ∨ outB no 1 3000 = true ∨ momB at_ = false ∨ outB ki 1 9 = true
  · exact w_RfE0 so no at_ ki ri ca nd up dn fo nu w hok hbad
  · simp only [not_or, Bool.not_eq_false, Bool.not_eq_true] at hbad
    obtain ⟨h1, h2, h3, h4⟩ := hbad
    exact w_RfE1 so no at_ ki ri ca nd up dn fo nu w hok h1 h2 h3 h4
end Go.Proofs.YtfkmbeppckelfaaGreatDoor
/- The reference's check of events. -/
namespace Go.Proofs.YtfkmbeppckelfaaGreatDoor
open Go.RowKit Go.Maps

theorem late_ref (q x : Ev) : lateB (some q) x = decide (evOrd q x ≥ 0) := by
  have h := evOrd_swap x q
  unfold lateB
  apply decide_eq_decide.2
  omega
set_option maxRecDepth 100000 in
set_option maxHeartbeats 4000000 in
theorem w_EventsFaultR (lo : Nat) (A : Option Addr) (c : Nat) (l : List Ev) (w : World) (hR : Rd w lo A 11 encEvt l) (hl : l.length ≤ 50) (hok : ∀ x ∈ l, okEv x) :
    Calls Tryz.prog 16 #[.slice A l.length c] w fun e w' => e = .returned (.int .i64 (evsF l)) ∧ Nx w w' := by
  have hmm := @run_makeMap Tryz.prog
  have HR := hide hR
  have HOK := hide hok
  have HBD := hide (lastM_bd hok)
  generalize hn : l.length = n at *
  have HN := hide hn
  clear hR hn hok
  go_enter Tryz.func16, Tryz.ntmps16
  go_wp2_with fail
  clear hmm
  have HM0 : Hid (MpSI (w.alloc (.map #[] 0)) w.heap.size 0 (lastM l 0)) := hide (MgI.made w)
  go_loopw [13] (fun i wr => ∃ k : Nat, k ≤ n ∧ i = .int .i64 k ∧ Nx w wr ∧ MpSI wr w.heap.size k (lastM l k) ∧ evsF l = evsGo (prevE l k) (fun s => (lastM l k s).getD 0) (l.drop k)) (fun i _ => n - (intOf i).toNat)
  case atStart => exact ⟨0, Nat.zero_le _, rfl, (Nx.refl w).alloc _, HM0.out, rfl⟩
  case round =>
    clear HM0
    obtain ⟨k, hk, rfl, hnx, hM, hv⟩ := hrel
    by_cases hlt : k < n
    · have hlt' : k < l.length := by have := HN.out; omega
      have hx : l[k]? = some l[k] := List.getElem?_eq_getElem hlt'
      rw [evs_next hx] at hv
      have hl2 := lastM_succ hx
      obtain ⟨b, off, rfl, _, hb, hbr, hc⟩ := HR.out.open_ hnx (by omega)
      obtain ⟨c0, c1, c2, c3, c4, c5, c6, c7, c8, c9, c10⟩ := ev_cells (hc k hlt')
      have hox := HOK.out l[k] (List.getElem_mem hlt')
      have hprev : ∀ j, k = j + 1 → ∃ q, prevE l k = some q ∧ q ∈ l ∧ ∀ i u, (encEvt q)[i]? = some u → wr.cell? ⟨b, off + j * 11 + i, none⟩ = some u := by
        intro j hj
        have hjl : j < l.length := by omega
        exact ⟨l[j], by rw [hj]; exact List.getElem?_eq_getElem hjl, List.getElem_mem hjl, fun i u hu => hc j hjl i u hu⟩
      have hpz : k = 0 → prevE l k = none := fun h => by rw [h]; rfl
      clear hc
      generalize l[k] = x at *
      have hML := look_last (hM.nx ((Nx.refl wr).alloc (.cells (evA x) 31 (0, 0)))) (domS_1000 hox.source)
      have hbd := HBD.out k x.source
      have HEF := hide (fun W => w_EventFaultR x W hox)
      obtain ⟨so, no, at_, ki, ri, ca, nd, up, dn, fo, nu⟩ := x
      unfold evA at hML HEF
      simp only at c0 c1 c2 c3 c4 c5 c6 c7 c8 c9 c10 hML hbd HEF hl2 hv
      obtain ⟨wa, hwa⟩ : ∃ wa, wa = wr.alloc (.cells #[.string so, .int .i64 no, .int .i64 at_, .int .i64 ki, .string ri, .string ca, .string nd, .int .i64 up, .int .i64 dn, .string fo, .int .i64 nu] 31 (0, 0)) := ⟨_, rfl⟩
      have hna : Nx wr wa := hwa ▸ (Nx.refl wr).alloc _
      have hba : wa.heap[wr.heap.size]? = some (.cells #[.string so, .int .i64 no, .int .i64 at_, .int .i64 ki, .string ri, .string ca, .string nd, .int .i64 up, .int .i64 dn, .string fo, .int .i64 nu] 31 (0, 0)) := by rw [hwa]; exact heap_alloc_new wr _
      have HV := hide hv
      have HL2 := hide hl2
      have HNA := hide hna
      have HBA := hide hba
      have HM := hide hM
      have HPR := hide hprev
      have HPZ := hide hpz
      have HNX := hide hnx
      have HOX := hide hox
      have hml := hM.lt
      clear hv hl2 hna hba hM hprev hpz hx hML hnx hox
      go_upto_region 7 with fail
      rw [← hwa]
      clear hwa c0 c1 c2 c3 c4 c5 c6 c7 c8 c9 c10
      have a0 := cell_of_row wa _ 0 _ _ _ HBA.out
      have a1 := cell_of_row wa _ 1 _ _ _ HBA.out
      have a2 := cell_of_row wa _ 2 _ _ _ HBA.out
      have a3 := cell_of_row wa _ 3 _ _ _ HBA.out
      have a4 := cell_of_row wa _ 4 _ _ _ HBA.out
      have a5 := cell_of_row wa _ 5 _ _ _ HBA.out
      have a6 := cell_of_row wa _ 6 _ _ _ HBA.out
      have a7 := cell_of_row wa _ 7 _ _ _ HBA.out
      have a8 := cell_of_row wa _ 8 _ _ _ HBA.out
      have a9 := cell_of_row wa _ 9 _ _ _ HBA.out
      have a10 := cell_of_row wa _ 10 _ _ _ HBA.out
      simp at a0 a1 a2 a3 a4 a5 a6 a7 a8 a9 a10
      go_wp2_with fail
      refine (HEF.out _).mono ?_
      rintro e w4 ⟨rfl, hn4⟩
      obtain ⟨ev, hev⟩ : ∃ ev, ev = evF ⟨so, no, at_, ki, ri, ca, nd, up, dn, fo, nu⟩ := ⟨_, rfl⟩
      rw [← hev] at HV ⊢
      have HEV := hide hev
      clear hev a0 a1 a2 a3 a4 a5 a6 a7 a8 a9 a10
      have hb4 := (hn4.block _ (Array.getElem?_eq_some_iff.1 HBA.out).1).trans HBA.out
      have HN4 := hide hn4
      have HM4 := hide ((HM.out.nx HNA.out).nx hn4)
      clear hn4
      have hq : ev = 0 ∨ (ev != 0) = true := by simp; omega
      rcases hq with rfl | hq
      · have HV2 := hide (HV.out.trans (if_neg (by simp)))
        clear HV HEF
        have b0 := cell_of_row w4 _ 0 _ _ _ hb4
        have b1 := cell_of_row w4 _ 1 _ _ _ hb4
        have b2 := cell_of_row w4 _ 2 _ _ _ hb4
        have b3 := cell_of_row w4 _ 3 _ _ _ hb4
        have b4 := cell_of_row w4 _ 4 _ _ _ hb4
        have b5 := cell_of_row w4 _ 5 _ _ _ hb4
        have b6 := cell_of_row w4 _ 6 _ _ _ hb4
        have b7 := cell_of_row w4 _ 7 _ _ _ hb4
        have b8 := cell_of_row w4 _ 8 _ _ _ hb4
        have b9 := cell_of_row w4 _ 9 _ _ _ hb4
        have b10 := cell_of_row w4 _ 10 _ _ _ hb4
        simp at b0 b1 b2 b3 b4 b5 b6 b7 b8 b9 b10
        have HB4 := hide hb4
        clear hb4
        go_upto_region 10 with fail
        go_cut [23] (fun v wx => v = .bool (lateB (prevE l k) ⟨so, no, at_, ki, ri, ca, nd, up, dn, fo, nu⟩) ∧ Nx w4 wx)
        case first =>
          cases k with
          | zero =>
            go_quiet (fail)
            go_wp2
            go_meet
            exact ⟨rfl, (Nx.refl _).drewN _⟩
          | succ j =>
            obtain ⟨q, hq, hqm, hqc⟩ := HPR.out j rfl
            have hqok := HOK.out q hqm
            have HBM := hide (fun W => w_EventOrder q ⟨so, no, at_, ki, ri, ca, nd, up, dn, fo, nu⟩ W)
            obtain ⟨q0, q1, q2, q3, q4, q5, q6, q7, q8, q9, q10⟩ := ev_cells hqc
            have HQ := hide hq
            clear hq
            obtain ⟨so2, no2, at2, ki2, ri2, ca2, nd2, up2, dn2, fo2, nu2⟩ := q
            unfold evA at HBM
            simp only at q0 q1 q2 q3 q4 q5 q6 q7 q8 q9 q10 HBM
            have hbw : b < wa.heap.size := Nat.lt_of_lt_of_le hbr HNA.out.sz
            have hbw4 : b < w4.heap.size := Nat.lt_of_lt_of_le hbw HN4.out.sz
            have hn04 := HNA.out.trans HN4.out
            have r0 := nx_cell hn04 hbr q0
            have r1 := nx_cell hn04 hbr q1
            have r2 := nx_cell hn04 hbr q2
            have r3 := nx_cell hn04 hbr q3
            have r4 := nx_cell hn04 hbr q4
            have r5 := nx_cell hn04 hbr q5
            have r6 := nx_cell hn04 hbr q6
            have r7 := nx_cell hn04 hbr q7
            have r8 := nx_cell hn04 hbr q8
            have r9 := nx_cell hn04 hbr q9
            have r10 := nx_cell hn04 hbr q10
            have hj1 : j < n := by omega
            have hj2 : (j : Int) < (n : Int) := by omega
            have hj0 : (0 : Int) ≤ (j : Int) := by omega
            have wj : IntKind.i64.wrap (j : Int) = (j : Int) := IntWalk.i64_in _ (by omega)
            clear q0 q1 q2 q3 q4 q5 q6 q7 q8 q9 q10 hn04 hqc
            go_still_tail 9, (by kernel_rfl)
            change wpList _ _ _ _ _ w4.drew
            go_wp2_with (go_at_call 43; refine (HBM.out _).mono ?_; rintro e w5 ⟨rfl, hn5⟩)
            go_meet
            exact ⟨by rw [HQ.out, late_ref], (Nx.refl _).drew.trans hn5⟩
        case rest =>
          obtain ⟨rfl, hnc⟩ := hcut
          obtain ⟨late, hlate⟩ : ∃ late, late = lateB (prevE l k) ⟨so, no, at_, ki, ri, ca, nd, up, dn, fo, nu⟩ := ⟨_, rfl⟩
          rw [← hlate] at HV2 ⊢
          clear hlate
          have HNC := hide hnc
          have HN4c := hide (((HNX.out.trans HNA.out).trans HN4.out).trans hnc)
          cases late with
          | true =>
            have hv2 := hide (show evsF l = 7 by rw [HV2.out, if_pos rfl])
            clear hnc
            go_wp2_with fail
            go_ret
            exact ⟨by rw [hv2.out] <;> rfl, HN4c.out⟩
          | false =>
            have HV3 := hide (HV2.out.trans (if_neg (by simp)))
            have hbc := (hnc.block _ (Array.getElem?_eq_some_iff.1 HB4.out).1).trans HB4.out
            have b0 := cell_of_row wc _ 0 _ _ _ hbc
            have b1 := cell_of_row wc _ 1 _ _ _ hbc
            simp at b0 b1
            have HMc := hide (HM4.out.nx hnc)
            have hlk := look_last HMc.out (domS_1000 HOX.out.source)
            obtain ⟨v, hv⟩ : ∃ v, v = (lastM l k so).getD 0 := ⟨_, rfl⟩
            simp only at hlk
            rw [← hv] at hlk hbd HV3
            have w1 : IntKind.i64.wrap (v + 1) = v + 1 := IntWalk.i64_in _ (by omega)
            have hkey := keyS_mk (P := Tryz.prog) Tryz.underlying9 (domS_1000 HOX.out.source)
            clear hnc hbc hv
            have hq : no = v + 1 ∨ (no != v + 1) = true := by simp; omega
            rcases hq with rfl | hq
            · have HV4 := hide (HV3.out.trans (if_neg (by simp)))
              go_wp2_with (at_mapUpdate; refine wpMgPut _ rfl _ _ _ _ rfl intE law_strE strV_inj Tryz.underlying62 w.heap.size k _ rfl HMc.out (by unfold maxLen; omega) so rfl (domS_1000 HOX.out.source) _ hkey (v + 1) rfl (wf_15 HOX.out.no) ?_; intro w8 hM8 hg8; (have HM8 := hide hM8); clear hM8)
              go_roundw
              case rel =>
                refine ⟨k + 1, by omega, by go_num, HN4c.out.grown hg8 (fun j hj => by injection hj with hj; omega), ?_, HV4.out⟩
                rw [HL2.out]; exact HM8.out
              case measure => simp [intOf]; omega
            · have hv2 := hide (show evsF l = 16 by rw [HV3.out, if_pos (by simpa using hq)])
              go_wp2_with fail
              go_ret
              exact ⟨by rw [hv2.out] <;> rfl, HN4c.out⟩
      · have hv2 := hide (show evsF l = ev by rw [HV.out, if_pos (by simpa using hq)])
        go_wp2_with fail
        go_ret
        exact ⟨by rw [hv2.out] <;> rfl, (HNX.out.trans HNA.out).trans HN4.out⟩
    · obtain rfl : k = n := by omega
      have hv2 := hide (show evsF l = 0 by rw [hv, List.drop_of_length_le (by have := HN.out; omega)]; rfl)
      obtain ⟨m, hm, hlen⟩ := hM.size (t := 62) (E := 3) Tryz.underlying62 3
      have HNX := hide hnx
      clear hM hv hnx
      go_wp2_with fail
      go_ret
      exact ⟨by rw [hv2.out] <;> rfl, HNX.out⟩
end Go.Proofs.YtfkmbeppckelfaaGreatDoor
