/- Which events were taken back, by the program. -/
import Derived.Test.YtfkmbeppckelfaaGreatDoorQG39
import Derived.Test.YtfkmbeppckelfaaGreatDoorQG21
import Derived.Test.YtfkmbeppckelfaaGreatDoorQG19
import Derived.Test.YtfkmbeppckelfaaGreatDoorQSnoS
import Derived.Test.YtfkmbeppckelfaaGreatDoorQEvY
import Derived.Test.YtfkmbeppckelfaaGreatDoorQG49
namespace Go.Proofs.YtfkmbeppckelfaaGreatDoor
open Go.RowKit Go.Maps

theorem undoneL_up (l : List Ev) : ∀ k, (undoneL l k).Pairwise (fun a b => a < b) ∧ ∀ z ∈ undoneL l k, z < (k : Int)
  | 0 => by simp [undoneL]
  | k + 1 => by
    obtain ⟨h1, h2⟩ := undoneL_up l k
    unfold undoneL
    split
    · refine ⟨List.pairwise_append.2 ⟨h1, by simp, fun a ha b hb => by rw [List.mem_singleton.1 hb]; exact h2 a ha⟩, fun z hz => ?_⟩
      rcases List.mem_append.1 hz with hz | hz
      · have := h2 z hz; omega
      · rw [List.mem_singleton.1 hz]; omega
    · exact ⟨h1, fun z hz => by have := h2 z hz; omega⟩
/-- The map's keys, in order, are the reference's list. -/
theorem gone_undone {l : List Ev} {ks : List Int} (h : KeysOfI (goneM l l.length).1 ks) : ks = undoneL l l.length := by
  refine strict_uniq (r := fun a b : Int => a < b) (fun _ => Int.lt_irrefl _) (fun _ _ _ => Int.lt_trans) h.1 (undoneL_up l _).1 (fun z => ?_)
  rw [h.2, undoneL_mem, (goneM_spec l l.length).1]
  constructor
  · rintro ⟨t, rfl, h1, h2⟩
    rw [List.take_length] at h2
    exact ⟨t, rfl, gone_tgt h2, by unfold goneB; rw [h2]; simp [h1]⟩
  · rintro ⟨i, rfl, h1, h2⟩
    unfold goneB at h2
    simp only [Bool.and_eq_true, decide_eq_true_eq] at h2
    exact ⟨i, rfl, h2.1, by rw [List.take_length]; exact h2.2⟩
/-- What Undone answers. -/
def UndEnd (l : List Ev) (w : World) (e : Ending) (w' : World) : Prop :=
  (∃ (B : Option Addr) (m cb : Nat), e = .returned (.tuple #[.slice B m cb, .int .i64 (evsF l)]) ∧ (evsF l ≠ 0 → B = none ∧ m = 0) ∧ (evsF l = 0 → m = (undoneL l l.length).length ∧ Rd w' w.heap.size B 1 encI (undoneL l l.length))) ∧ Nx w w'
set_option maxRecDepth 100000 in
set_option maxHeartbeats 2000000 in
theorem w_Undone (lo : Nat) (A : Option Addr) (c : Nat) (l : List Ev) (w : World) (hR : Rd w lo A 11 encEvt l) (hl : l.length ≤ 50) (hok : ∀ x ∈ l, okEv x) :
    Calls Tryz.prog 31 #[.slice A l.length c] w (UndEnd l w) := by
  have HC := hide (w_CheckEvents lo A c l w hR hl hok)
  have HFO := hide (fun (h : evsF l = 0) (W : World) (hn : Nx w W) => w_follow lo A c l endMo W (hR.nx hn) (by omega) h)
  unfold UndEnd
  have hq : evsF l = 0 ∨ (evsF l != 0) = true := by simp; omega
  rcases hq with hq | hq
  · have HQ := hide hq
    rw [hq] at HC ⊢
    have HFO2 := hide (HFO.out hq)
    obtain ⟨us, hus⟩ : ∃ us, us = undoneL l l.length := ⟨_, rfl⟩
    rw [← hus]
    have HUS := hide hus
    obtain ⟨n, hn⟩ : ∃ n, n = l.length := ⟨_, rfl⟩
    have hnl : n ≤ 50 := by omega
    rw [← hn] at HC HFO2 ⊢
    have HN := hide hn
    clear hR hl hok hq hus hn HFO
    unfold endMo at HFO2
    go_enter Tryz.func31, Tryz.ntmps31
    go_wp2_with fail
    refine HC.out.mono ?_
    rintro e w2 ⟨rfl, hn2⟩
    have HFO3 := hide (HFO2.out w2 hn2)
    have HN2 := hide hn2
    clear hn2
    go_wp2_with fail
    refine HFO3.out.mono ?_
    rintro e w3 ⟨lo3, d, rb, cb, gb, bb, rv, fr, fc, fm, rfl, hD, hblk, hrow, hG, h1, h2, h3, h4, h5, hnx⟩
    have d4 := (day_cells hblk).2.2.2.2.1
    rw [← HN.out] at hG
    have HS := hide (w_SortedII gb n (goneM l n).1 w3 (by rw [HN.out] at hG ⊢; exact hG) (by omega))
    have HNX := hide hnx
    clear hD hblk hrow hG hnx
    go_wp2_with (go_at_call 71; refine (w_KeysII _ _).mono ?_; rintro e w' ⟨rfl, rfl⟩)
    refine HS.out.mono ?_
    rintro e w4 ⟨KA, kc, ks, rfl, hRk, hK, hkl, hn4⟩
    have hks : ks = us := by rw [HUS.out]; rw [HN.out] at hK; exact gone_undone hK
    subst hks
    have HRK := hide hRk
    have HN4 := hide hn4
    clear hRk hK hn4 hkl
    go_wp2_with fail
    go_ret2
    exact ⟨⟨_, _, _, rfl, fun h => absurd rfl h, fun _ => ⟨rfl, HRK.out.low (HN2.out.trans HNX.out).sz⟩⟩, (HN2.out.trans HNX.out).trans HN4.out⟩
  · have HQ := hide (show evsF l ≠ 0 by simpa using hq)
    generalize evsF l = f at *
    generalize l.length = n at *
    clear hR hl hok HFO
    go_enter Tryz.func31, Tryz.ntmps31
    go_wp2_with fail
    refine HC.out.mono ?_
    rintro e w2 ⟨rfl, hn2⟩
    go_wp2_with fail
    go_ret2
    exact ⟨⟨_, _, _, rfl, fun _ => ⟨rfl, rfl⟩, fun h => absurd h HQ.out⟩, hn2⟩
end Go.Proofs.YtfkmbeppckelfaaGreatDoor
/- Plain: what is known without what was taken back. -/
namespace Go.Proofs.YtfkmbeppckelfaaGreatDoor

/-- The number k is left out. -/
def outB2 (l : List Ev) (k : Nat) (x : Ev) : Bool := goneB l k || decide (x.kind = 9)
/-- What is kept of the first k events, numbered anew. -/
def someL (l : List Ev) : Nat → List Ev
  | 0 => []
  | k + 1 => match l[k]? with
    | none => someL l k
    | some x => if outB2 l k x then someL l k else someL l k ++ [{ x with no := num0 (someL l k) x.source + 1 }]
theorem someL_len (l : List Ev) : ∀ k, (someL l k).length ≤ k
  | 0 => Nat.le_refl _
  | k + 1 => by
    have ih := someL_len l k
    unfold someL
    split
    · omega
    · split
      · omega
      · simp; omega
theorem some_right {l : List Ev} (h : evsF l = 0) (hl : l.length ≤ 3000) : ∀ k, evsF (someL l k) = 0 ∧ (∀ q, lastO none (someL l k) = some q → ∃ j y, j < k ∧ l[j]? = some y ∧ q = { y with no := q.no }) ∧ (∀ x ∈ someL l k, x.kind ≠ 9)
  | 0 => ⟨rfl, (fun q hq => by cases hq), (fun x hx => by cases hx)⟩
  | k + 1 => by
    obtain ⟨i1, i2, i3⟩ := some_right h hl k
    have i2' : ∀ q, lastO none (someL l k) = some q → ∃ j y, j < k + 1 ∧ l[j]? = some y ∧ q = { y with no := q.no } := fun q hq => by
      obtain ⟨j, y, a, b⟩ := i2 q hq; exact ⟨j, y, by omega, b⟩
    unfold someL
    cases hx : l[k]? with
    | none => exact ⟨i1, i2', i3⟩
    | some x =>
      simp only
      by_cases ho : outB2 l k x = true
      · rw [if_pos ho]; exact ⟨i1, i2', i3⟩
      rw [if_neg ho]
      have hk : k < l.length := (List.getElem?_eq_some_iff.1 hx).1
      have hb := num0_bd _ i1 x.source
      have hlen := someL_len l k
      have hxr := evs_right h (List.mem_of_getElem? hx)
      refine ⟨evsF_snoc_zero i1 (evF_no hxr (by omega) (by omega)) ?_ rfl, ?_, ?_⟩
      · cases hq : lastO none (someL l k) with
        | none => rfl
        | some q =>
          obtain ⟨j, y, hj, hy, eq⟩ := i2 q hq
          have hlast := num0_last hq
          have hord : evOrd y x < 0 := by
            have := (evsGo_right l _ _ h).2.1
            obtain ⟨hj', ey⟩ := List.getElem?_eq_some_iff.1 hy
            obtain ⟨_, ex⟩ := List.getElem?_eq_some_iff.1 hx
            have := List.pairwise_iff_getElem.1 this j k hj' hk hj
            rw [ey, ex] at this; exact this
          have hord2 : evOrd q { x with no := num0 (someL l k) x.source + 1 } < 0 := by
            rw [evOrd_neg] at hord ⊢
            have e1 : q.at_ = y.at_ := by rw [eq]
            have e2 : q.source = y.source := by rw [eq]
            rcases hord with o | ⟨o1, o | ⟨o2, _⟩⟩
            · exact .inl (by rw [e1]; exact o)
            · exact .inr ⟨by rw [e1]; exact o1, .inl (by rw [e2]; exact o)⟩
            · refine .inr ⟨by rw [e1]; exact o1, .inr ⟨by rw [e2]; exact o2, ?_⟩⟩
              show q.no < num0 (someL l k) x.source + 1
              rw [← o2, ← e2, hlast]; omega
          show decide (evOrd _ q ≤ 0) = false
          rw [evOrd_swap q, decide_eq_false_iff_not]
          omega
      · intro q hq
        rw [lastO_snoc] at hq
        injection hq with hq
        subst hq
        exact ⟨k, x, by omega, hx, rfl⟩
      · intro y hy
        rcases List.mem_append.1 hy with hy | hy
        · exact i3 y hy
        · rw [List.mem_singleton.1 hy]
          intro h9
          have h9 : x.kind = 9 := h9
          exact ho (by unfold outB2; simp [h9])
/-- The program's day over events none of which is an undo. -/
def runS (at_ : Int) (l : List Ev) : DayP := l.foldl (fun d x => if at_ < x.at_ then d else (stepP d x).1) dayP0
theorem runS_snoc (at_ : Int) (l : List Ev) (x : Ev) : runS at_ (l ++ [x]) = if at_ < x.at_ then runS at_ l else (stepP (runS at_ l) x).1 := by
  unfold runS; rw [List.foldl_append]; rfl
theorem gone_no {l : List Ev} (h : ∀ x ∈ l, x.kind ≠ 9) (k : Nat) : goneB l k = false := by
  unfold goneB
  rw [Bool.and_eq_false_iff]; right
  rw [List.any_eq_false]
  intro x hx
  unfold undoesB
  simp [h x hx]
theorem runP_runS {l : List Ev} (h : ∀ x ∈ l, x.kind ≠ 9) (at_ : Int) : ∀ k, runP l at_ k = runS at_ (l.take k)
  | 0 => rfl
  | k + 1 => by
    have ih := runP_runS h at_ k
    unfold runP
    cases hx : l[k]? with
    | none =>
      have hle : l.length ≤ k := List.getElem?_eq_none_iff.1 hx
      rw [List.take_of_length_le (by omega)]
      rw [List.take_of_length_le hle] at ih
      exact ih
    | some x =>
      rw [List.take_add_one, hx, Option.toList_some, runS_snoc, ih]
      simp only [gone_no h k]
      rw [if_neg (h x (List.mem_of_getElem? hx))]
      simp
theorem stepP_no (d : DayP) (x : Ev) (n : Int) : stepP d { x with no := n } = stepP d x := rfl
theorem run_some (l : List Ev) (at_ : Int) : ∀ k, runS at_ (someL l k) = runP l at_ k
  | 0 => rfl
  | k + 1 => by
    have ih := run_some l at_ k
    unfold someL runP
    cases hx : l[k]? with
    | none => exact ih
    | some x =>
      simp only
      unfold outB2
      by_cases hg : goneB l k = true
      · rw [if_pos (by rw [hg]; rfl), if_pos (.inl hg)]; exact ih
      by_cases h9 : x.kind = 9
      · rw [if_pos (by simp [h9]), ih]
        split <;> first | rfl | (rw [if_pos h9])
      · rw [if_neg (by simp [hg, h9]), runS_snoc, stepP_no, ih]
        show (if at_ < x.at_ then _ else _) = _
        by_cases ha : at_ < x.at_
        · rw [if_pos ha, if_pos (.inr ha)]
        · rw [if_neg ha, if_neg (by simp [hg, ha]), if_neg h9]
/-- What is known with and without is the same. -/
theorem taken_run {l : List Ev} (h : evsF l = 0) (hl : l.length ≤ 3000) (at_ : Int) : runP (someL l l.length) at_ (someL l l.length).length = runP l at_ l.length := by
  rw [runP_runS (some_right h hl l.length).2.2, List.take_length, run_some]
theorem wrs_uniq {D : DayP} {L M : List Wr} (hL : WrsP D L) (hM : WrsP D M) : L = M := by
  have key : ∀ {L M : List Wr}, WrsP D L → WrsP D M → ∀ x ∈ L, x ∈ M := by
    intro L M hL hM x hx
    obtain ⟨c, h1, h2, h3, h4, h5⟩ := hL.2.1 x hx
    obtain ⟨y, hy, e⟩ := hM.2.2 x.car (by rw [h1]; rfl)
    obtain ⟨c', k1, k2, k3, k4, k5⟩ := hM.2.1 y hy
    rw [e, h1] at k1; injection k1 with k1; subst k1
    have e5 := h5.uniq k5 (fun _ => rfl)
    have : x = y := by
      obtain ⟨a1, a2, a3, a4, a5⟩ := x
      obtain ⟨b1, b2, b3, b4, b5⟩ := y
      simp only at *
      subst e h2 h3 h4 k2 k3 k4 e5
      rfl
    rw [this]; exact hy
  exact strict_uniq (r := fun a b : Wr => ltS a.car b.car) (fun _ => ltS_irrefl _) (fun _ _ _ => ltS_trans) hL.1 hM.1 (fun x => ⟨key hL hM x, key hM hL x⟩)
end Go.Proofs.YtfkmbeppckelfaaGreatDoor
/- jitkeep1.TakenBackIsNothing returns true. -/
namespace Go.Proofs.YtfkmbeppckelfaaGreatDoor
open Go.RowKit Go.Maps

theorem momF_at2 {l : List Ev} {at_ : Int} (h : evsF l = 0) (h0 : 0 ≤ at_) (h1 : at_ ≤ 1000) : momentF l at_ = 0 := by
  unfold momentF
  rw [if_pos h, if_pos (momB_true.2 ⟨h0, by omega⟩)]
theorem und_mem {l : List Ev} {k : Nat} (hk : k < l.length) : decide ((k : Int) ∈ undoneL l l.length) = goneB l k := by
  rw [Bool.eq_iff_iff, decide_eq_true_eq, undoneL_mem]
  constructor
  · rintro ⟨i, e, _, h⟩
    have : k = i := by omega
    subst this; exact h
  · intro h; exact ⟨k, rfl, hk, h⟩
theorem some_next {l : List Ev} {k : Nat} (hk : k < l.length) : someL l (k + 1) = if (goneB l k || decide (l[k].kind = 9)) = true then someL l k else someL l k ++ [{ l[k] with no := num0 (someL l k) l[k].source + 1 }] := by
  rw [someL, List.getElem?_eq_getElem hk]
  rfl
set_option maxRecDepth 100000 in
set_option maxHeartbeats 8000000 in
theorem w_lawTN (A : Option Addr) (n c : Nat) (w : World) (hn : n ≤ 9223372036854775807)
    (hL : 0 < n → ∃ b off, A = some ⟨b, off, none⟩ ∧ b < w.heap.size ∧ ∀ j, j < n → ∃ z : Int, w.cell? ⟨b, off + j, none⟩ = some (.int .i64 z) ∧ -9223372036854775808 ≤ z ∧ z ≤ 9223372036854775807) :
    Calls Tryz.prog 5 #[.slice A n c] w (TrueNx w) := by
  have hS0 : Str (w.alloc (.cells #[.slice A n c, .int .i64 0] 25)) w.heap.size 0 := str_new A n c w hn hL
  clear hL
  have hmm := @run_makeMap Tryz.prog
  have hsz : (w.alloc (.cells #[.slice A n c, .int .i64 0] 25)).heap.size = w.heap.size + 1 := by simp
  go_enter Tryz.func5, Tryz.ntmps5
  go_wp2_with fail
  refine (w_Range 0 20 _ _ _ hS0 (by omega) (by omega) (by omega)).mono ?_
  rintro e w1 ⟨r, hr1, hr2, rfl, hg1, hS1⟩
  obtain ⟨m, rfl⟩ : ∃ m : Nat, r = (m : Int) := ⟨r.toNat, by omega⟩
  have hz1 := hg1.sz
  rw [hsz] at hz1
  have hg01 : Gr w.heap.size w w1 := (Gr.of_nx ((Nx.refl w).alloc _)).trans hg1
  clear hg1 hS0 hsz
  go_wp2_with fail
  refine (w_RightEvents m _ _ _ (by omega) hS1 (by omega)).mono ?_
  rintro e w2 ⟨B, cB, l, rfl, hR2, hlm, hlc, hok, hev, hg2, hS2⟩
  have HR2 := hide hR2
  have HOK := hide hok
  have HEV := hide hev
  have HS2 := hide hS2
  have HG2 := hide (hg01.trans hg2)
  have hl20 : l.length ≤ 20 := by omega
  have hsw1 : w.heap.size < w1.heap.size := by omega
  clear hR2 hok hev hS2 hg2 hg01 hS1 hlm hlc hr1 hr2
  go_wp2_with fail
  refine (w_Next 250 _ _ _ HS2.out (by omega) (by omega)).mono ?_
  rintro e w3 ⟨at_, hat1, hat2, rfl, hg3, hS3⟩
  have HMF := hide (momF_at2 HEV.out hat1 (show at_ ≤ 1000 by omega))
  have HR3 := hide (HR2.out.gr hg3 hsw1)
  have HT := hide (fun W (h : Nx w3 W) => Nx.of_gr ((HG2.out.trans hg3).then_nx h) (Nat.le_refl _))
  have HUN := hide (w_Undone w1.heap.size B cB l w3 HR3.out (by omega) HOK.out)
  have HSR := hide (some_right HEV.out (by omega) l.length)
  have HOS := hide (show ∀ x ∈ someL l l.length, okEv x from fun x hx => okEv_of (evs_right HSR.out.1 hx))
  have HSL := hide (someL_len l l.length)
  have HMS := hide (momF_at2 HSR.out.1 hat1 (show at_ ≤ 1000 by omega))
  have HTK := hide (taken_run HEV.out (by omega) at_)
  unfold UndEnd at HUN
  rw [HEV.out] at HUN
  obtain ⟨nl, hnl⟩ : ∃ nl, nl = l.length := ⟨_, rfl⟩
  rw [← hnl] at HUN hl20 ⊢
  have HNL := hide hnl
  clear hg3 hS3 HR2 HG2 HS2 hnl
  go_wp2_with fail
  refine HUN.out.mono ?_
  rintro e w4 ⟨⟨B4, m4, c4, rfl, _, h4⟩, hn4⟩
  obtain ⟨em4, hR4⟩ := h4 (by trivial)
  have HR4 := hide hR4
  have HN4 := hide hn4
  have HM4 := hide em4
  have hm4 : m4 ≤ 20 := by rw [em4]; have := undoneL_len l nl; omega
  clear hR4 hn4 h4 em4 HUN
  go_upto_region 8 with fail
  obtain ⟨g, hg⟩ : ∃ g, g = w4.heap.size := ⟨_, rfl⟩
  have HMZ : Hid (MpSI (w4.alloc (.map #[] 0)) g 0 (fun _ => none)) := hide (by rw [hg]; exact MgI.made w4)
  obtain ⟨w5, hw5⟩ : ∃ w5, w5 = w4.alloc (.map #[] 0) := ⟨_, rfl⟩
  have HN45 := hide (show Nx w4 w5 from hw5 ▸ (Nx.refl w4).alloc _)
  have hz5 : w5.heap.size = g + 1 := by rw [hw5, hg]; simp
  rw [← hg, ← hw5]
  rw [← hw5] at HMZ
  have HG := hide hg
  have HZ5 := hide hz5
  clear hg hmm hw5 hz5
  go_wp2_with fail
  go_loopw [8, 38] (fun v i wr => ∃ (k : Nat) (f : ByteArray → Option Int), k ≤ nl ∧ i = .int .i64 k ∧ MpSI wr g k f ∧ (∀ s, (f s).getD 0 = num0 (someL l k) s) ∧ wr.ownsRow (g + 1) 31 11 v (someL l k).length ((someL l k).flatMap encEvt) ∧ g + 1 ≤ wr.heap.size ∧ Nx w4 wr) (fun _ i _ => nl - (intOf i).toNat)
  case atStart => exact ⟨0, _, Nat.zero_le _, rfl, HMZ.out, fun s => rfl, World.ownsRow_nil _ _ _ _, Nat.le_of_eq HZ5.out.symm, HN45.out⟩
  case round =>
    clear HMZ
    obtain ⟨k, f, hk, rfl, hM, hf, hown, hgw, hnx⟩ := hrel
    have HM := hide hM
    have HF := hide hf
    have HOW := hide hown
    have HNX := hide hnx
    have hgl := hM.lt
    clear hM hf hown
    by_cases hlt : k < nl
    · have hlt' : k < l.length := by have := HNL.out; omega
      obtain ⟨b, off, rfl, _, hb, hbr, hc⟩ := (HR3.out.nx (HN4.out.trans HNX.out)).open_ (Nx.refl wr) (by have := HNL.out; omega)
      obtain ⟨c0, c1, c2, c3, c4', c5, c6, c7, c8, c9, c10⟩ := ev_cells (hc k hlt')
      have hx := HOK.out l[k] (List.getElem_mem hlt')
      have HNEXT := hide (some_next hlt')
      have hgone := und_mem hlt'
      have HLK := hide (show (someL l k).length ≤ 20 by have := someL_len l k; omega)
      have hbd : ∀ s, 0 ≤ num0 (someL l k) s ∧ num0 (someL l k) s ≤ 20 := fun s => by
        have := num0_bd _ (some_right HEV.out (by have := HNL.out; omega) k).1 s
        have := HLK.out; omega
      have HBD := hide hbd
      clear hc hbd hnx
      rw [← HNL.out] at hgone
      have HCO := hide (fun W (hn : Nx w4 W) => (show Calls Tryz.prog 32 #[.slice B4 m4 c4, .int .i64 (k : Int)] W fun e w' => e = .returned (.bool (goneB l k)) ∧ W = w' by
        rw [← hgone, HM4.out]; exact w_ContI w3.heap.size B4 c4 (undoneL l nl) (k : Int) W (HR4.out.nx hn) (by rw [← HM4.out]; omega)))
      clear hgone
      obtain ⟨S, hS⟩ : ∃ S, S = someL l k := ⟨_, rfl⟩
      rw [← hS] at HF HOW HNEXT HLK HBD
      clear hS
      generalize goneB l k = go at *
      generalize l[k] = x at *
      have HX := hide hx
      obtain ⟨so, no, at2, ki, ri, ca, nd, up, dn, fo, nu⟩ := x
      simp only at c0 c1 c2 c3 c4' c5 c6 c7 c8 c9 c10 HNEXT
      have q1 : (0 : Int) ≤ (k : Int) := by omega
      have q2 : (k : Int) < (nl : Int) := by omega
      have HCO2 := hide (HCO.out _ (HNX.out.alloc (.cells #[.string so, .int .i64 no, .int .i64 at2, .int .i64 ki, .string ri, .string ca, .string nd, .int .i64 up, .int .i64 dn, .string fo, .int .i64 nu] 31)))
      clear hx HCO
      have hout : (go || decide (ki = 9)) = true ∨ (go = false ∧ (ki == 9) = false) := by
        cases go
        · by_cases e : ki = 9
          · left; simp [e]
          · right; exact ⟨rfl, by simpa using e⟩
        · left; rfl
      rcases hout with ho | ⟨rfl, ho⟩
      · have HN2 := hide (HNEXT.out.trans (if_pos ho))
        cases go
        · have h9 : (ki == 9) = true := by simpa using ho
          clear ho
          go_wp2_with (go_at_call 32; refine HCO2.out.mono ?_; rintro e w6 ⟨rfl, rfl⟩)
          go_roundw
          case rel => exact ⟨k + 1, f, by omega, by go_num, (HM.out.nx ((Nx.refl wr).alloc _)).mono (by omega), by rw [HN2.out]; exact HF.out, by rw [HN2.out]; exact own_nx HOW.out ((Nx.refl wr).alloc _), by simp; omega, HNX.out.alloc _⟩
          case measure => simp [intOf]; omega
        · clear ho
          go_wp2_with (go_at_call 32; refine HCO2.out.mono ?_; rintro e w6 ⟨rfl, rfl⟩)
          go_roundw
          case rel => exact ⟨k + 1, f, by omega, by go_num, (HM.out.nx ((Nx.refl wr).alloc _)).mono (by omega), by rw [HN2.out]; exact HF.out, by rw [HN2.out]; exact own_nx HOW.out ((Nx.refl wr).alloc _), by simp; omega, HNX.out.alloc _⟩
          case measure => simp [intOf]; omega
      · have ho' : ¬ ki = 9 := by simpa using ho
        have HN2 := hide (HNEXT.out.trans (if_neg (by simp [ho'])))
        have hbs := HBD.out so
        obtain ⟨v9, hv9⟩ : ∃ v9, v9 = num0 S so := ⟨_, rfl⟩
        rw [← hv9] at hbs HN2
        obtain ⟨w6, hw6⟩ : ∃ w6, w6 = wr.alloc (.cells #[.string so, .int .i64 no, .int .i64 at2, .int .i64 ki, .string ri, .string ca, .string nd, .int .i64 up, .int .i64 dn, .string fo, .int .i64 nu] 31 (0, 0)) := ⟨_, rfl⟩
        obtain ⟨bx, hbx⟩ : ∃ bx, bx = wr.heap.size := ⟨_, rfl⟩
        have hn6 : Nx wr w6 := hw6 ▸ (Nx.refl wr).alloc _
        have HB6 : Hid (w6.heap[bx]? = some (.cells #[.string so, .int .i64 no, .int .i64 at2, .int .i64 ki, .string ri, .string ca, .string nd, .int .i64 up, .int .i64 dn, .string fo, .int .i64 nu] 31 (0, 0))) := hide (by rw [hw6, hbx]; exact heap_alloc_new wr _)
        have HN6 := hide (HNX.out.trans hn6)
        have HM6 := hide (HM.out.nx hn6)
        have HO6 := hide (own_nx HOW.out hn6)
        have hgb : g ≠ bx := by omega
        have HCO3 : Hid (Calls Tryz.prog 32 #[.slice B4 m4 c4, .int .i64 (k : Int)] w6 fun e w' => e = .returned (.bool false) ∧ w6 = w') := hide (by rw [hw6]; exact HCO2.out)
        have hlk := look_last HM6.out (domS_1000 HX.out.source)
        simp only at hlk
        rw [HF.out so, ← hv9] at hlk
        have hkey := keyS_mk (P := Tryz.prog) Tryz.underlying9 (domS_1000 HX.out.source)
        simp only at hkey
        have ww : IntKind.i64.wrap (v9 + 1) = v9 + 1 := IntWalk.i64_in _ (by omega)
        have hz6 := hn6.sz
        have HV9 := hide hv9
        have HBX := hide hbx
        have hdom9 : (Lit.int .i64 (v9 + 1)).wf = true := wf_15 (by omega)
        have HD9 := hide hdom9
        clear hn6 HCO2 HNEXT ho' hv9 hdom9
        go_upto_region 11 with fail
        rw [← hw6, ← hbx]
        clear hw6 hbx c0 c1 c2 c3 c4' c5 c6 c7 c8 c9 c10
        obtain ⟨d0, d1, d2, d3, d4, d5, d6, d7, d8, d9, d10⟩ := evb_cells HB6.out
        have hbl6 := (Array.getElem?_eq_some_iff.1 HB6.out).1
        go_upto_region 13 with (first
          | (go_at_call 32; refine HCO3.out.mono ?_; rintro e w7 ⟨rfl, rfl⟩)
          | (at_mapUpdate; refine wpMgPut _ rfl _ _ _ _ rfl intE law_strE strV_inj Tryz.underlying62 g k _ rfl HM6.out (by unfold maxLen; omega) so rfl (domS_1000 HX.out.source) _ hkey (v9 + 1) rfl HD9.out ?_; intro w8 hM8 hg8; (have HM8 := hide hM8); (have HG8 := hide hg8); clear hM8 hg8))
        have HB8 := hide ((HG8.out.block bx hbl6 (by intro e; injection e with e; exact hgb e.symm)).trans HB6.out)
        have hlk8 := look_last HM8.out (domS_1000 HX.out.source)
        simp only [if_true, Option.getD_some] at hlk8
        have HO8 := hide (HO6.out.kept HG8.out (.inr (fun e => by have := (HO6.out.lt _ e).1; omega)))
        have HN8 := hide (HN6.out.grown HG8.out (fun j hj => by injection hj with hj; have := HG.out; omega))
        have hz8 := HG8.out.size
        clear d0 d1 d2 d3 d4 d5 d6 d7 d8 d9 d10 hlk
        obtain ⟨d0, d1, d2, d3, d4, d5, d6, d7, d8, d9, d10⟩ := evb_cells HB8.out
        have hbl8 := (Array.getElem?_eq_some_iff.1 HB8.out).1
        have hfz : ∀ i, w8.frozen? ⟨bx, i, none⟩ = false := fun i => by simp [World.frozen?, HB8.out]
        obtain ⟨w9, hw9⟩ : ∃ w9, w9 = w8.setCell ⟨bx, 1, none⟩ (.int .i64 (v9 + 1)) := ⟨_, rfl⟩
        have hg9 : Gr bx w8 w9 := hw9 ▸ (Gr.refl bx w8).setS (p := ⟨bx, 1, none⟩) (.inl rfl) _
        have HB9 : Hid (w9.heap[bx]? = some (.cells #[.string so, .int .i64 (v9 + 1), .int .i64 at2, .int .i64 ki, .string ri, .string ca, .string nd, .int .i64 up, .int .i64 dn, .string fo, .int .i64 nu] 31 (0, 0))) := hide (by rw [hw9]; exact heap_set (i := 1) HB8.out)
        have HM9 := hide (HM8.out.gr hg9 hgb)
        have HO9 := hide (HO8.out.kept hg9 (.inr (fun e => by have := (HOW.out.lt _ e).2; have := HBX.out; omega)))
        have HN9 := hide (Nx.of_gr ((Gr.of_nx HN8.out : Gr bx w4 w8).trans hg9) (by have := HBX.out; have := HNX.out.sz; omega))
        have hgl9 := HM9.out.lt
        clear hg9
        go_upto_region 14 with fail
        rw [← hw9]
        clear hw9 hfz d0 d1 d2 d3 d4 d5 d6 d7 d8 d9 d10 hlk8
        obtain ⟨d0, d1, d2, d3, d4, d5, d6, d7, d8, d9, d10⟩ := evb_cells HB9.out
        have hbl9 := (Array.getElem?_eq_some_iff.1 HB9.out).1
        go_wp2_with (at_builtin; refine wpApp rfl _ _ _ rfl el_Evt encEvt encEvt_len encEvt_one (by omega) (by omega) (g + 1) _ S rfl (own_nx HO9.out ((Nx.refl _).alloc _)) _ ⟨so, v9 + 1, at2, ki, ri, ca, nd, up, dn, fo, nu⟩ _ rfl (hnew (by simp)) rfl (by have := HLK.out; omega) (by simp; omega) ?_; intro v10 w10 hown10 hg10; (have HO10 := hide hown10); (have HG10 := hide hg10); clear hown10 hg10)
        go_roundw
        case rel =>
          refine ⟨k + 1, _, by omega, by go_num, (HM9.out.nx ((Nx.refl _).alloc _)).grown HG10.out (fun e => by have := (HO9.out.lt g e.symm).1; omega), ?_, by rw [HN2.out]; exact HO10.out, by have := HG10.out.size; simp at this; omega, (HN9.out.alloc _).grown HG10.out (fun p hp => by have := own_blk_lt HO9.out p hp; have := HG.out; omega)⟩
          intro s
          rw [HN2.out, num0_snoc]
          show (if s = so then some (v9 + 1) else f s).getD 0 = if s = so then v9 + 1 else num0 S s
          by_cases e : s = so
          · rw [if_pos e, if_pos e]; rfl
          · rw [if_neg e, if_neg e]; exact HF.out s
        case measure => simp [intOf]; omega
    · obtain rfl : k = nl := by omega
      have how := HOW.out
      obtain ⟨sl, hsl⟩ : ∃ sl, sl = (someL l k).length := ⟨_, rfl⟩
      obtain ⟨A9, c9, e9, hR9, _⟩ := Rd.of_own encEvt_len rfl how
      rw [← hsl] at e9
      obtain ⟨D, hD⟩ : ∃ D, D = runP l at_ l.length := ⟨_, rfl⟩
      rw [HNL.out] at hsl hR9
      rw [← hD] at HTK
      have HNW := hide (HN4.out.trans HNX.out)
      have hsl20 : sl ≤ 20 := by rw [hsl]; have := HSL.out; have := HNL.out; omega
      have HRa := hide (fun W (hn : Nx wr W) => (show Calls Tryz.prog 28 #[.slice B k cB, .int .i64 at_] W fun e w' => ∃ (B' : Option Addr) (m cb : Nat) (L : List St), e = .returned (.tuple #[.slice B' m cb, .int .i64 0]) ∧ m = L.length ∧ Rd w' 0 B' 7 encSta L ∧ StsOf D.rides L ∧ m ≤ 100 ∧ Nx W w' by
        rw [HNL.out]
        refine (w_Rides w1.heap.size B cB l at_ W (HR3.out.nx (HNW.out.trans hn)) (by have := HNL.out; omega) HOK.out).mono ?_
        rintro e w' ⟨⟨B', m, cb, rfl, _, h⟩, hn'⟩
        obtain ⟨L, h1, h2, h3, h4⟩ := h HMF.out
        exact ⟨B', m, cb, L, by rw [HMF.out], h1, h2.low (Nat.zero_le _), by rw [hD]; exact h3, by have := HNL.out; omega, hn'⟩))
      have HRb := hide (fun W (hn : Nx wr W) => (show Calls Tryz.prog 28 #[.slice A9 sl c9, .int .i64 at_] W fun e w' => ∃ (B' : Option Addr) (m cb : Nat) (L : List St), e = .returned (.tuple #[.slice B' m cb, .int .i64 0]) ∧ m = L.length ∧ Rd w' 0 B' 7 encSta L ∧ StsOf D.rides L ∧ m ≤ 100 ∧ Nx W w' by
        rw [hsl]
        refine (w_Rides (g + 1) A9 c9 (someL l l.length) at_ W (hR9.nx hn) (by omega) HOS.out).mono ?_
        rintro e w' ⟨⟨B', m, cb, rfl, _, h⟩, hn'⟩
        obtain ⟨L, h1, h2, h3, h4⟩ := h HMS.out
        exact ⟨B', m, cb, L, by rw [HMS.out], h1, h2.low (Nat.zero_le _), by rw [← HTK.out]; exact h3, by omega, hn'⟩))
      have HCa := hide (fun W (hn : Nx wr W) => (show Calls Tryz.prog 29 #[.slice B k cB, .int .i64 at_] W fun e w' => ∃ (B' : Option Addr) (m cb : Nat) (L : List WrS), e = .returned (.tuple #[.slice B' m cb, .int .i64 0]) ∧ m = L.length ∧ RdWrs w' 0 B' L ∧ WrsP D (L.map (·.core)) ∧ m ≤ 100 ∧ (∀ x ∈ L, x.core.rides.length ≤ 65536) ∧ Nx W w' by
        rw [HNL.out]
        refine (w_Cars w1.heap.size B cB l at_ W (HR3.out.nx (HNW.out.trans hn)) (by have := HNL.out; omega) HOK.out).mono ?_
        rintro e w' ⟨⟨B', m, cb, rfl, _, h⟩, hn'⟩
        obtain ⟨L, h1, h2, h3, h4, h5⟩ := h HMF.out
        exact ⟨B', m, cb, L, by rw [HMF.out], h1, h2.low (Nat.zero_le _), by rw [hD]; exact h3, by have := HNL.out; omega, fun x hx => by have := h5 x hx; have := HNL.out; omega, hn'⟩))
      have HCb := hide (fun W (hn : Nx wr W) => (show Calls Tryz.prog 29 #[.slice A9 sl c9, .int .i64 at_] W fun e w' => ∃ (B' : Option Addr) (m cb : Nat) (L : List WrS), e = .returned (.tuple #[.slice B' m cb, .int .i64 0]) ∧ m = L.length ∧ RdWrs w' 0 B' L ∧ WrsP D (L.map (·.core)) ∧ m ≤ 100 ∧ (∀ x ∈ L, x.core.rides.length ≤ 65536) ∧ Nx W w' by
        rw [hsl]
        refine (w_Cars (g + 1) A9 c9 (someL l l.length) at_ W (hR9.nx hn) (by omega) HOS.out).mono ?_
        rintro e w' ⟨⟨B', m, cb, rfl, _, h⟩, hn'⟩
        obtain ⟨L, h1, h2, h3, h4, h5⟩ := h HMS.out
        exact ⟨B', m, cb, L, by rw [HMS.out], h1, h2.low (Nat.zero_le _), by rw [← HTK.out]; exact h3, by omega, fun x hx => by have := h5 x hx; omega, hn'⟩))
      subst e9
      clear hsl hR9 hD how hnx HM HF HOW
      go_wp2_with fail
      refine (HRa.out _ (Nx.refl _)).mono ?_
      rintro e w6 ⟨B6, m6, c6, L6, rfl, em6, hR6, hS6, hm6, hn6⟩
      have HN6 := hide hn6
      have HR6 := hide hR6
      have HS6 := hide hS6
      have HM6 := hide em6
      clear hn6 hR6 hS6 em6 HRa
      go_wp2_with fail
      refine (HRb.out _ HN6.out).mono ?_
      rintro e w7 ⟨B7, m7, c7, L7, rfl, em7, hR7, hS7, hm7, hn7⟩
      have hL7 : L7 = L6 := hS7.uniq HS6.out
      have HN7 := hide (HN6.out.trans hn7)
      have HR6' := hide (HR6.out.nx hn7)
      have HR7 := hide (show Rd w7 0 B7 7 encSta L6 from hL7 ▸ hR7)
      have em7' : m7 = m6 := by rw [em7, hL7, HM6.out]
      subst em7'
      clear hn7 hR7 hS7 em7 HRb hL7 HR6 HS6
      go_wp2_with fail
      refine (HCa.out _ HN7.out).mono ?_
      rintro e w8 ⟨B8, m8, c8, L8, rfl, em8, hR8, hW8, hm8, hl8, hn8⟩
      have HN8 := hide (HN7.out.trans hn8)
      have HR8 := hide hR8
      have HW8 := hide hW8
      have HM8 := hide em8
      have HL8 := hide hl8
      have HN78 := hide hn8
      clear hn8 hR8 hW8 em8 hl8 HCa
      go_wp2_with fail
      refine (HCb.out _ HN8.out).mono ?_
      rintro e w9 ⟨B9, m9, c9', L9, rfl, em9, hR9, hW9, hm9, hl9, hn9⟩
      have hco : L8.map (·.core) = L9.map (·.core) := wrs_uniq HW8.out hW9
      have HN9 := hide (HN8.out.trans hn9)
      have HQ1 := hide (fun W (hn : Nx w9 W) => (show Calls Tryz.prog 33 #[.slice B6 m7 c6, .slice B7 m7 c7] W fun e w' => e = .returned (.bool true) ∧ Nx W w' by
        rw [HM6.out]
        exact w_EqualSta 0 0 B6 B7 c6 c7 L6 W (HR6'.out.nx ((HN78.out.trans hn9).trans hn)) (HR7.out.nx ((HN78.out.trans hn9).trans hn)) (by rw [← HM6.out]; omega)))
      have HQ2 := hide (fun W (hn : Nx w9 W) => (show Calls Tryz.prog 34 #[.slice B8 m8 c8, .slice B9 m9 c9', .func (.func 35) #[] #[]] W fun e w' => e = .returned (.bool true) ∧ Nx W w' by
        rw [HM8.out, em9]
        exact w_EqualFW 35 eg_sameW w_SameWhere 0 0 B8 B9 c8 c9' L8 L9 W (HR8.out.nx (hn9.trans hn)) (hR9.nx hn) (by rw [← HM8.out]; omega) HL8.out hco))
      clear hn9 hR9 hW9 em9 hl9 HCb hco
      go_wp2_with (first
        | (go_at_call 33; refine (HQ1.out _ (Nx.refl _)).mono ?_; rintro e w10 ⟨rfl, hn10⟩; (have HN10 := hide hn10); clear hn10)
        | (go_at_call 34; refine (HQ2.out _ HN10.out).mono ?_; rintro e w11 ⟨rfl, hn11⟩; (have HN11 := hide (HN10.out.trans hn11)); clear hn11)
        | (go_at_call 30; refine (w_ready _).mono ?_; rintro e w12 ⟨rfl, hn12⟩))
      go_ret
      exact ⟨rfl, HT.out _ (((HNW.out.trans HN9.out).trans HN11.out).trans hn12)⟩
end Go.Proofs.YtfkmbeppckelfaaGreatDoor
