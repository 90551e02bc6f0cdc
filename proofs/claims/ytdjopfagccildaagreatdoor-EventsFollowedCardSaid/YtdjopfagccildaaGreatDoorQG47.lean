/- Which events were taken back, by the program. -/
import Derived.Test.YtdjopfagccildaaGreatDoorQG43
import Derived.Test.YtdjopfagccildaaGreatDoorQG23
import Derived.Test.YtdjopfagccildaaGreatDoorQG21
import Derived.Test.YtdjopfagccildaaGreatDoorQG1
import Derived.Test.YtdjopfagccildaaGreatDoorQG6
import Derived.Test.YtdjopfagccildaaGreatDoorQG4
namespace Go.Proofs.YtdjopfagccildaaGreatDoor
open Go.RowKit Go.Maps

theorem undoneL_up (l : List Ev) : ∀ k, (undoneL l k).Pairwise (fun a b => a < b) ∧ ∀ z ∈ undoneL l k, z < (k : Int)
  | 0 => by simp [undoneL]
  | k + 1 => by
    obtain ⟨h1, h2⟩ := undoneL_up l k
    unfold undoneL
    split
    · refine ⟨List.pairwise_append.2 ⟨h1, by simp, fun a ha b hb => by rw [List.mem_singleton.1 hb]; exact h2 a ha⟩, fun z hz => ?_⟩
      rcases List.mem_append.1 hz with hz | hz
      · have := h2 z hz; omega
      · rw [List.mem_singleton.1 hz]; omega
    · exact ⟨h1, fun z hz => by have := h2 z hz; omega⟩
/-- The map's keys, in order, are the reference's list. -/
theorem gone_undone {l : List Ev} {ks : List Int} (h : KeysOfI (goneM l l.length).1 ks) : ks = undoneL l l.length := by
  refine strict_uniq (r := fun a b : Int => a < b) (fun _ => Int.lt_irrefl _) (fun _ _ _ => Int.lt_trans) h.1 (undoneL_up l _).1 (fun z => ?_)
  rw [h.2, undoneL_mem, (goneM_spec l l.length).1]
  constructor
  · rintro ⟨t, rfl, h1, h2⟩
    rw [List.take_length] at h2
    exact ⟨t, rfl, gone_tgt h2, by unfold goneB; rw [h2]; simp [h1]⟩
  · rintro ⟨i, rfl, h1, h2⟩
    unfold goneB at h2
    simp only [Bool.and_eq_true, decide_eq_true_eq] at h2
    exact ⟨i, rfl, h2.1, by rw [List.take_length]; exact h2.2⟩
/-- What Undone answers. -/
def UndEnd (l : List Ev) (w : World) (e : Ending) (w' : World) : Prop :=
  (∃ (B : Option Addr) (m cb : Nat), e = .returned (.tuple #[.slice B m cb, .int .i64 (evsF l)]) ∧ (evsF l ≠ 0 → B = none ∧ m = 0) ∧ (evsF l = 0 → m = (undoneL l l.length).length ∧ Rd w' w.heap.size B 1 encI (undoneL l l.length))) ∧ Nx w w'
set_option maxRecDepth 100000 in
set_option maxHeartbeats 2000000 in
theorem w_Undone (lo : Nat) (A : Option Addr) (c : Nat) (l : List Ev) (w : World) (hR : Rd w lo A 11 encEvt l) (hl : l.length ≤ 50) (hok : ∀ x ∈ l, okEv x) :
    Calls Tryz.prog 12 #[.slice A l.length c] w (UndEnd l w) := by
  have HC := hide (w_CheckEvents lo A c l w hR hl hok)
  have HFO := hide (fun (h : evsF l = 0) (W : World) (hn : Nx w W) => w_follow lo A c l endMo W (hR.nx hn) (by omega) h)
  unfold UndEnd
  have hq : evsF l = 0 ∨ (evsF l != 0) = true := by simp; omega
  rcases hq with hq | hq
  · have HQ := hide hq
    rw [hq] at HC ⊢
    have HFO2 := hide (HFO.out hq)
    obtain ⟨us, hus⟩ : ∃ us, us = undoneL l l.length := ⟨_, rfl⟩
    rw [← hus]
    have HUS := hide hus
    obtain ⟨n, hn⟩ : ∃ n, n = l.length := ⟨_, rfl⟩
    have hnl : n ≤ 50 := by omega
    rw [← hn] at HC HFO2 ⊢
    have HN := hide hn
    clear hR hl hok hq hus hn HFO
    unfold endMo at HFO2
    go_enter Tryz.func12, Tryz.ntmps12
    go_wp2_with fail
    refine HC.out.mono ?_
    rintro e w2 ⟨rfl, hn2⟩
    have HFO3 := hide (HFO2.out w2 hn2)
    have HN2 := hide hn2
    clear hn2
    go_wp2_with fail
    refine HFO3.out.mono ?_
    rintro e w3 ⟨lo3, d, rb, cb, gb, bb, rv, fr, fc, fm, rfl, hD, hblk, hrow, hG, h1, h2, h3, h4, h5, hnx⟩
    have d4 := (day_cells hblk).2.2.2.2.1
    rw [← HN.out] at hG
    have HS := hide (w_SortedII gb n (goneM l n).1 w3 (by rw [HN.out] at hG ⊢; exact hG) (by omega))
    have HNX := hide hnx
    clear hD hblk hrow hG hnx
    go_wp2_with (go_at_call 59; refine (w_KeysII _ _).mono ?_; rintro e w' ⟨rfl, rfl⟩)
    refine HS.out.mono ?_
    rintro e w4 ⟨KA, kc, ks, rfl, hRk, hK, hkl, hn4⟩
    have hks : ks = us := by rw [HUS.out]; rw [HN.out] at hK; exact gone_undone hK
    subst hks
    have HRK := hide hRk
    have HN4 := hide hn4
    clear hRk hK hn4 hkl
    go_wp2_with fail
    go_ret2
    exact ⟨⟨_, _, _, rfl, fun h => absurd rfl h, fun _ => ⟨rfl, HRK.out.low (HN2.out.trans HNX.out).sz⟩⟩, (HN2.out.trans HNX.out).trans HN4.out⟩
  · have HQ := hide (show evsF l ≠ 0 by simpa using hq)
    generalize evsF l = f at *
    generalize l.length = n at *
    clear hR hl hok HFO
    go_enter Tryz.func12, Tryz.ntmps12
    go_wp2_with fail
    refine HC.out.mono ?_
    rintro e w2 ⟨rfl, hn2⟩
    go_wp2_with fail
    go_ret2
    exact ⟨⟨_, _, _, rfl, fun _ => ⟨rfl, rfl⟩, fun h => absurd h HQ.out⟩, hn2⟩
end Go.Proofs.YtdjopfagccildaaGreatDoor
/- slices.Equal of two rows of numbers that are the same. -/
namespace Go.Proofs.YtdjopfagccildaaGreatDoor
open Go.RowKit

set_option maxRecDepth 100000 in
set_option maxHeartbeats 1000000 in
theorem w_EqualIJ (lo lo' : Nat) (A B : Option Addr) (c d : Nat) (l : List Int) (w : World) (hA : Rd w lo A 1 encI l) (hB : Rd w lo' B 1 encI l) (hl : l.length ≤ 65536) :
    Calls Tryz.prog 15 #[.slice A l.length c, .slice B l.length d] w fun e w' => e = .returned (.bool true) ∧ Nx w w' := by
  generalize hn : l.length = n at *
  have HA := hide hA
  have HB := hide hB
  have HN := hide hn
  clear hA hB hn
  go_enter Tryz.func15, Tryz.ntmps15
  go_wp2
  go_loopw [5, 13] (fun _ i wr => ∃ k : Nat, k ≤ n ∧ i = .int .i64 k ∧ Nx w wr) (fun _ i _ => n - (intOf i).toNat)
  case atStart => exact ⟨0, Nat.zero_le _, rfl, Nx.refl _⟩
  case round =>
    obtain ⟨k, hk, rfl, hbw⟩ := hrel
    by_cases hlt : k < n
    · have hlt' : k < l.length := by have := HN.out; omega
      obtain ⟨b, off, rfl, _, hb, hbr, hc⟩ := HA.out.open_ hbw (by omega)
      obtain ⟨b', off', rfl, _, hb', hbr', hc'⟩ := HB.out.open_ hbw (by omega)
      have c0 : wr.cell? ⟨b, off + k, none⟩ = some (.int .i64 l[k]) := by have := hc k hlt' 0 _ rfl; simpa using this
      have d0 : wr.cell? ⟨b', off' + k, none⟩ = some (.int .i64 l[k]) := by have := hc' k hlt' 0 _ rfl; simpa using this
      clear hc hc'
      have q1 : (0 : Int) ≤ (k : Int) := by omega
      have q2 : (k : Int) < (n : Int) := by omega
      go_wp2_with fail
      go_quiet (fail)
      go_wp2
      go_roundw
      case rel => exact ⟨k + 1, by omega, by go_num, hbw.drewN _⟩
      case measure => simp [intOf]; omega
    · go_wp2
      go_ret
      exact ⟨rfl, hbw⟩
end Go.Proofs.YtdjopfagccildaaGreatDoor
/- How one ride is, by the program. -/
namespace Go.Proofs.YtdjopfagccildaaGreatDoor
open Go.RowKit Go.Maps

def rideF (l : List Ev) (ride : ByteArray) (at_ : Int) : Int := if evsF l = 0 then (if keyB ride then (if momB at_ then 0 else 1) else 5) else evsF l
/-- What RideOf answers. -/
def RideEnd (l : List Ev) (ride : ByteArray) (at_ : Int) (w : World) (e : Ending) (w' : World) : Prop :=
  ∃ (s : St) (b : Bool), e = .returned (.tuple #[.agg (staV s), .bool b, .int .i64 (rideF l ride at_)]) ∧ (rideF l ride at_ ≠ 0 → s = st0 ∧ b = false) ∧ (rideF l ride at_ = 0 → s = ((runP l at_ l.length).rides ride).getD st0 ∧ b = ((runP l at_ l.length).rides ride).isSome) ∧ Nx w w'
theorem sta0_cells (w : World) {w1 : World} (h : w1 = w.alloc (.cells (staV st0) 51 (0, 0))) : (w1.cell? ⟨w.heap.size, 0, none⟩ = some (.string ⟨#[]⟩) ∧ w1.cell? ⟨w.heap.size, 1, none⟩ = some (.string ⟨#[]⟩) ∧ w1.cell? ⟨w.heap.size, 2, none⟩ = some (.int .i64 0) ∧ w1.cell? ⟨w.heap.size, 3, none⟩ = some (.int .i64 0) ∧ w1.cell? ⟨w.heap.size, 4, none⟩ = some (.int .i64 0) ∧ w1.cell? ⟨w.heap.size, 5, none⟩ = some (.int .i64 0) ∧ w1.cell? ⟨w.heap.size, 6, none⟩ = some (.int .i64 0)) ∧ (∀ i, w1.frozen? ⟨w.heap.size, i, none⟩ = false) ∧ w.heap.size < w1.heap.size ∧ Nx w w1 ∧ w1.heap[w.heap.size]? = some (staO st0) := by
  have hb : w1.heap[w.heap.size]? = some (staO st0) := h ▸ heap_alloc_new _ _
  refine ⟨sta_cells hb, fun i => by simp [World.frozen?, hb, staO], by rw [h]; simp, h ▸ (Nx.refl w).alloc _, hb⟩
set_option maxRecDepth 100000 in
set_option maxHeartbeats 2000000 in
theorem w_RideOf1 (lo : Nat) (A : Option Addr) (c : Nat) (l : List Ev) (ride : ByteArray) (at_ : Int) (w : World) (hR : Rd w lo A 11 encEvt l) (hl : l.length ≤ 50) (hok : ∀ x ∈ l, okEv x) (hr : ride.size ≤ 1000) (hf : rideF l ride at_ ≠ 0) :
    Calls Tryz.prog 19 #[.slice A l.length c, .string ride, .int .i64 at_] w fun e w' => e = .returned (.tuple #[.agg (staV st0), .bool false, .int .i64 (rideF l ride at_)]) ∧ Nx w w' := by
  obtain ⟨w1, hw1⟩ : ∃ w1, w1 = w.alloc (.cells (staV st0) 51 (0, 0)) := ⟨_, rfl⟩
  obtain ⟨⟨a0, a1, a2, a3, a4, a5, a6⟩, hfz, hsz, hn1, _⟩ := sta0_cells w hw1
  have HC := hide (w_CheckEvents lo A c l w1 (hR.nx hn1) hl hok)
  obtain ⟨f, hfe⟩ : ∃ f, f = evsF l := ⟨_, rfl⟩
  have hrf := hide (show rideF l ride at_ = if f = 0 then (if keyB ride = true then (if momB at_ = true then 0 else 1) else 5) else f by rw [hfe]; rfl)
  rw [← hfe] at HC
  obtain ⟨r, hre⟩ : ∃ r, r = rideF l ride at_ := ⟨_, rfl⟩
  rw [← hre] at hrf hf ⊢
  obtain ⟨n, hn⟩ : ∃ n, n = l.length := ⟨_, rfl⟩
  rw [← hn] at HC ⊢
  have hns : ∀ w2, Nx w1 w2 → w2.heap[w.heap.size]? = some (staO st0) := fun w2 h => (h.block _ hsz).trans (by rw [hw1]; exact heap_alloc_new _ _)
  have HNS := hide hns
  have HN1 := hide hn1
  unfold staV st0 at hw1
  simp only [eB] at hw1
  clear hR hl hok hfe hre hn hns hn1 a0 a1 a2 a3 a4 a5 a6 hfz
  obtain ⟨g, hg⟩ : ∃ g, g = w.heap.size := ⟨_, rfl⟩
  have HG := hide hg
  go_enter Tryz.func19, Tryz.ntmps19
  go_upto_region 1 with fail
  rw [← hw1, ← hg]
  rw [← hg] at HNS
  clear hw1 hg hsz
  go_wp2_with fail
  refine HC.out.mono ?_
  rintro e w2 ⟨rfl, hn2⟩
  have hb2 := HNS.out w2 hn2
  obtain ⟨a0, a1, a2, a3, a4, a5, a6⟩ := sta_cells hb2
  simp only [st0, eB] at a0 a1 a2 a3 a4 a5 a6
  have hfz : ∀ i, w2.frozen? ⟨g, i, none⟩ = false := fun i => by simp [World.frozen?, hb2, staO]
  have hgl : g < w2.heap.size := (Array.getElem?_eq_some_iff.1 hb2).1
  have HN2 := hide (HN1.out.trans hn2)
  have hgg : w.heap.size ≤ g := by have := HG.out; omega
  have HB := hide hb2
  clear hb2 hn2 HC HNS
  have hq : f = 0 ∨ (f != 0) = true := by simp; omega
  rcases hq with rfl | hq
  · cases hk : keyB ride with
    | false =>
      have hr5 : r = 5 := by rw [hrf.out]; simp [hk]
      have HR5 := hide hr5
      clear hrf hr5 hf
      go_wp2_with (go_at_call 73; refine (w_Key _ _ (by omega)).mono ?_; rintro e w' ⟨rfl, rfl⟩)
      exact bodyPost_ret (v := .tuple #[.agg (staV st0), .bool false, .int .i64 5]) (by simp [results, Tryz.results19, go_sem, a0, a1, a2, a3, a4, a5, a6, staV, st0, eB]) rfl ⟨by rw [HR5.out], by with_reducible exact (((((((HN2.out.setCell hgg _).setCell hgg _).setCell hgg _).setCell hgg _).setCell hgg _).setCell hgg _).setCell hgg _)⟩
    | true =>
      have hm : momB at_ = false := by
        cases hm : momB at_ with
        | false => rfl
        | true => exact absurd (by rw [hrf.out]; simp [hk, hm]) hf
      have hr1 : r = 1 := by rw [hrf.out]; simp [hk, hm]
      have HR1 := hide hr1
      clear hrf hr1 hf
      go_wp2_with (first
        | (go_at_call 73; refine (w_Key _ _ (by omega)).mono ?_; rintro e w' ⟨rfl, rfl⟩)
        | (go_at_call 74; refine (w_Moment _ _).mono ?_; rintro e w' ⟨rfl, rfl⟩))
      exact bodyPost_ret (v := .tuple #[.agg (staV st0), .bool false, .int .i64 1]) (by simp [results, Tryz.results19, go_sem, a0, a1, a2, a3, a4, a5, a6, staV, st0, eB]) rfl ⟨by rw [HR1.out], by with_reducible exact (((((((HN2.out.setCell hgg _).setCell hgg _).setCell hgg _).setCell hgg _).setCell hgg _).setCell hgg _).setCell hgg _)⟩
  · have hrF : r = f := by rw [hrf.out, if_neg (by simpa using hq)]
    have HRF := hide hrF
    clear hrf hrF hf
    go_wp2_with fail
    exact bodyPost_ret (v := .tuple #[.agg (staV st0), .bool false, .int .i64 f]) (by simp [results, Tryz.results19, go_sem, a0, a1, a2, a3, a4, a5, a6, staV, st0, eB]) rfl ⟨by rw [HRF.out], by with_reducible exact (((((((HN2.out.setCell hgg _).setCell hgg _).setCell hgg _).setCell hgg _).setCell hgg _).setCell hgg _).setCell hgg _)⟩
set_option maxRecDepth 100000 in
set_option maxHeartbeats 2000000 in
theorem w_RideOf0 (lo : Nat) (A : Option Addr) (c : Nat) (l : List Ev) (ride : ByteArray) (at_ : Int) (w : World) (hR : Rd w lo A 11 encEvt l) (hl : l.length ≤ 50) (hok : ∀ x ∈ l, okEv x) (hr : ride.size ≤ 1000) (h1 : evsF l = 0) (h2 : keyB ride = true) (h3 : momB at_ = true) :
    Calls Tryz.prog 19 #[.slice A l.length c, .string ride, .int .i64 at_] w fun e w' => e = .returned (.tuple #[.agg (staV (((runP l at_ l.length).rides ride).getD st0)), .bool ((runP l at_ l.length).rides ride).isSome, .int .i64 0]) ∧ Nx w w' := by
  obtain ⟨w1, hw1⟩ : ∃ w1, w1 = w.alloc (.cells (staV st0) 51 (0, 0)) := ⟨_, rfl⟩
  obtain ⟨_, _, hsz, hn1, _⟩ := sta0_cells w hw1
  have HC := hide (w_CheckEvents lo A c l w1 (hR.nx hn1) hl hok)
  have HFO := hide (fun (W : World) (hn : Nx w1 W) => w_follow lo A c l at_ W ((hR.nx hn1).nx hn) (by omega) h1)
  rw [h1] at HC
  obtain ⟨D, hD⟩ : ∃ D, D = runP l at_ l.length := ⟨_, rfl⟩
  obtain ⟨q, hqd⟩ : ∃ q, q = D.rides ride := ⟨_, rfl⟩
  rw [← hD, ← hqd]
  have HD := hide hD
  have HQ := hide hqd
  obtain ⟨n, hn⟩ : ∃ n, n = l.length := ⟨_, rfl⟩
  rw [← hn] at HC HFO ⊢
  have HN := hide hn
  have hns : ∀ w2, Nx w1 w2 → w2.heap[w.heap.size]? = some (staO st0) := fun w2 h => (h.block _ hsz).trans (by rw [hw1]; exact heap_alloc_new _ _)
  have HNS := hide hns
  have HN1 := hide hn1
  unfold staV st0 at hw1
  simp only [eB] at hw1
  clear hR hl hok hn hns hn1 hD hqd h1
  obtain ⟨g, hg⟩ : ∃ g, g = w.heap.size := ⟨_, rfl⟩
  have HG := hide hg
  go_enter Tryz.func19, Tryz.ntmps19
  go_upto_region 1 with fail
  rw [← hw1, ← hg]
  rw [← hg] at HNS
  clear hw1 hg hsz
  go_wp2_with fail
  refine HC.out.mono ?_
  rintro e w2 ⟨rfl, hn2⟩
  have HF2 := hide (HFO.out w2 hn2)
  have HN2 := hide hn2
  clear hn2 HC HFO
  go_wp2_with (first
    | (go_at_call 73; refine (w_Key _ _ (by omega)).mono ?_; rintro e w' ⟨rfl, rfl⟩)
    | (go_at_call 74; refine (w_Moment _ _).mono ?_; rintro e w' ⟨rfl, rfl⟩))
  refine HF2.out.mono ?_
  rintro e w3 ⟨lo3, d, rb, cb, gb, bb, rv, fr, fc, fm, rfl, hDW, hblk, _, _, _, _, _, _, _, hnx⟩
  have hb3 := HNS.out w3 (HN2.out.trans hnx)
  obtain ⟨a0, a1, a2, a3, a4, a5, a6⟩ := sta_cells hb3
  simp only [st0, eB] at a0 a1 a2 a3 a4 a5 a6
  have hfz : ∀ i, w3.frozen? ⟨g, i, none⟩ = false := fun i => by simp [World.frozen?, hb3, staO]
  have hgl : g < w3.heap.size := (Array.getElem?_eq_some_iff.1 hb3).1
  have d1 := (day_cells hblk).2.1
  rw [← HD.out] at hDW
  have hlk := look_ride hDW.rides.map (key := ride) (domS_1000 hr)
  have HN3 := hide ((HN1.out.trans HN2.out).trans hnx)
  have hgg : w.heap.size ≤ g := by have := HG.out; omega
  have HB := hide hb3
  cases q with
  | none =>
    rw [hDW.rides.non ride HQ.out.symm] at hlk
    simp only [Option.getD_none, ptrV] at hlk
    have HDW := hide hDW
    clear hb3 hnx hDW hblk
    go_wp2_with fail
    exact bodyPost_ret (v := .tuple #[.agg (staV st0), .bool false, .int .i64 0]) (by simp [results, Tryz.results19, go_sem, a0, a1, a2, a3, a4, a5, a6, staV, st0, eB]) rfl ⟨rfl, by with_reducible exact (((((((HN3.out.setCell hgg _).setCell hgg _).setCell hgg _).setCell hgg _).setCell hgg _).setCell hgg _).setCell hgg _)⟩
  | some s =>
    obtain ⟨p, hp, _, hpo⟩ := hDW.rides.at_ ride s HQ.out.symm
    rw [hp] at hlk
    simp only [Option.getD_some, ptrV] at hlk
    obtain ⟨s0, s1, s2, s3, s4, s5, s6⟩ := sta_cells hpo
    have HDW := hide hDW
    have HP := hide hpo
    clear hb3 hnx hDW hblk hp hpo
    go_wp2_with fail
    exact bodyPost_ret (v := .tuple #[.agg (staV s), .bool true, .int .i64 0]) (by simp [results, Tryz.results19, go_sem, a0, a1, a2, a3, a4, a5, a6, staV]) rfl ⟨rfl, by with_reducible exact (((((((HN3.out.setCell hgg _).setCell hgg _).setCell hgg _).setCell hgg _).setCell hgg _).setCell hgg _).setCell hgg _)⟩
theorem w_RideOf (lo : Nat) (A : Option Addr) (c : Nat) (l : List Ev) (ride : ByteArray) (at_ : Int) (w : World) (hR : Rd w lo A 11 encEvt l) (hl : l.length ≤ 50) (hok : ∀ x ∈ l, okEv x) (hr : ride.size ≤ 1000) :
    Calls Tryz.prog 19 #[.slice A l.length c, .string ride, .int .i64 at_] w (RideEnd l ride at_ w) := by
  by_cases hf : rideF l ride at_ = 0
  · have h1 : evsF l = 0 := by
      rcases Decidable.em (evsF l = 0) with h | h
      · exact h
      · unfold rideF at hf; rw [if_neg h] at hf; exact absurd hf h
    unfold rideF at hf
    rw [if_pos h1] at hf
    have h2 : keyB ride = true := by
      cases h : keyB ride with
      | true => rfl
      | false => rw [h] at hf; simp at hf
    rw [if_pos h2] at hf
    have h3 : momB at_ = true := by
      cases h : momB at_ with
      | true => rfl
      | false => rw [h] at hf; simp at hf
    have hf0 : rideF l ride at_ = 0 := by unfold rideF; rw [if_pos h1, if_pos h2, if_pos h3]
    refine (w_RideOf0 lo A c l ride at_ w hR hl hok hr h1 h2 h3).mono ?_
    rintro e w' ⟨rfl, hn⟩
    exact ⟨_, _, by rw [hf0], fun h => absurd hf0 h, fun _ => ⟨rfl, rfl⟩, hn⟩
  · refine (w_RideOf1 lo A c l ride at_ w hR hl hok hr hf).mono ?_
    rintro e w' ⟨rfl, hn⟩
    exact ⟨_, _, rfl, fun _ => ⟨rfl, rfl⟩, fun h => absurd h hf, hn⟩
end Go.Proofs.YtdjopfagccildaaGreatDoor
/- What the reference refuses; how one ride is. -/
namespace Go.Proofs.YtdjopfagccildaaGreatDoor
open Go.RowKit Go.Maps

theorem refR_len (l : List Ev) (at_ : Int) : ∀ k, (refR l at_ k).length ≤ k
  | 0 => Nat.le_refl _
  | k + 1 => by
    have := refR_len l at_ k
    unfold refR
    split
    · omega
    · split
      · omega
      · simp; omega
set_option maxRecDepth 100000 in
set_option maxHeartbeats 2000000 in
theorem w_RefusedEvents (lo : Nat) (A : Option Addr) (c : Nat) (l : List Ev) (at_ : Int) (w : World) (hR : Rd w lo A 11 encEvt l) (hl : l.length ≤ 1000) (hc : l.length ≤ c) (hok : ∀ x ∈ l, okEv x) (hat : ∀ x ∈ l, x.at_ ≤ at_) :
    Calls Tryz.prog 14 #[.slice A l.length c] w fun e w' => ∃ (B : Option Addr) (m : Nat), e = .returned (.slice B (refR l at_ l.length).length m) ∧ Rd w' w.heap.size B 2 encRef (refR l at_ l.length) ∧ Nx w w' := by
  have HU := hide (fun (W : World) (hn : Nx w W) => w_UndoneOf lo A c l W (hR.nx hn) hl)
  have HR := hide hR
  have HOK := hide hok
  have HAT := hide hat
  have HC := hide hc
  have HL := hide hl
  have hul := undoneL_len l l.length
  obtain ⟨us, hus⟩ : ∃ us, us = undoneL l l.length := ⟨_, rfl⟩
  rw [← hus] at HU hul
  have HUS := hide hus
  obtain ⟨n, hn⟩ : ∃ n, n = l.length := ⟨_, rfl⟩
  rw [← hn] at HU hul
  rw [← hn]
  have HN := hide hn
  have hnl : n ≤ 1000 := by omega
  have HUL := hide hul
  clear hR hok hc hl hus hn hul hat
  go_enter Tryz.func14, Tryz.ntmps14
  go_wp2_with fail
  refine (w_newDay w).mono ?_
  rintro e w1 ⟨rfl, hD1, hn1⟩
  obtain ⟨d, hd⟩ : ∃ d, d = w.heap.size + 3 := ⟨_, rfl⟩
  obtain ⟨rb, hrb⟩ : ∃ rb, rb = w.heap.size := ⟨_, rfl⟩
  obtain ⟨cb, hcb⟩ : ∃ cb, cb = w.heap.size + 1 := ⟨_, rfl⟩
  obtain ⟨bb, hbb⟩ : ∃ bb, bb = w.heap.size + 2 := ⟨_, rfl⟩
  rw [← hd, ← hcb, ← hbb] at hD1
  rw [← hrb] at hD1
  rw [← hd]
  have HLO := hide (show w.heap.size ≤ d ∧ w.heap.size ≤ rb ∧ w.heap.size ≤ cb ∧ w.heap.size ≤ bb by omega)
  have HD1 := hide hD1
  have HU1 := hide (HU.out w1 hn1)
  have HN1 := hide hn1
  clear hD1 hn1 HU hd hrb hcb hbb
  go_wp2_with fail
  refine HU1.out.mono ?_
  rintro e w2 ⟨v, rfl, hrow, hn2⟩
  obtain ⟨U, uc, eU, hU, _⟩ := Rd.of_own encIE_len rfl hrow
  subst eU
  obtain ⟨ul, hule⟩ : ∃ ul, ul = us.length := ⟨_, rfl⟩
  rw [← hule]
  have HULE := hide hule
  have HUR := hide hU
  have HD2 := hide (HD1.out.nx hn2)
  have HN2 := hide (HN1.out.trans hn2)
  have HZ := hide HD1.out.lts
  have HZ2 := hide HD2.out.lts
  clear hrow hU hn2 hule
  go_wp2_with fail
  go_loopw [5, 6, 7, 13] (fun v _ _ i wr => ∃ k : Nat, k ≤ n ∧ i = .int .i64 k ∧ DayRW wr d rb cb bb (3 * k) (runR l at_ k) ∧ FrR rb cb bb w2 wr ∧ wr.ownsRow w2.heap.size 40 2 v (refR l at_ k).length ((refR l at_ k).flatMap encRef)) (fun _ _ _ i _ => n - (intOf i).toNat)
  case atStart => exact ⟨0, Nat.zero_le _, rfl, HD2.out, FrR.refl _ _ _ _, World.ownsRow_nil _ _ _ _⟩
  case round =>
    obtain ⟨k, hk, rfl, hD, hF, hown⟩ := hrel
    have HD := hide hD
    have HF := hide hF
    have HOW := hide hown
    have hnx := hF.toNx HN2.out HLO.out.2.1 HLO.out.2.2.1 HLO.out.2.2.2
    have HNX := hide hnx
    by_cases hlt : k < n
    · have hlt' : k < l.length := by have := HN.out; omega
      obtain ⟨x, hx⟩ : ∃ x, l[k]? = some x := ⟨l[k], List.getElem?_eq_getElem hlt'⟩
      have hxm := List.mem_of_getElem? hx
      have hrun := hide (show runR l at_ (k + 1) = (stepL l k x (runR l at_ k)).1 by rw [runR, hx]; exact if_pos (HAT.out x hxm))
      have href := hide (show refR l at_ (k + 1) = if (stepL l k x (runR l at_ k)).2 = 0 then refR l at_ k else refR l at_ k ++ [((k : Int), (stepL l k x (runR l at_ k)).2)] by rw [refR, hx])
      have hST := w_stepR lo w1.heap.size A U c uc k l x d rb cb bb (3 * k) (runR l at_ k) wr (HR.out.nx hnx) (by rw [← HUS.out]; exact HUR.out.frR hF HZ.out.2.1 HZ.out.2.2.1 HZ.out.2.2.2) hD HL.out HC.out hx (HOK.out x hxm) (by omega)
      rw [← HUS.out, ← HN.out, ← HULE.out] at hST
      have HST := hide hST
      have hlen := refR_len l at_ k
      generalize (stepL l k x (runR l at_ k)) = r at HST hrun href
      obtain ⟨D', f⟩ := r
      generalize refR l at_ k = L at *
      have q1 : (0 : Int) ≤ (k : Int) := by omega
      have q2 : (k : Int) < (n : Int) := by omega
      clear hD hF hnx hx hxm hST hown
      have qf : f = 0 ∨ (f != 0) = true := by simp; omega
      rcases qf with rfl | qf
      · have hre := hide (show refR l at_ (k + 1) = L by rw [href.out]; exact if_pos rfl)
        go_wp2_with (go_at_call 61; refine HST.out.mono ?_; rintro e w5 ⟨rfl, hD5, hF5⟩; (have HD5 := hide hD5); (have HF5 := hide hF5); clear hD5 hF5)
        go_roundw
        case rel => exact ⟨k + 1, by omega, by go_num, by rw [hrun.out]; exact HD5.out, HF.out.trans HF5.out, by rw [hre.out]; exact own_same HOW.out HF5.out.size (fun g o hg ho => (HF5.out.block g (Array.getElem?_eq_some_iff.1 ho).1 (by have := own_blk_lt HOW.out g hg; have := HZ2.out; omega) (by have := own_blk_lt HOW.out g hg; have := HZ2.out; omega) (by have := own_blk_lt HOW.out g hg; have := HZ2.out; omega)).trans ho)⟩
        case measure => simp [intOf]; omega
      · have hre := hide (show refR l at_ (k + 1) = L ++ [((k : Int), f)] by rw [href.out]; exact if_neg (by simpa using qf))
        go_wp2_with (first
          | (go_at_call 61; refine HST.out.mono ?_; rintro e w5 ⟨rfl, hD5, hF5⟩; (have HD5 := hide hD5); (have HF5 := hide hF5); (have HO5 := hide (own_same HOW.out hF5.size (fun g o hg ho => (hF5.block g (Array.getElem?_eq_some_iff.1 ho).1 (by have := own_blk_lt HOW.out g hg; have := HZ2.out; omega) (by have := own_blk_lt HOW.out g hg; have := HZ2.out; omega) (by have := own_blk_lt HOW.out g hg; have := HZ2.out; omega)).trans ho))); (have hz5 : w2.heap.size ≤ w5.heap.size := Nat.le_trans HF.out.size hF5.size); clear hD5 hF5)
          | (at_builtin; refine wpApp rfl _ _ _ rfl el_Ref encRef encRef_len encRef_one (by omega) (by omega) w2.heap.size _ L rfl (HO5.out.alloc _) _ ((k : Int), f) _ rfl (hnew (by simp)) rfl (by omega) (by simp; omega) ?_; intro v8 w8 hown8 hg8; (have HO8 := hide hown8); (have HG8 := hide hg8); clear hown8 hg8))
        go_roundw
        case rel => exact ⟨k + 1, by omega, by go_num, by rw [hrun.out]; exact (HD5.out.nx ((Nx.refl _).alloc _)).grown HG8.out (fun p hp => by have := own_blk_lt HO5.out p hp; have := HZ2.out; omega), (HF.out.trans (HF5.out.trans (FrR.nx ((Nx.refl _).alloc _)))).newer HG8.out (fun p hp => own_blk_lt HO5.out p hp), by rw [hre.out]; exact HO8.out⟩
        case measure => simp [intOf]; omega
    · obtain rfl : k = n := by omega
      clear hD hF hnx hown
      obtain ⟨B, m, eB, hB, _⟩ := Rd.of_own encRef_len rfl HOW.out
      subst eB
      have HB := hide hB
      clear hB
      go_wp2_with fail
      go_ret
      exact ⟨B, m, rfl, HB.out.low HN2.out.sz, HNX.out⟩
/-- How one ride is, by the reference. -/
def StateEnd (l : List Ev) (ride : ByteArray) (at_ : Int) (w : World) (e : Ending) (w' : World) : Prop :=
  e = .returned (.tuple #[.agg (staV (((runR l at_ l.length).rides ride).getD st0)), .bool ((runR l at_ l.length).rides ride).isSome]) ∧ Nx w w'
set_option maxRecDepth 100000 in
set_option maxHeartbeats 2000000 in
theorem w_StateOf (lo : Nat) (A : Option Addr) (c : Nat) (l : List Ev) (ride : ByteArray) (at_ : Int) (w : World) (hR : Rd w lo A 11 encEvt l) (hl : l.length ≤ 1000) (hc : l.length ≤ c) (hok : ∀ x ∈ l, okEv x) (hr : ride.size ≤ 1000) :
    Calls Tryz.prog 23 #[.slice A l.length c, .string ride, .int .i64 at_] w (StateEnd l ride at_ w) := by
  obtain ⟨w1, hw1⟩ : ∃ w1, w1 = w.alloc (.cells (staV st0) 51 (0, 0)) := ⟨_, rfl⟩
  obtain ⟨_, _, hsz, hn1, _⟩ := sta0_cells w hw1
  have hns : ∀ w2, Nx w1 w2 → w2.heap[w.heap.size]? = some (staO st0) := fun w2 h => (h.block _ hsz).trans (by rw [hw1]; exact heap_alloc_new _ _)
  have HNS := hide hns
  have HN1 := hide hn1
  have HDA := hide (w_dayAt lo A c l at_ w1 (hR.nx hn1) hl hc hok)
  have hkr := domS_1000 hr
  unfold StateEnd
  obtain ⟨D, hD⟩ : ∃ D, D = runR l at_ l.length := ⟨_, rfl⟩
  rw [← hD]
  have HD := hide hD
  obtain ⟨n, hn⟩ : ∃ n, n = l.length := ⟨_, rfl⟩
  rw [← hn] at HDA ⊢
  unfold staV st0 at hw1
  simp only [eB] at hw1
  clear hR hl hc hok hn hns hn1 hD
  obtain ⟨g, hg⟩ : ∃ g, g = w.heap.size := ⟨_, rfl⟩
  have HG := hide hg
  obtain ⟨s, hs⟩ : ∃ s, s = (D.rides ride).getD st0 := ⟨_, rfl⟩
  obtain ⟨is_, his⟩ : ∃ q, q = (D.rides ride).isSome := ⟨_, rfl⟩
  rw [← hs, ← his]
  have HS := hide hs
  have HIS := hide his
  clear hs his
  go_enter Tryz.func23, Tryz.ntmps23
  go_upto_region 1 with fail
  rw [← hw1, ← hg]
  rw [← hg] at HNS
  clear hw1 hg hsz
  go_wp2_with fail
  refine HDA.out.mono ?_
  rintro e w3 ⟨d, rb, cb, bb, rfl, hDR, _, hnx⟩
  rw [← HD.out] at hDR
  have hlk := look_stRk hDR.rides hkr
  rw [← HS.out, ← HIS.out] at hlk
  obtain ⟨d0, d1, d2⟩ := dayR_cells hDR.blk
  have hb3 := HNS.out w3 hnx
  have hgl : g < w3.heap.size := (Array.getElem?_eq_some_iff.1 hb3).1
  obtain ⟨a0, a1, a2, a3, a4, a5, a6⟩ := sta_cells hb3
  simp only [st0, eB] at a0 a1 a2 a3 a4 a5 a6
  have hfz : ∀ i, w3.frozen? ⟨g, i, none⟩ = false := fun i => by simp [World.frozen?, hb3, staO]
  have HN3 := hide (HN1.out.trans hnx)
  have hgg : w.heap.size ≤ g := by have := HG.out; omega
  obtain ⟨rid, car, how, up, dn, on, off⟩ := s
  unfold stV staV at hlk
  simp only at hlk
  clear hDR hb3 hnx
  go_wp2_with fail
  exact bodyPost_ret (v := .tuple #[.agg (staV ⟨rid, car, how, up, dn, on, off⟩), .bool is_]) (by simp [results, Tryz.results23, go_sem, a0, a1, a2, a3, a4, a5, a6, hgl, staV]) rfl ⟨rfl, by repeat (first | with_reducible exact HN3.out | with_reducible refine Nx.setCell ?_ hgg _ | with_reducible refine Nx.alloc ?_ _)⟩
end Go.Proofs.YtdjopfagccildaaGreatDoor
