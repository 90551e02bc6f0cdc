/- An event that is right by itself: the check at any kind. -/
import Derived.Test.YtfkmbeppckelfaaGreatDoorQEvF1
import Derived.Test.YtfkmbeppckelfaaGreatDoorQEvF2
import Derived.Test.YtfkmbeppckelfaaGreatDoorQEvF3
import Derived.Test.YtfkmbeppckelfaaGreatDoorQEvF4
import Derived.Test.YtfkmbeppckelfaaGreatDoorQEvF5
import Derived.Test.YtfkmbeppckelfaaGreatDoorQEvF6
import Derived.Test.YtfkmbeppckelfaaGreatDoorQEvF7
import Derived.Test.YtfkmbeppckelfaaGreatDoorQEvF8
import Derived.Test.YtfkmbeppckelfaaGreatDoorQEvF9
import Derived.Test.YtfkmbeppckelfaaGreatDoorQG2
import Derived.Test.YtfkmbeppckelfaaGreatDoorQG1
import Derived.Test.YtfkmbeppckelfaaGreatDoorQG0
import Derived.Test.YtfkmbeppckelfaaGreatDoorQShelfC
import Derived.Shelf.Small.Strs
import Derived.Test.YtfkmbeppckelfaaGreatDoorQG10
import Derived.StillTailTactics
import Derived.Sort.Grow
import Derived.Deep.RegionHeld3
namespace Go.Proofs.YtfkmbeppckelfaaGreatDoor
open Go.RowKit

theorem w_eventFault (x : Ev) (w : World) (hok : okEv x) : Calls Tryz.prog 44 #[.agg (evA x)] w fun e w' => e = .returned (.int .i64 (evF x)) ∧ Nx w w' := by
  obtain ⟨so, no, at_, ki, ri, ca, nd, up, dn, fo, nu⟩ := x
  by_cases hbad : keyB so = false ∨ outB no 1 3000 = true ∨ momB at_ = false ∨ outB ki 1 9 = true
  · exact w_evF0 so no at_ ki ri ca nd up dn fo nu w hok hbad
  · simp only [not_or, Bool.not_eq_false, Bool.not_eq_true] at hbad
    obtain ⟨h1, h2, h3, h4⟩ := hbad
    rw [outB_false] at h4
    have hk : ki = 1 ∨ ki = 2 ∨ ki = 3 ∨ ki = 4 ∨ ki = 5 ∨ ki = 6 ∨ ki = 7 ∨ ki = 8 ∨ ki = 9 := by omega
    rcases hk with rfl | rfl | rfl | rfl | rfl | rfl | rfl | rfl | rfl
    · exact w_evF1 so no at_ ri ca nd up dn fo nu w hok h1 h2 h3
    · exact w_evF2 so no at_ ri ca nd up dn fo nu w hok h1 h2 h3
    · exact w_evF3 so no at_ ri ca nd up dn fo nu w hok h1 h2 h3
    · exact w_evF4 so no at_ ri ca nd up dn fo nu w hok h1 h2 h3
    · exact w_evF5 so no at_ ri ca nd up dn fo nu w hok h1 h2 h3
    · exact w_evF6 so no at_ ri ca nd up dn fo nu w hok h1 h2 h3
    · exact w_evF7 so no at_ ri ca nd up dn fo nu w hok h1 h2 h3
    · exact w_evF8 so no at_ ri ca nd up dn fo nu w hok h1 h2 h3
    · exact w_evF9 so no at_ ri ca nd up dn fo nu w hok h1 h2 h3
end Go.Proofs.YtfkmbeppckelfaaGreatDoor
/- cmp.Or of numbers. -/
namespace Go.Proofs.YtfkmbeppckelfaaGreatDoor
open Go.RowKit

set_option maxHeartbeats 400000 in
theorem w_OrI (lo : Nat) (A : Option Addr) (c : Nat) (zs : List Int) (w : World) (hR : Rd w lo A 1 encI zs) (hl : zs.length ≤ 65536) :
    Calls Tryz.prog 82 #[.slice A zs.length c] w fun e w' => e = .returned (.int .i64 (orI zs)) ∧ w = w' := by
  generalize hn : zs.length = n at *
  have HR := hide hR
  have HN := hide hn
  clear hR hn
  go_enter Tryz.func82, Tryz.ntmps82
  go_wp2
  go_loop [2, 5, 8] (fun _ _ i => ∃ k : Nat, k ≤ n ∧ i = .int .i64 k ∧ orI zs = orI (zs.drop k)) (fun _ _ i => n - (intOf i).toNat)
  case atStart => exact ⟨0, Nat.zero_le _, rfl, rfl⟩
  case round =>
    obtain ⟨k, hk, rfl, hq⟩ := hrel
    have HQ := hide hq
    clear hq
    by_cases hlt : k < n
    · have hlt' : k < zs.length := by have := HN.out; omega
      obtain ⟨b, off, rfl, _, hb, _, hc⟩ := HR.out.open_ (Nx.refl w) (by omega)
      have c0 : w.cell? ⟨b, off + k, none⟩ = some (.int .i64 zs[k]) := by have := hc k hlt' 0 _ rfl; simpa using this
      clear hc
      have HD := hide (orI_drop zs k hlt')
      by_cases hz : zs[k] = 0
      · have hz' : (zs[k] != 0) = false := by simpa using hz
        have HZ := hide hz
        clear hz
        generalize zs[k] = z at *
        go_wp2
        go_round
        case rel => exact ⟨k + 1, by omega, by go_num, by rw [HQ.out, HD.out, if_pos HZ.out]⟩
        case measure => simp [intOf]; omega
      · have hz' : (zs[k] != 0) = true := by simpa using hz
        have HZ := hide hz
        clear hz
        generalize zs[k] = z at *
        go_wp2
        go_ret
        exact ⟨ret_int (by rw [HQ.out, HD.out, if_neg HZ.out]), rfl⟩
    · have ek : k = n := by omega
      subst ek
      clear hlt
      go_wp2
      go_ret
      exact ⟨ret_int (by rw [HQ.out, List.drop_of_length_le (by have := HN.out; omega)]; rfl), rfl⟩
end Go.Proofs.YtfkmbeppckelfaaGreatDoor
/- strings.Compare. -/
namespace Go.Proofs.YtfkmbeppckelfaaGreatDoor
open Go.RowKit Go.Shelf Go.Proofs

theorem w_CompareS (a b : ByteArray) (w : World) : Calls Tryz.prog 61 #[.string a, .string b] w fun e w' => e = .returned (.int .i64 (cmpS a b)) ∧ w = w' :=
  (Any.strings_Compare Tryz.compareStr a b w).mono fun _ _ ⟨h1, h2⟩ => ⟨h1, h2.symm⟩
end Go.Proofs.YtfkmbeppckelfaaGreatDoor
/- The events' order. -/
namespace Go.Proofs.YtfkmbeppckelfaaGreatDoor
open Go.RowKit

theorem w_OrI3 (a b d : Int) (g c : Nat) (w : World) (hg : w.heap[g]? = some (.cells #[.int .i64 a, .int .i64 b, .int .i64 d] 3 (0, 0))) :
    Calls Tryz.prog 82 #[.slice (some ⟨g, 0, none⟩) 3 c] w fun e w' => e = .returned (.int .i64 (orI [a, b, d])) ∧ w = w' := by
  have hR : Rd w 0 (some ⟨g, 0, none⟩) 1 encI [a, b, d] := Rd.lit hg (Nat.zero_le _) (fun _ => rfl) rfl
  exact w_OrI 0 _ c [a, b, d] w hR (by simp)
set_option maxRecDepth 100000 in
set_option maxHeartbeats 2000000 in
theorem w_byMoment (a b : Ev) (w : World) : Calls Tryz.prog 45 #[.agg (evA a), .agg (evA b)] w fun e w' => e = .returned (.int .i64 (evOrd a b)) ∧ Nx w w' := by
  unfold evA
  obtain ⟨w2, hw2⟩ : ∃ w2, w2 = (w.alloc (.cells #[.string a.source, .int .i64 a.no, .int .i64 a.at_, .int .i64 a.kind, .string a.ride, .string a.car, .string a.node, .int .i64 a.up, .int .i64 a.down, .string a.from_, .int .i64 a.number] 31 (0, 0))).alloc (.cells #[.string b.source, .int .i64 b.no, .int .i64 b.at_, .int .i64 b.kind, .string b.ride, .string b.car, .string b.node, .int .i64 b.up, .int .i64 b.down, .string b.from_, .int .i64 b.number] 31 (0, 0)) := ⟨_, rfl⟩
  have hn2 : Nx w w2 := hw2 ▸ ((Nx.refl w).alloc _).alloc _
  have hb : w2.heap[w.heap.size + 1]? = some (.cells #[.string b.source, .int .i64 b.no, .int .i64 b.at_, .int .i64 b.kind, .string b.ride, .string b.car, .string b.node, .int .i64 b.up, .int .i64 b.down, .string b.from_, .int .i64 b.number] 31 (0, 0)) := by
    rw [hw2]
    have := heap_alloc_new (w.alloc (.cells #[.string a.source, .int .i64 a.no, .int .i64 a.at_, .int .i64 a.kind, .string a.ride, .string a.car, .string a.node, .int .i64 a.up, .int .i64 a.down, .string a.from_, .int .i64 a.number] 31 (0, 0))) (.cells #[.string b.source, .int .i64 b.no, .int .i64 b.at_, .int .i64 b.kind, .string b.ride, .string b.car, .string b.node, .int .i64 b.up, .int .i64 b.down, .string b.from_, .int .i64 b.number] 31 (0, 0))
    simpa using this
  have ha : w2.heap[w.heap.size]? = some (.cells #[.string a.source, .int .i64 a.no, .int .i64 a.at_, .int .i64 a.kind, .string a.ride, .string a.car, .string a.node, .int .i64 a.up, .int .i64 a.down, .string a.from_, .int .i64 a.number] 31 (0, 0)) := by
    rw [hw2]; exact (((Nx.refl _).alloc _).block _ (by simp)).trans (heap_alloc_new w _)
  have a0 : w2.cell? ⟨w.heap.size, 0, none⟩ = some (.string a.source) := cell_of_row w2 _ 0 _ _ _ ha
  have a1 : w2.cell? ⟨w.heap.size, 1, none⟩ = some (.int .i64 a.no) := cell_of_row w2 _ 1 _ _ _ ha
  have a2 : w2.cell? ⟨w.heap.size, 2, none⟩ = some (.int .i64 a.at_) := cell_of_row w2 _ 2 _ _ _ ha
  have b0 : w2.cell? ⟨w.heap.size + 1, 0, none⟩ = some (.string b.source) := cell_of_row w2 _ 0 _ _ _ hb
  have b1 : w2.cell? ⟨w.heap.size + 1, 1, none⟩ = some (.int .i64 b.no) := cell_of_row w2 _ 1 _ _ _ hb
  have b2 : w2.cell? ⟨w.heap.size + 1, 2, none⟩ = some (.int .i64 b.at_) := cell_of_row w2 _ 2 _ _ _ hb
  have HN2 := hide hn2
  clear ha hb hn2
  go_enter Tryz.func45, Tryz.ntmps45
  go_upto_region 1 with fail
  rw [← hw2]
  clear hw2
  refine wp_region_still_tail 15 (by kernel_rfl) (by kernel_rfl) ?_
  simp only [List.take_succ_cons, List.take_zero, List.drop_succ_cons, List.drop_zero]
  still_step; still_step; still_step; still_step
  still_call (flipc (w_Compare _ _ _))
  still_step; still_step; still_step; still_step
  still_call (flipc (w_CompareS _ _ _))
  still_step; still_step; still_step; still_step
  still_call (flipc (w_Compare _ _ _))
  refine wpStill_nil ?_
  go_wp2_with (go_at_call 82; refine (w_OrI3 (cmpI a.at_ b.at_) (cmpS a.source b.source) (cmpI a.no b.no) _ _ _ (hnew_drew (by simp))).mono ?_; rintro e w' ⟨rfl, rfl⟩)
  go_ret
  exact ⟨rfl, (HN2.out.alloc _).drew⟩
set_option maxRecDepth 100000 in
set_option maxHeartbeats 2000000 in
theorem w_EventOrder (a b : Ev) (w : World) : Calls Tryz.prog 43 #[.agg (evA a), .agg (evA b)] w fun e w' => e = .returned (.int .i64 (evOrd a b)) ∧ Nx w w' := by
  unfold evA
  obtain ⟨w2, hw2⟩ : ∃ w2, w2 = (w.alloc (.cells #[.string a.source, .int .i64 a.no, .int .i64 a.at_, .int .i64 a.kind, .string a.ride, .string a.car, .string a.node, .int .i64 a.up, .int .i64 a.down, .string a.from_, .int .i64 a.number] 31 (0, 0))).alloc (.cells #[.string b.source, .int .i64 b.no, .int .i64 b.at_, .int .i64 b.kind, .string b.ride, .string b.car, .string b.node, .int .i64 b.up, .int .i64 b.down, .string b.from_, .int .i64 b.number] 31 (0, 0)) := ⟨_, rfl⟩
  have hn2 : Nx w w2 := hw2 ▸ ((Nx.refl w).alloc _).alloc _
  have hb : w2.heap[w.heap.size + 1]? = some (.cells #[.string b.source, .int .i64 b.no, .int .i64 b.at_, .int .i64 b.kind, .string b.ride, .string b.car, .string b.node, .int .i64 b.up, .int .i64 b.down, .string b.from_, .int .i64 b.number] 31 (0, 0)) := by
    rw [hw2]
    have := heap_alloc_new (w.alloc (.cells #[.string a.source, .int .i64 a.no, .int .i64 a.at_, .int .i64 a.kind, .string a.ride, .string a.car, .string a.node, .int .i64 a.up, .int .i64 a.down, .string a.from_, .int .i64 a.number] 31 (0, 0))) (.cells #[.string b.source, .int .i64 b.no, .int .i64 b.at_, .int .i64 b.kind, .string b.ride, .string b.car, .string b.node, .int .i64 b.up, .int .i64 b.down, .string b.from_, .int .i64 b.number] 31 (0, 0))
    simpa using this
  have ha : w2.heap[w.heap.size]? = some (.cells #[.string a.source, .int .i64 a.no, .int .i64 a.at_, .int .i64 a.kind, .string a.ride, .string a.car, .string a.node, .int .i64 a.up, .int .i64 a.down, .string a.from_, .int .i64 a.number] 31 (0, 0)) := by
    rw [hw2]; exact (((Nx.refl _).alloc _).block _ (by simp)).trans (heap_alloc_new w _)
  have a0 : w2.cell? ⟨w.heap.size, 0, none⟩ = some (.string a.source) := cell_of_row w2 _ 0 _ _ _ ha
  have a1 : w2.cell? ⟨w.heap.size, 1, none⟩ = some (.int .i64 a.no) := cell_of_row w2 _ 1 _ _ _ ha
  have a2 : w2.cell? ⟨w.heap.size, 2, none⟩ = some (.int .i64 a.at_) := cell_of_row w2 _ 2 _ _ _ ha
  have b0 : w2.cell? ⟨w.heap.size + 1, 0, none⟩ = some (.string b.source) := cell_of_row w2 _ 0 _ _ _ hb
  have b1 : w2.cell? ⟨w.heap.size + 1, 1, none⟩ = some (.int .i64 b.no) := cell_of_row w2 _ 1 _ _ _ hb
  have b2 : w2.cell? ⟨w.heap.size + 1, 2, none⟩ = some (.int .i64 b.at_) := cell_of_row w2 _ 2 _ _ _ hb
  have HN2 := hide hn2
  clear ha hb hn2
  go_enter Tryz.func43, Tryz.ntmps43
  go_upto_region 1 with fail
  rw [← hw2]
  clear hw2
  refine wp_region_still_tail 15 (by kernel_rfl) (by kernel_rfl) ?_
  simp only [List.take_succ_cons, List.take_zero, List.drop_succ_cons, List.drop_zero]
  still_step; still_step; still_step; still_step
  still_call (flipc (w_Compare _ _ _))
  still_step; still_step; still_step; still_step
  still_call (flipc (w_CompareS _ _ _))
  still_step; still_step; still_step; still_step
  still_call (flipc (w_Compare _ _ _))
  refine wpStill_nil ?_
  go_wp2_with (go_at_call 82; refine (w_OrI3 (cmpI a.at_ b.at_) (cmpS a.source b.source) (cmpI a.no b.no) _ _ _ (hnew_drew (by simp))).mono ?_; rintro e w' ⟨rfl, rfl⟩)
  go_ret
  exact ⟨rfl, (HN2.out.alloc _).drew⟩
end Go.Proofs.YtfkmbeppckelfaaGreatDoor
/- The program's check of events. -/
namespace Go.Proofs.YtfkmbeppckelfaaGreatDoor
open Go.RowKit Go.Maps

/-- The last number of each source, of the first k events. -/
def lastM (l : List Ev) : Nat → ByteArray → Option Int
  | 0 => fun _ => none
  | k + 1 => match l[k]? with
    | none => lastM l k
    | some x => updF (lastM l k) x.source x.no
theorem lastM_succ {l : List Ev} {k : Nat} {x : Ev} (hx : l[k]? = some x) : lastM l (k + 1) = updF (lastM l k) x.source x.no := by simp [lastM, hx]
theorem lastM_bd {l : List Ev} (hok : ∀ x ∈ l, okEv x) : ∀ (k : Nat) (s : ByteArray), -1000000000000000 ≤ ((lastM l k s).getD 0) ∧ ((lastM l k s).getD 0) ≤ 1000000000000000
  | 0, s => by simp [lastM]
  | k + 1, s => by
    cases hx : l[k]? with
    | none => simp only [lastM, hx]; exact lastM_bd hok k s
    | some x =>
      rw [lastM_succ hx]
      unfold updF
      split
      · exact (hok x (List.mem_of_getElem? hx)).no
      · exact lastM_bd hok k s
def prevE (l : List Ev) : Nat → Option Ev
  | 0 => none
  | k + 1 => l[k]?
theorem evs_next {l : List Ev} {k : Nat} {x : Ev} (hx : l[k]? = some x) : evsGo (prevE l k) (fun s => (lastM l k s).getD 0) (l.drop k) =
    if evF x ≠ 0 then evF x else if lateB (prevE l k) x = true then 7 else if x.no ≠ (lastM l k x.source).getD 0 + 1 then 16 else evsGo (prevE l (k + 1)) (fun s => (lastM l (k + 1) s).getD 0) (l.drop (k + 1)) := by
  obtain ⟨hk, e⟩ := List.getElem?_eq_some_iff.1 hx
  rw [List.drop_eq_getElem_cons hk, e]
  rw [evsGo]
  have e1 : (fun s => if s = x.source then x.no else (lastM l k s).getD 0) = fun s => (lastM l (k + 1) s).getD 0 := by
    funext s
    rw [lastM_succ hx]
    unfold updF
    split <;> rfl
  rw [e1, show prevE l (k + 1) = some x from hx]
theorem look_last {w : World} {b n : Nat} {f : ByteArray → Option Int} (h : MpSI w b n f) {s : ByteArray} (hs : domS s) : (Instr.lookup 62 (.map (some b)) (.string s) false).run Tryz.prog w = .ok (.int .i64 ((f s).getD 0)) w :=
  (h.look intE law_strE Tryz.underlying62 (z := (0 : Int)) (by decide) (zeroIntE w) hs (keyS_mk Tryz.underlying9 hs)).1
set_option maxRecDepth 100000 in
set_option maxHeartbeats 4000000 in
theorem w_CheckEvents (lo : Nat) (A : Option Addr) (c : Nat) (l : List Ev) (w : World) (hR : Rd w lo A 11 encEvt l) (hl : l.length ≤ 50) (hok : ∀ x ∈ l, okEv x) :
    Calls Tryz.prog 17 #[.slice A l.length c] w fun e w' => e = .returned (.int .i64 (evsF l)) ∧ Nx w w' := by
  have hmm := @run_makeMap Tryz.prog
  have HR := hide hR
  have HOK := hide hok
  have HBD := hide (lastM_bd hok)
  generalize hn : l.length = n at *
  have HN := hide hn
  clear hR hn hok
  go_enter Tryz.func17, Tryz.ntmps17
  go_wp2_with fail
  clear hmm
  have HM0 : Hid (MpSI (w.alloc (.map #[] 0)) w.heap.size 0 (lastM l 0)) := hide (MgI.made w)
  go_loopw [13] (fun i wr => ∃ k : Nat, k ≤ n ∧ i = .int .i64 k ∧ Nx w wr ∧ MpSI wr w.heap.size k (lastM l k) ∧ evsF l = evsGo (prevE l k) (fun s => (lastM l k s).getD 0) (l.drop k)) (fun i _ => n - (intOf i).toNat)
  case atStart => exact ⟨0, Nat.zero_le _, rfl, (Nx.refl w).alloc _, HM0.out, rfl⟩
  case round =>
    clear HM0
    obtain ⟨k, hk, rfl, hnx, hM, hv⟩ := hrel
    by_cases hlt : k < n
    · have hlt' : k < l.length := by have := HN.out; omega
      have hx : l[k]? = some l[k] := List.getElem?_eq_getElem hlt'
      rw [evs_next hx] at hv
      have hl2 := lastM_succ hx
      obtain ⟨b, off, rfl, _, hb, hbr, hc⟩ := HR.out.open_ hnx (by omega)
      obtain ⟨c0, c1, c2, c3, c4, c5, c6, c7, c8, c9, c10⟩ := ev_cells (hc k hlt')
      have hox := HOK.out l[k] (List.getElem_mem hlt')
      have hprev : ∀ j, k = j + 1 → ∃ q, prevE l k = some q ∧ q ∈ l ∧ ∀ i u, (encEvt q)[i]? = some u → wr.cell? ⟨b, off + j * 11 + i, none⟩ = some u := by
        intro j hj
        have hjl : j < l.length := by omega
        exact ⟨l[j], by rw [hj]; exact List.getElem?_eq_getElem hjl, List.getElem_mem hjl, fun i u hu => hc j hjl i u hu⟩
      have hpz : k = 0 → prevE l k = none := fun h => by rw [h]; rfl
      clear hc
      generalize l[k] = x at *
      have hML := look_last (hM.nx ((Nx.refl wr).alloc (.cells (evA x) 31 (0, 0)))) (domS_1000 hox.source)
      have hbd := HBD.out k x.source
      have HEF := hide (fun W => w_eventFault x W hox)
      obtain ⟨so, no, at_, ki, ri, ca, nd, up, dn, fo, nu⟩ := x
      unfold evA at hML HEF
      simp only at c0 c1 c2 c3 c4 c5 c6 c7 c8 c9 c10 hML hbd HEF hl2 hv
      obtain ⟨wa, hwa⟩ : ∃ wa, wa = wr.alloc (.cells #[.string so, .int .i64 no, .int .i64 at_, .int .i64 ki, .string ri, .string ca, .string nd, .int .i64 up, .int .i64 dn, .string fo, .int .i64 nu] 31 (0, 0)) := ⟨_, rfl⟩
      have hna : Nx wr wa := hwa ▸ (Nx.refl wr).alloc _
      have hba : wa.heap[wr.heap.size]? = some (.cells #[.string so, .int .i64 no, .int .i64 at_, .int .i64 ki, .string ri, .string ca, .string nd, .int .i64 up, .int .i64 dn, .string fo, .int .i64 nu] 31 (0, 0)) := by rw [hwa]; exact heap_alloc_new wr _
      have HV := hide hv
      have HL2 := hide hl2
      have HNA := hide hna
      have HBA := hide hba
      have HM := hide hM
      have HPR := hide hprev
      have HPZ := hide hpz
      have HNX := hide hnx
      have HOX := hide hox
      have hml := hM.lt
      clear hv hl2 hna hba hM hprev hpz hx hML hnx hox
      go_upto_region 7 with fail
      rw [← hwa]
      clear hwa c0 c1 c2 c3 c4 c5 c6 c7 c8 c9 c10
      have a0 := cell_of_row wa _ 0 _ _ _ HBA.out
      have a1 := cell_of_row wa _ 1 _ _ _ HBA.out
      have a2 := cell_of_row wa _ 2 _ _ _ HBA.out
      have a3 := cell_of_row wa _ 3 _ _ _ HBA.out
      have a4 := cell_of_row wa _ 4 _ _ _ HBA.out
      have a5 := cell_of_row wa _ 5 _ _ _ HBA.out
      have a6 := cell_of_row wa _ 6 _ _ _ HBA.out
      have a7 := cell_of_row wa _ 7 _ _ _ HBA.out
      have a8 := cell_of_row wa _ 8 _ _ _ HBA.out
      have a9 := cell_of_row wa _ 9 _ _ _ HBA.out
      have a10 := cell_of_row wa _ 10 _ _ _ HBA.out
      simp at a0 a1 a2 a3 a4 a5 a6 a7 a8 a9 a10
      go_wp2_with fail
      refine (HEF.out _).mono ?_
      rintro e w4 ⟨rfl, hn4⟩
      obtain ⟨ev, hev⟩ : ∃ ev, ev = evF ⟨so, no, at_, ki, ri, ca, nd, up, dn, fo, nu⟩ := ⟨_, rfl⟩
      rw [← hev] at HV ⊢
      have HEV := hide hev
      clear hev a0 a1 a2 a3 a4 a5 a6 a7 a8 a9 a10
      have hb4 := (hn4.block _ (Array.getElem?_eq_some_iff.1 HBA.out).1).trans HBA.out
      have HN4 := hide hn4
      have HM4 := hide ((HM.out.nx HNA.out).nx hn4)
      clear hn4
      have hq : ev = 0 ∨ (ev != 0) = true := by simp; omega
      rcases hq with rfl | hq
      · have HV2 := hide (HV.out.trans (if_neg (by simp)))
        clear HV HEF
        have b0 := cell_of_row w4 _ 0 _ _ _ hb4
        have b1 := cell_of_row w4 _ 1 _ _ _ hb4
        have b2 := cell_of_row w4 _ 2 _ _ _ hb4
        have b3 := cell_of_row w4 _ 3 _ _ _ hb4
        have b4 := cell_of_row w4 _ 4 _ _ _ hb4
        have b5 := cell_of_row w4 _ 5 _ _ _ hb4
        have b6 := cell_of_row w4 _ 6 _ _ _ hb4
        have b7 := cell_of_row w4 _ 7 _ _ _ hb4
        have b8 := cell_of_row w4 _ 8 _ _ _ hb4
        have b9 := cell_of_row w4 _ 9 _ _ _ hb4
        have b10 := cell_of_row w4 _ 10 _ _ _ hb4
        simp at b0 b1 b2 b3 b4 b5 b6 b7 b8 b9 b10
        have HB4 := hide hb4
        clear hb4
        go_upto_region 10 with fail
        go_cut [34] (fun v wx => v = .bool (lateB (prevE l k) ⟨so, no, at_, ki, ri, ca, nd, up, dn, fo, nu⟩) ∧ Nx w4 wx)
        case first =>
          cases k with
          | zero =>
            go_quiet (fail)
            go_wp2
            go_meet
            exact ⟨rfl, (Nx.refl _).drewN _⟩
          | succ j =>
            obtain ⟨q, hq, hqm, hqc⟩ := HPR.out j rfl
            have hqok := HOK.out q hqm
            have HBM := hide (fun W => w_byMoment ⟨so, no, at_, ki, ri, ca, nd, up, dn, fo, nu⟩ q W)
            obtain ⟨q0, q1, q2, q3, q4, q5, q6, q7, q8, q9, q10⟩ := ev_cells hqc
            have HQ := hide hq
            clear hq
            obtain ⟨so2, no2, at2, ki2, ri2, ca2, nd2, up2, dn2, fo2, nu2⟩ := q
            unfold evA at HBM
            simp only at q0 q1 q2 q3 q4 q5 q6 q7 q8 q9 q10 HBM
            have hbw : b < wa.heap.size := Nat.lt_of_lt_of_le hbr HNA.out.sz
            have hbw4 : b < w4.heap.size := Nat.lt_of_lt_of_le hbw HN4.out.sz
            have hn04 := HNA.out.trans HN4.out
            have r0 := nx_cell hn04 hbr q0
            have r1 := nx_cell hn04 hbr q1
            have r2 := nx_cell hn04 hbr q2
            have r3 := nx_cell hn04 hbr q3
            have r4 := nx_cell hn04 hbr q4
            have r5 := nx_cell hn04 hbr q5
            have r6 := nx_cell hn04 hbr q6
            have r7 := nx_cell hn04 hbr q7
            have r8 := nx_cell hn04 hbr q8
            have r9 := nx_cell hn04 hbr q9
            have r10 := nx_cell hn04 hbr q10
            have hj1 : j < n := by omega
            have hj2 : (j : Int) < (n : Int) := by omega
            have hj0 : (0 : Int) ≤ (j : Int) := by omega
            have wj : IntKind.i64.wrap (j : Int) = (j : Int) := IntWalk.i64_in _ (by omega)
            clear q0 q1 q2 q3 q4 q5 q6 q7 q8 q9 q10 hn04 hqc
            go_still_tail 9, (by kernel_rfl)
            change wpList _ _ _ _ _ w4.drew
            go_wp2_with (go_at_call 45; refine (HBM.out _).mono ?_; rintro e w5 ⟨rfl, hn5⟩)
            go_meet
            exact ⟨by rw [HQ.out]; rfl, (Nx.refl _).drew.trans hn5⟩
        case rest =>
          obtain ⟨rfl, hnc⟩ := hcut
          obtain ⟨late, hlate⟩ : ∃ late, late = lateB (prevE l k) ⟨so, no, at_, ki, ri, ca, nd, up, dn, fo, nu⟩ := ⟨_, rfl⟩
          rw [← hlate] at HV2 ⊢
          clear hlate
          have HNC := hide hnc
          have HN4c := hide (((HNX.out.trans HNA.out).trans HN4.out).trans hnc)
          cases late with
          | true =>
            have hv2 := hide (show evsF l = 7 by rw [HV2.out, if_pos rfl])
            clear hnc
            go_wp2_with fail
            go_ret
            exact ⟨by rw [hv2.out] <;> rfl, HN4c.out⟩
          | false =>
            have HV3 := hide (HV2.out.trans (if_neg (by simp)))
            have hbc := (hnc.block _ (Array.getElem?_eq_some_iff.1 HB4.out).1).trans HB4.out
            have b0 := cell_of_row wc _ 0 _ _ _ hbc
            have b1 := cell_of_row wc _ 1 _ _ _ hbc
            simp at b0 b1
            have HMc := hide (HM4.out.nx hnc)
            have hlk := look_last HMc.out (domS_1000 HOX.out.source)
            obtain ⟨v, hv⟩ : ∃ v, v = (lastM l k so).getD 0 := ⟨_, rfl⟩
            simp only at hlk
            rw [← hv] at hlk hbd HV3
            have w1 : IntKind.i64.wrap (v + 1) = v + 1 := IntWalk.i64_in _ (by omega)
            have hkey := keyS_mk (P := Tryz.prog) Tryz.underlying9 (domS_1000 HOX.out.source)
            clear hnc hbc hv
            have hq : no = v + 1 ∨ (no != v + 1) = true := by simp; omega
            rcases hq with rfl | hq
            · have HV4 := hide (HV3.out.trans (if_neg (by simp)))
              go_wp2_with (at_mapUpdate; refine wpMgPut _ rfl _ _ _ _ rfl intE law_strE strV_inj Tryz.underlying62 w.heap.size k _ rfl HMc.out (by unfold maxLen; omega) so rfl (domS_1000 HOX.out.source) _ hkey (v + 1) rfl (wf_15 HOX.out.no) ?_; intro w8 hM8 hg8; (have HM8 := hide hM8); clear hM8)
              go_roundw
              case rel =>
                refine ⟨k + 1, by omega, by go_num, HN4c.out.grown hg8 (fun j hj => by injection hj with hj; omega), ?_, HV4.out⟩
                rw [HL2.out]; exact HM8.out
              case measure => simp [intOf]; omega
            · have hv2 := hide (show evsF l = 16 by rw [HV3.out, if_pos (by simpa using hq)])
              go_wp2_with fail
              go_ret
              exact ⟨by rw [hv2.out] <;> rfl, HN4c.out⟩
      · have hv2 := hide (show evsF l = ev by rw [HV.out, if_pos (by simpa using hq)])
        go_wp2_with fail
        go_ret
        exact ⟨by rw [hv2.out] <;> rfl, (HNX.out.trans HNA.out).trans HN4.out⟩
    · obtain rfl : k = n := by omega
      have hv2 := hide (show evsF l = 0 by rw [hv, List.drop_of_length_le (by have := HN.out; omega)]; rfl)
      obtain ⟨m, hm, hlen⟩ := hM.size (t := 62) (E := 3) Tryz.underlying62 3
      have HNX := hide hnx
      clear hM hv hnx
      go_wp2_with fail
      go_ret
      exact ⟨by rw [hv2.out] <;> rfl, HNX.out⟩
end Go.Proofs.YtfkmbeppckelfaaGreatDoor
