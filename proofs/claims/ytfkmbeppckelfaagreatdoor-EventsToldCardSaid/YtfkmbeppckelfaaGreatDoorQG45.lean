/- What one list of events lacks of another, by the reference. -/
import Derived.Test.YtfkmbeppckelfaaGreatDoorQG44
import Derived.Test.YtfkmbeppckelfaaGreatDoorQEvG
import Derived.Test.YtfkmbeppckelfaaGreatDoorQG38
import Derived.Test.YtfkmbeppckelfaaGreatDoorQG41
import Derived.Test.YtfkmbeppckelfaaGreatDoorQG1
import Derived.Test.YtfkmbeppckelfaaGreatDoorQG22
import Derived.Test.YtfkmbeppckelfaaGreatDoorQG5
import Derived.Test.YtfkmbeppckelfaaGreatDoorQG2
import Derived.Test.YtfkmbeppckelfaaGreatDoorQRfN
import Derived.Test.YtfkmbeppckelfaaGreatDoorQShelfE
import Derived.Shelf.Small.Strs
import Derived.Below
namespace Go.Proofs.YtfkmbeppckelfaaGreatDoor
open Go.RowKit

set_option maxRecDepth 100000 in
set_option maxHeartbeats 1000000 in
theorem w_IdxV (lo : Nat) (A : Option Addr) (c : Nat) (l : List Ev) (x : Ev) (w : World) (hR : Rd w lo A 11 encEvt l) (hl : l.length ≤ 65536) :
    Calls Tryz.prog 97 #[.slice A l.length c, .agg (evA x)] w fun e w' => ∃ r : Int, e = .returned (.int .i64 r) ∧ decide (0 ≤ r) = decide (x ∈ l) ∧ Nx w w' := by
  obtain ⟨n, hn⟩ : ∃ n, n = l.length := ⟨_, rfl⟩
  obtain ⟨w1, hw1⟩ : ∃ w1, w1 = w.alloc (.cells (evA x) 31 (0, 0)) := ⟨_, rfl⟩
  obtain ⟨bx, hbx⟩ : ∃ bx, bx = w.heap.size := ⟨_, rfl⟩
  have hn1 : Nx w w1 := hw1 ▸ (Nx.refl w).alloc _
  have hb1 : w1.heap[bx]? = some (.cells (evA x) 31 (0, 0)) := by rw [hw1, hbx]; exact heap_alloc_new w _
  rw [← hn] at hl ⊢
  have HN := hide hn
  have HR := hide (hR.nx hn1)
  have HN1 := hide hn1
  obtain ⟨X, hX⟩ : ∃ X, X = x := ⟨_, rfl⟩
  have HX := hide hX
  rw [← hX]
  obtain ⟨so, no, at_, ki, ri, ca, nd, up, dn, fo, nu⟩ := x
  unfold evA at hw1 hb1 ⊢
  rw [hX]
  simp only at hw1 hb1 ⊢
  have HB1 := hide hb1
  clear hR hn hn1 hb1 hX
  go_enter Tryz.func97, Tryz.ntmps97
  go_upto_region 1 with fail
  rw [← hw1, ← hbx]
  clear hw1 hbx
  go_wp2_with fail
  go_loopw [5, 8] (fun _ i wr => ∃ k : Nat, k ≤ n ∧ i = .int .i64 k ∧ Nx w1 wr ∧ X ∉ l.take k) (fun _ i _ => n - (intOf i).toNat)
  case atStart => exact ⟨0, Nat.zero_le _, rfl, Nx.refl _, by simp⟩
  case round =>
    obtain ⟨k, hk, rfl, hnx, hno⟩ := hrel
    have HNO := hide hno
    have HNX := hide hnx
    clear hno
    by_cases hlt : k < n
    · have hlt' : k < l.length := by have := HN.out; omega
      obtain ⟨b, off, eb, _, hb, hbr, hc⟩ := HR.out.open_ hnx (by have := HN.out; omega)
      obtain ⟨c0, c1, c2, c3, c4, c5, c6, c7, c8, c9, c10⟩ := ev_cells (hc k hlt')
      have hmem := hide (show l[k] ∈ l from List.getElem_mem hlt')
      have htk := hide (show l.take (k + 1) = l.take k ++ [l[k]] by rw [List.take_add_one, List.getElem?_eq_getElem hlt']; rfl)
      have hb1 := (hnx.block _ (Array.getElem?_eq_some_iff.1 HB1.out).1).trans HB1.out
      obtain ⟨d0, d1, d2, d3, d4, d5, d6, d7, d8, d9, d10⟩ := evb_cells hb1
      have hbl := (Array.getElem?_eq_some_iff.1 hb1).1
      clear hc hb1 hnx
      generalize l[k] = y at *
      obtain ⟨dd, hdd⟩ : ∃ dd, dd = decide ((⟨so, no, at_, ki, ri, ca, nd, up, dn, fo, nu⟩ : Ev) = y) := ⟨_, rfl⟩
      have HDD := hide (show dd = decide (X = y) by rw [hdd, HX.out])
      obtain ⟨yso, yno, yat, yki, yri, yca, ynd, yup, ydn, yfo, ynu⟩ := y
      simp only at c0 c1 c2 c3 c4 c5 c6 c7 c8 c9 c10
      have heq : ∀ W, (binOp .eql 31 (.agg #[.string so, .int .i64 no, .int .i64 at_, .int .i64 ki, .string ri, .string ca, .string nd, .int .i64 up, .int .i64 dn, .string fo, .int .i64 nu]) (.agg #[.string yso, .int .i64 yno, .int .i64 yat, .int .i64 yki, .string yri, .string yca, .string ynd, .int .i64 yup, .int .i64 ydn, .string yfo, .int .i64 ynu])).run Tryz.prog W = .ok (.bool dd) W := fun W => by rw [eql_Ev, ← hdd]
      subst eb
      have q1 : (0 : Int) ≤ (k : Int) := by omega
      have q2 : (k : Int) < (n : Int) := by omega
      clear hdd
      go_upto_region 4 with fail
      go_quiet (fail)
      cases dd
      · have hne := hide (of_decide_eq_false HDD.out.symm)
        go_wp2_with fail
        go_roundw
        case rel =>
          refine ⟨k + 1, by omega, by go_num, HNX.out.drewN _, ?_⟩
          rw [htk.out, List.mem_append]
          rintro (h | h)
          · exact HNO.out h
          · exact hne.out (List.mem_singleton.1 h)
        case measure => simp [intOf]; omega
      · have he := hide (of_decide_eq_true HDD.out.symm)
        go_wp2_with fail
        go_ret
        refine ⟨_, rfl, ?_, (HN1.out.trans HNX.out).drewN _⟩
        rw [decide_eq_decide]
        exact ⟨fun _ => by rw [← HX.out, he.out]; exact hmem.out, fun _ => by omega⟩
    · go_wp2_with fail
      go_ret
      refine ⟨_, rfl, ?_, HN1.out.trans HNX.out⟩
      rw [decide_eq_decide]
      constructor
      · intro h; omega
      · intro h
        exfalso
        have ht : l.take k = l := List.take_of_length_le (by have := HN.out; omega)
        rw [ht] at HNO
        rw [← HX.out] at h
        exact HNO.out h
set_option maxRecDepth 100000 in
set_option maxHeartbeats 1000000 in
theorem w_ContV (lo : Nat) (A : Option Addr) (c : Nat) (l : List Ev) (x : Ev) (w : World) (hR : Rd w lo A 11 encEvt l) (hl : l.length ≤ 65536) :
    Calls Tryz.prog 57 #[.slice A l.length c, .agg (evA x)] w fun e w' => e = .returned (.bool (decide (x ∈ l))) ∧ Nx w w' := by
  obtain ⟨w1, hw1⟩ : ∃ w1, w1 = w.alloc (.cells (evA x) 31 (0, 0)) := ⟨_, rfl⟩
  obtain ⟨bx, hbx⟩ : ∃ bx, bx = w.heap.size := ⟨_, rfl⟩
  have hn1 : Nx w w1 := hw1 ▸ (Nx.refl w).alloc _
  have hb1 : w1.heap[bx]? = some (.cells (evA x) 31 (0, 0)) := by rw [hw1, hbx]; exact heap_alloc_new w _
  have HC := hide (w_IdxV lo A c l x w1 (hR.nx hn1) hl)
  generalize decide (x ∈ l) = q at *
  generalize l.length = n at *
  obtain ⟨so, no, at_, ki, ri, ca, nd, up, dn, fo, nu⟩ := x
  unfold evA at hw1 hb1 HC ⊢
  simp only at hw1 hb1 HC ⊢
  obtain ⟨d0, d1, d2, d3, d4, d5, d6, d7, d8, d9, d10⟩ := evb_cells hb1
  have hbl := (Array.getElem?_eq_some_iff.1 hb1).1
  have HN1 := hide hn1
  clear hR hl hn1 hb1
  go_enter Tryz.func57, Tryz.ntmps57
  go_upto_region 1 with fail
  rw [← hw1, ← hbx]
  clear hw1 hbx
  go_wp2_with fail
  refine HC.out.mono ?_
  rintro e w2 ⟨r, rfl, hr, hn2⟩
  have hr2 : decide (r ≥ 0) = q := hr
  clear hr
  go_wp2_with fail
  go_ret
  exact ⟨rfl, HN1.out.trans hn2⟩
theorem w_lacks1 (lo : Nat) (A : Option Addr) (c : Nat) (l : List Ev) (y : Ev) (q : Nat) (w : World) (hq : w.cell? ⟨q, 0, none⟩ = some (.slice A l.length c)) (hql : q < w.heap.size) (hR : Rd w lo A 11 encEvt l) (hl : l.length ≤ 65536) :
    Calls Tryz.prog 56 #[.agg #[.string y.source, .int .i64 y.no, .int .i64 y.at_, .int .i64 y.kind, .string y.ride, .string y.car, .string y.node, .int .i64 y.up, .int .i64 y.down, .string y.from_, .int .i64 y.number], .pointer (some ⟨q, 0, none⟩)] w fun e w' => e = .returned (.bool (decide (y ∈ l))) ∧ Nx w w' := by
  obtain ⟨w1, hw1⟩ : ∃ w1, w1 = w.alloc (.cells (evA y) 31 (0, 0)) := ⟨_, rfl⟩
  obtain ⟨bx, hbx⟩ : ∃ bx, bx = w.heap.size := ⟨_, rfl⟩
  have hn1 : Nx w w1 := hw1 ▸ (Nx.refl w).alloc _
  have hb1 : w1.heap[bx]? = some (.cells (evA y) 31 (0, 0)) := by rw [hw1, hbx]; exact heap_alloc_new w _
  have hq1 := nx_cell hn1 hql hq
  have HC := hide (w_ContV lo A c l y w1 (hR.nx hn1) hl)
  generalize decide (y ∈ l) = z at *
  generalize l.length = n at *
  obtain ⟨so, no, at_, ki, ri, ca, nd, up, dn, fo, nu⟩ := y
  unfold evA at hw1 hb1 HC
  simp only at hw1 hb1 HC ⊢
  obtain ⟨d0, d1, d2, d3, d4, d5, d6, d7, d8, d9, d10⟩ := evb_cells hb1
  have hbl := (Array.getElem?_eq_some_iff.1 hb1).1
  have HN1 := hide hn1
  clear hR hl hn1 hb1 hq
  go_enter Tryz.func56, Tryz.ntmps56
  go_upto_region 1 with fail
  rw [← hw1, ← hbx]
  clear hw1 hbx
  go_wp2_with fail
  refine HC.out.mono ?_
  rintro e w2 ⟨rfl, hn2⟩
  go_wp2_with fail
  go_ret
  exact ⟨rfl, HN1.out.trans hn2⟩
theorem eg_lacks : Enters 56 := enters_of Tryz.func56 (by kernel_rfl) rfl
/-- DeleteFunc of nothing. -/
theorem w_DeleteFE0 (gp : Nat) (p : Ev → Bool) (cap0 : Value) (eg : Enters gp) (w : World) :
    Calls Tryz.prog 55 #[.slice none 0 0, .func (.func gp) #[] #[cap0]] w fun e w' => e = .returned (.slice none 0 0) ∧ Nx w w' := by
  have HIX := hide (w_IndexFE1 gp p cap0 eg 0 none 0 [] w (fun y W h _ => by cases h) Rd.nil (by simp))
  rw [show idxE p [] 0 = -1 from rfl] at HIX
  simp only [List.length_nil] at HIX
  go_enter Tryz.func55, Tryz.ntmps55
  go_wp2_with (go_at_call 50; refine HIX.out.mono ?_; rintro e w2 ⟨rfl, hn2⟩)
  go_ret
  exact ⟨rfl, hn2⟩
theorem lacks_filter (a b : List Ev) : b.filter (fun x => !(fun y => decide (y ∈ a)) x) = lacksL a b := by
  unfold lacksL
  exact List.filter_congr (fun x _ => by simp)
set_option maxRecDepth 100000 in
set_option maxHeartbeats 1000000 in
theorem w_LacksOf (lo : Nat) (A B : Option Addr) (c d : Nat) (a b : List Ev) (w : World) (hA : Rd w lo A 11 encEvt a) (hB : Rd w lo B 11 encEvt b) (hla : a.length ≤ 50) (hlb : b.length ≤ 50) :
    Calls Tryz.prog 26 #[.slice A a.length c, .slice B b.length d] w fun e w' => ∃ (B' : Option Addr) (m cb : Nat), e = .returned (.slice B' m cb) ∧ m = (lacksL a b).length ∧ Rd w' 0 B' 11 encEvt (lacksL a b) ∧ Nx w w' := by
  obtain ⟨w1, hw1⟩ : ∃ w1, w1 = w.alloc (.cells #[.slice A a.length c] 26 (0, 0)) := ⟨_, rfl⟩
  obtain ⟨bx, hbx⟩ : ∃ bx, bx = w.heap.size := ⟨_, rfl⟩
  have hn1 : Nx w w1 := hw1 ▸ (Nx.refl w).alloc _
  have hb1 : w1.heap[bx]? = some (.cells #[.slice A a.length c] 26 (0, 0)) := by rw [hw1, hbx]; exact heap_alloc_new w _
  have k0 : w1.cell? ⟨bx, 0, none⟩ = some (.slice A a.length c) := cell_of_row w1 _ 0 _ _ _ hb1
  have hbl := (Array.getElem?_eq_some_iff.1 hb1).1
  have HCL := hide (w_CloneEv lo B d b w1 (hB.nx hn1) (by omega))
  have HDF := hide (fun (v : Value) (W : World) (hn : Nx w1 W) (how : W.ownsRow w1.heap.size 31 11 v b.length (b.flatMap encEvt)) => (show Calls Tryz.prog 55 #[v, .func (.func 56) #[] #[.pointer (some ⟨bx, 0, none⟩)]] W fun e w' => ∃ (B' : Option Addr) (m cb : Nat), e = .returned (.slice B' m cb) ∧ m = (lacksL a b).length ∧ Rd w' 0 B' 11 encEvt (lacksL a b) ∧ Nx w1 w' by
    rcases how.2 with ⟨rfl, h0⟩ | ⟨g, cap, cur, rfl, hg, _, hle, _⟩
    · have hb0 : b = [] := List.eq_nil_of_length_eq_zero h0
      rw [hb0]
      refine (w_DeleteFE0 56 (fun y => decide (y ∈ a)) _ eg_lacks W).mono ?_
      rintro e w' ⟨rfl, hn'⟩
      exact ⟨none, 0, 0, rfl, rfl, Rd.nil, hn.trans hn'⟩
    · have hgl := (how.lt g rfl).1
      have hnx : ∀ W', Gr g W W' → Nx w1 W' := fun W' h => Nx.of_gr ((Gr.of_nx hn : Gr g w1 W).trans h) hgl
      refine (w_DeleteFE 56 (fun y => decide (y ∈ a)) _ eg_lacks b W rfl (by omega) hle (fun y W' h => w_lacks1 lo A c a y bx W' (nx_cell (hnx W' h) hbl k0) (Nat.lt_of_lt_of_le hbl (hnx W' h).sz) ((hA.nx hn1).nx (hnx W' h)) (by omega)) how).mono ?_
      rintro e w' ⟨m, rfl, hm, hR, hg'⟩
      rw [lacks_filter] at hm hR
      exact ⟨_, m, cap, rfl, hm, hR.low (Nat.zero_le _), hnx w' hg'⟩))
  have HN1 := hide hn1
  generalize b.length = nb at *
  generalize a.length = na at *
  generalize b.flatMap encEvt = fb at *
  clear hA hB hn1 hb1 hbl
  go_enter Tryz.func26, Tryz.ntmps26
  go_upto_region 1 with fail
  rw [← hw1, ← hbx]
  clear hw1 hbx
  go_wp2_with fail
  refine HCL.out.mono ?_
  rintro e w2 ⟨v, rfl, how, hn2⟩
  have HD2 := hide (HDF.out v w2 hn2 how)
  clear hn2 how HCL HDF k0
  go_wp2_with (go_at_call 55; refine HD2.out.mono ?_; rintro e w3 ⟨B', m, cb, rfl, hm, hR, hn3⟩; (have HM := hide hm); (have HR := hide hR); (have HN3 := hide hn3); clear hm hR hn3)
  go_ret
  exact ⟨B', m, cb, rfl, HM.out, HR.out, HN1.out.trans HN3.out⟩
end Go.Proofs.YtfkmbeppckelfaaGreatDoor
/- What is asked of events: the refused ones, how a ride is. -/
namespace Go.Proofs.YtfkmbeppckelfaaGreatDoor
open Go.RowKit Go.Maps

def endMo : Int := 345686400000
def momentF (l : List Ev) (at_ : Int) : Int := if evsF l = 0 then (if momB at_ then 0 else 1) else evsF l
theorem w_momentFault (lo : Nat) (A : Option Addr) (c : Nat) (l : List Ev) (at_ : Int) (w : World) (hR : Rd w lo A 11 encEvt l) (hl : l.length ≤ 50) (hok : ∀ x ∈ l, okEv x) :
    Calls Tryz.prog 58 #[.slice A l.length c, .int .i64 at_] w fun e w' => e = .returned (.int .i64 (momentF l at_)) ∧ Nx w w' := by
  have HC := hide (w_CheckEvents lo A c l w hR hl hok)
  have hf := hide (show momentF l at_ = if evsF l = 0 then (if momB at_ = true then 0 else 1) else evsF l from rfl)
  generalize evsF l = f at HC hf
  generalize momentF l at_ = r at hf ⊢
  generalize l.length = n at *
  clear hR hl hok
  go_enter Tryz.func58, Tryz.ntmps58
  have hq : f = 0 ∨ (f == 0) = false := by simp; omega
  rcases hq with rfl | hq
  · cases hm : momB at_ with
    | true =>
      have hr := hide (show r = 0 by rw [hf.out]; simp [hm])
      go_wp2_with (first
        | (go_at_call 17; refine HC.out.mono ?_; rintro e w2 ⟨rfl, hn2⟩)
        | (go_at_call 86; refine (w_Moment _ _).mono ?_; rintro e w' ⟨rfl, rfl⟩))
      go_ret
      exact ⟨by rw [hr.out] <;> rfl, hn2⟩
    | false =>
      have hr := hide (show r = 1 by rw [hf.out]; simp [hm])
      go_wp2_with (first
        | (go_at_call 17; refine HC.out.mono ?_; rintro e w2 ⟨rfl, hn2⟩)
        | (go_at_call 86; refine (w_Moment _ _).mono ?_; rintro e w' ⟨rfl, rfl⟩))
      go_ret
      exact ⟨by rw [hr.out] <;> rfl, hn2⟩
  · have hr := hide (show r = f by rw [hf.out, if_neg (by simpa using hq)])
    go_wp2_with (first
      | (go_at_call 17; refine HC.out.mono ?_; rintro e w2 ⟨rfl, hn2⟩)
      | (go_at_call 86; refine (w_Moment _ _).mono ?_; rintro e w' ⟨rfl, rfl⟩))
    go_ret
    exact ⟨by rw [hr.out] <;> rfl, hn2⟩
end Go.Proofs.YtfkmbeppckelfaaGreatDoor
/- Plain: an event that is written behind others. -/
namespace Go.Proofs.YtfkmbeppckelfaaGreatDoor

/-- The end of time. -/
def endW : Int := 345686400000
/-- The event with its number. -/
def newE (l : List Ev) (x : Ev) : Ev := { x with no := num0 l x.source + 1 }
/-- Why the last event is refused. -/
def lastWhy (l : List Ev) (y : Ev) : Int := if goneB (l ++ [y]) l.length = true then 0 else whyL (l ++ [y]) endW l.length y
/-- What is wrong with an event behind right ones. -/
def wrF (l : List Ev) (x : Ev) : Int :=
  if x.no ≠ 0 then 3 else if evF (newE l x) ≠ 0 then evF (newE l x) else if lateB (lastO none l) (newE l x) = true then 7 else lastWhy l (newE l x)
theorem newE_right {l : List Ev} {x : Ev} (h : evsF l = 0) (h1 : evF (newE l x) = 0) (h2 : lateB (lastO none l) (newE l x) = false) : evsF (l ++ [newE l x]) = 0 := evsF_snoc_zero h h1 h2 rfl
theorem refP_lt (l : List Ev) (at_ : Int) : ∀ k, ∀ p ∈ refP l at_ k, 0 ≤ p.1 ∧ p.1 < (k : Int)
  | 0, p, h => by cases h
  | k + 1, p, h => by
    have ih := refP_lt l at_ k
    unfold refP at h
    split at h
    · have := ih p h; omega
    · split at h
      · have := ih p h; omega
      · split at h
        · have := ih p h; omega
        · rcases List.mem_append.1 h with h | h
          · have := ih p h; omega
          · rw [List.mem_singleton.1 h]
            show 0 ≤ (k : Int) ∧ (k : Int) < ((k + 1 : Nat) : Int)
            omega
theorem refP_snoc {l : List Ev} {y : Ev} (h : evsF (l ++ [y]) = 0) : refP (l ++ [y]) endW (l ++ [y]).length = refP (l ++ [y]) endW l.length ++ (if lastWhy l y = 0 then [] else [((l.length : Int), lastWhy l y)]) := by
  have hlen : (l ++ [y]).length = l.length + 1 := by simp
  rw [hlen]
  have hat : ¬ endW < y.at_ := by
    obtain ⟨_, _, h3, _⟩ := evF_zero (evs_right h (x := y) (by simp))
    unfold endW; omega
  have hg : (l ++ [y])[l.length]? = some y := by simp
  conv => lhs; unfold refP
  rw [hg]
  simp only
  unfold lastWhy
  by_cases h2 : goneB (l ++ [y]) l.length = true
  · rw [if_pos (.inl h2), if_pos h2]; simp
  · rw [if_neg (by simp [h2, hat]), if_neg h2]
    split <;> simp
/-- The test of the program: the last refused event is the new one. -/
theorem refP_last {l : List Ev} {y : Ev} (h : evsF (l ++ [y]) = 0) : (lastWhy l y = 0 ∧ ∀ p ∈ refP (l ++ [y]) endW (l ++ [y]).length, p.1 ≠ (l.length : Int)) ∨
    (lastWhy l y ≠ 0 ∧ ∃ R, refP (l ++ [y]) endW (l ++ [y]).length = R ++ [((l.length : Int), lastWhy l y)]) := by
  rw [refP_snoc h]
  by_cases h1 : lastWhy l y = 0
  · refine .inl ⟨h1, ?_⟩
    rw [if_pos h1, List.append_nil]
    intro p hp
    have := (refP_lt _ _ _ p hp).2
    omega
  · exact .inr ⟨h1, _, by rw [if_neg h1]⟩
/-- The reference's last step. -/
theorem lastWhy_ref {l : List Ev} {y : Ev} (h : evsF (l ++ [y]) = 0) : (stepL (l ++ [y]) l.length y (runR (l ++ [y]) endW l.length)).2 = lastWhy l y := by
  unfold stepL lastWhy
  by_cases h2 : goneB (l ++ [y]) l.length = true
  · rw [if_pos h2, if_pos h2]
  · rw [if_neg h2, if_neg h2]
    unfold whyL
    by_cases h9 : y.kind = 9
    · rw [if_pos h9, if_pos h9]
    · rw [if_neg h9, if_neg h9]
      exact (step_sim (evs_right h (x := y) (by simp)) h9 (run_sim h endW l.length)).1.symm
/-- What is wrong with an event behind any. -/
def writeF (l : List Ev) (x : Ev) : Int := if evsF l = 0 then wrF l x else evsF l
end Go.Proofs.YtfkmbeppckelfaaGreatDoor
/- A map written out: 'map[K]V{k: v}'. Of no program. -/
namespace Go.Proofs.YtfkmbeppckelfaaGreatDoor
open Go.RowKit Go.Maps

theorem wpMgIns2 {κ V : Type} {P : Program} {K : TypeId} {ek : κ → Value} {dom : κ → Prop} {R : Value → Option (DataW Unit × List MemPlace)} {ev : V → Value} {dv : V → DataW Unit} {okv : V → Prop} [DecidableEq κ] (w : World) {ops : Array Oper} {rest : List Oper} {o : Oper} {a : Act} {Q : Exit → Act → World → Prop}
    (hg : o.guard = none) (m x v : Operand) (t : TypeId) (hop : o.op = Op.insert t m x v) (ER : ElemR R ev dv okv) {E : TypeId}
    (KL : Keyed P K) (hinj : ∀ a b : κ, ek a = ek b → a = b) (ht : P.underlying t = some (.map K E)) (b n : Nat) (f : κ → Option V)
    (hm : a.eval m = .map (some b)) (hown : MgI P K ek dom R dv w b n f) (hn : n < maxLen) (k : κ) (hx : a.eval x = ek k) (hd : dom k) (l : Lit) (hkey : keyOf P K (ek k) = some l)
    (z : V) (hz : a.eval v = ev z) (hwf : okv z)
    (hK : ∀ w', MgI P K ek dom R dv w' b (n + 1) (fun k' => if k' = k then some z else f k') → Gr b w w' → wpList P ops Q rest (a.put o.dst undef) w') :
    wpList P ops Q (o :: rest) a w := by
  refine wpList_plain hg fun K' hK' => ?_
  obtain ⟨w', hrun, r1, r2⟩ := hown.upd ER KL hinj ht hn hd hkey z hwf
  unfold Oper.wp
  simp [execOp, hop, hm, hx, hz, hrun, Result.andThen]
  exact hK' _ _ (hK w' r1 r2)
end Go.Proofs.YtfkmbeppckelfaaGreatDoor
/- slices.Equal of events that are the same; events as keys of a map. -/
namespace Go.Proofs.YtfkmbeppckelfaaGreatDoor
open Go.RowKit Go.Maps
attribute [local go_sem ↓] neq_Ev eql_Ev

set_option maxRecDepth 100000 in
set_option maxHeartbeats 1000000 in
theorem w_EqualEv (lo lo' : Nat) (A B : Option Addr) (c d : Nat) (l : List Ev) (w : World) (hA : Rd w lo A 11 encEvt l) (hB : Rd w lo' B 11 encEvt l) (hl : l.length ≤ 65536) :
    Calls Tryz.prog 24 #[.slice A l.length c, .slice B l.length d] w fun e w' => e = .returned (.bool true) ∧ Nx w w' := by
  generalize hn : l.length = n at *
  have HA := hide hA
  have HB := hide hB
  have HN := hide hn
  clear hA hB hn
  go_enter Tryz.func24, Tryz.ntmps24
  go_wp2
  go_loopw [5, 13] (fun _ i wr => ∃ k : Nat, k ≤ n ∧ i = .int .i64 k ∧ Nx w wr) (fun _ i _ => n - (intOf i).toNat)
  case atStart => exact ⟨0, Nat.zero_le _, rfl, Nx.refl _⟩
  case round =>
    obtain ⟨k, hk, rfl, hbw⟩ := hrel
    by_cases hlt : k < n
    · have hlt' : k < l.length := by have := HN.out; omega
      obtain ⟨b, off, rfl, _, hb, hbr, hc⟩ := HA.out.open_ hbw (by omega)
      obtain ⟨b', off', rfl, _, hb', hbr', hc'⟩ := HB.out.open_ hbw (by omega)
      obtain ⟨c0, c1, c2, c3, c4, c5, c6, c7, c8, c9, c10⟩ := ev_cells (hc k hlt')
      obtain ⟨d0, d1, d2, d3, d4, d5, d6, d7, d8, d9, d10⟩ := ev_cells (hc' k hlt')
      clear hc hc'
      generalize l[k] = s at *
      obtain ⟨so, no, at_, ki, ri, ca, nd, up, dn, fo, nu⟩ := s
      simp only at c0 c1 c2 c3 c4 c5 c6 c7 c8 c9 c10 d0 d1 d2 d3 d4 d5 d6 d7 d8 d9 d10
      have q1 : (0 : Int) ≤ (k : Int) := by omega
      have q2 : (k : Int) < (n : Int) := by omega
      go_wp2_with fail
      go_quiet (fail)
      go_wp2
      go_roundw
      case rel => exact ⟨k + 1, by omega, by go_num, hbw.drewN _⟩
      case measure => simp [intOf]; omega
    · go_wp2
      go_ret
      exact ⟨rfl, hbw⟩
end Go.Proofs.YtfkmbeppckelfaaGreatDoor
/- Where cars are, in memory; two lists of them compared. -/
namespace Go.Proofs.YtfkmbeppckelfaaGreatDoor
open Go.RowKit Go.Maps

/-- Where a car is, and where its row of rides lies. -/
structure WrS where
  core : Wr
  ra : Option Addr
  rc : Nat
def encWr (x : WrS) : List Value := [.string x.core.car, .string x.core.node, .int .i64 x.core.at_, .bool x.core.broken, .slice x.ra x.core.rides.length x.rc]
/-- Each car's rides are a row of its own. -/
def RowsIn (w : World) (lo : Nat) (L : List WrS) : Prop := ∀ x ∈ L, w.ownsRow lo 9 1 (.slice x.ra x.core.rides.length x.rc) x.core.rides.length (x.core.rides.flatMap encS)
theorem RowsIn.nx {w w' : World} {lo : Nat} {L : List WrS} (h : RowsIn w lo L) (hn : Nx w w') : RowsIn w' lo L := fun x hx => own_nx (h x hx) hn
/-- Cars, read. -/
def RdWrs (w : World) (lo : Nat) (A : Option Addr) (L : List WrS) : Prop := Rd w lo A 5 encWr L ∧ ∀ x ∈ L, Rd w lo x.ra 1 encS x.core.rides
theorem RdWrs.nx {w w' : World} {lo : Nat} {A : Option Addr} {L : List WrS} (h : RdWrs w lo A L) (hn : Nx w w') : RdWrs w' lo A L := ⟨h.1.nx hn, fun r hr => (h.2 r hr).nx hn⟩
theorem RdWrs.low {w : World} {lo lo' : Nat} {A : Option Addr} {L : List WrS} (h : RdWrs w lo A L) (hn : lo' ≤ lo) : RdWrs w lo' A L := ⟨h.1.low hn, fun r hr => (h.2 r hr).low hn⟩
theorem RowsIn.rd {w : World} {lo : Nat} {L : List WrS} (h : RowsIn w lo L) : ∀ x ∈ L, Rd w lo x.ra 1 encS x.core.rides := fun x hx => by
  obtain ⟨A, c, e, hR, _⟩ := Rd.of_own encS_len rfl (h x hx)
  injection e with e1 e2 e3
  rw [e1]; exact hR
end Go.Proofs.YtfkmbeppckelfaaGreatDoor
/- Rides and cars sorted by their keys. -/
namespace Go.Proofs.YtfkmbeppckelfaaGreatDoor
open Go.RowKit Go.Sort Go.Shelf Go.Maps Go.Proofs

def cmpBy {α : Type} (key : α → ByteArray) (a b : α) : Int := cmpS (key a) (key b)
section
variable {α : Type} {key : α → ByteArray}
theorem by_lt {a b : α} : ltOf (cmpBy key) a b = true ↔ ltS (key a) (key b) := by
  unfold ltOf cmpBy
  rw [decide_eq_true_eq, cmpS_neg]
theorem by_nlt {a b : α} : ltOf (cmpBy key) a b = false ↔ ¬ ltS (key a) (key b) := by
  rw [← by_lt]; simp
theorem swoBy : SWO (ltOf (cmpBy key)) where
  irrefl x := by_nlt.2 (ltS_irrefl _)
  trans x y z h1 h2 := by_lt.2 (ltS_trans (by_lt.1 h1) (by_lt.1 h2))
  ntrans x y z h1 h2 := by_nlt.2 (fun h => by
    have h1 := by_nlt.1 h1
    have h2 := by_nlt.1 h2
    unfold ltS at *
    rw [List.not_lt] at h1 h2
    exact absurd h (List.not_lt.2 (List.le_trans h2 h1)))
/-- What has been collected while some entries are still to come. -/
structure CollG (key : α → ByteArray) (is_ : ByteArray → Bool) (Q : ByteArray → α → Prop) (left : Lit → Bool) (L : List α) : Prop where
  val : ∀ x ∈ L, Q (key x) x
  gone : ∀ x ∈ L, left (litS (key x)) = false
  all_ : ∀ k, is_ k = true → left (litS k) = false → ∃ x ∈ L, key x = k
  nodup : (L.map key).Nodup
variable {is_ : ByteArray → Bool} {Q : ByteArray → α → Prop} {left : Lit → Bool} {L : List α}
theorem collG_start (h : ∀ k, is_ k = true → left (litS k) = true) : CollG key is_ Q left [] :=
  ⟨by simp, by simp, fun k h1 h2 => (by rw [h k h1] at h2; cases h2), by simp⟩
theorem collG_step (h : CollG key is_ Q left L) {k : ByteArray} {x : α} (hx : key x = k) (hq : Q k x) (hl : left (litS k) = true) : CollG key is_ Q (fun z => left z && !z.sameKey (litS k)) (L ++ [x]) := by
  have hself := sameS_self k
  refine ⟨?_, ?_, ?_, ?_⟩
  · intro t ht
    rcases List.mem_append.1 ht with ht | ht
    · exact h.val t ht
    · rw [List.mem_singleton.1 ht, hx]; exact hq
  · intro t ht
    rcases List.mem_append.1 ht with ht | ht
    · show (left _ && _) = false
      rw [h.gone t ht]; rfl
    · rw [List.mem_singleton.1 ht, hx]
      show (left (litS k) && !(litS k).sameKey (litS k)) = false
      rw [hself]; simp
  · intro k' hk' hlf
    by_cases e : k' = k
    · exact ⟨x, by simp, by rw [hx, e]⟩
    · have hs : (litS k').sameKey (litS k) = false := sameKey_ne (fun e1 => e (litS_inj e1))
      have hlf : (left (litS k') && !(litS k').sameKey (litS k)) = false := hlf
      rw [hs] at hlf
      obtain ⟨y, hy, e2⟩ := h.all_ k' hk' (by simpa using hlf)
      exact ⟨y, List.mem_append_left _ hy, e2⟩
  · rw [List.map_append, List.nodup_append]
    refine ⟨h.nodup, by simp, fun a ha b hb e => ?_⟩
    have hb : b = key x := by simpa using hb
    rw [hb, hx] at e; subst e
    obtain ⟨t, ht, e2⟩ := List.mem_map.1 ha
    have := h.gone t ht
    rw [e2, hl] at this; cases this
theorem collG_end (h : CollG key is_ Q left L) (hl : ∀ kl, left kl = false) {ys : List α} (hp : ys.Perm L) (hs : ∀ i j (hi : i < j) (hj : j < ys.length), ltOf (cmpBy key) ys[j] (ys[i]'(by omega)) = false) :
    ys.Pairwise (fun a b => ltS (key a) (key b)) ∧ (∀ x ∈ ys, Q (key x) x) ∧ ∀ k, is_ k = true → ∃ x ∈ ys, key x = k := by
  refine ⟨?_, fun x hx => h.val x (hp.subset hx), fun k hk => ?_⟩
  · have hnd : (ys.map key).Nodup := (hp.map key).nodup_iff.2 h.nodup
    rw [List.pairwise_iff_getElem]
    intro i j hi hj hij
    have h1 := hs i j hij hj
    have h2 : key ys[i] ≠ key ys[j] := fun e => by
      have := (List.nodup_iff_pairwise_ne.1 hnd)
      rw [List.pairwise_iff_getElem] at this
      exact this i j (by simpa using hi) (by simpa using hj) hij (by simpa using e)
    rw [by_nlt] at h1
    refine Classical.byContradiction fun hn => h2 (ltS_tri _ _ hn h1)
  · obtain ⟨x, hx, e⟩ := h.all_ k hk (hl _)
    exact ⟨x, hp.symm.subset hx, e⟩
end
instance : Inhabited St := ⟨st0⟩
instance : Inhabited Wr := ⟨⟨eB, eB, 0, false, []⟩⟩
instance : Inhabited WrS := ⟨⟨default, none, 0⟩⟩
theorem w_Rides1 (x y : St) (W : World) : Calls Tryz.prog 60 #[.agg (encSta x).toArray, .agg (encSta y).toArray] W fun e w' => e = .returned (.int .i64 (cmpBy St.ride x y)) ∧ Lays W w' := by
  have h : Calls Tryz.prog 60 #[.agg #[.string x.ride, .string x.car, .int .i64 x.how, .int .i64 x.up, .int .i64 x.down, .int .i64 x.on, .int .i64 x.off], .agg #[.string y.ride, .string y.car, .int .i64 y.how, .int .i64 y.up, .int .i64 y.down, .int .i64 y.on, .int .i64 y.off]] W fun e w' => e = .returned (.int .i64 (cmpBy St.ride x y)) ∧ Lays W w' := by
    go_enter Tryz.func60, Tryz.ntmps60
    go_wp2_with (go_at_call 61; refine (w_CompareS _ _ _).mono ?_; rintro e w' ⟨rfl, rfl⟩)
    go_ret
    exact ⟨rfl, ((Lays.refl _).alloc _).alloc _⟩
  exact h
theorem enters_Rides1 : ∀ args w, (callFunc 60 args).run Tryz.prog w = .ok (.enter 60 args) w := enters_of Tryz.func60 (by kernel_rfl) rfl
/-- slices.SortFunc of rides, on a row of the call's own. -/
theorem w_SortSta {base n : Nat} {v : Value} {L : List St} (w : World) (hn : L.length = n) (hl : n ≤ 100000) (h : w.ownsRow base 59 7 v n (L.flatMap encSta)) :
    Calls Tryz.prog 59 #[v, .func (.func 60) #[] #[]] w fun e w' => e = .returned (.tuple #[]) ∧ ∃ ys : List St, ys.Perm L ∧ (∀ i j (hi : i < j) (hj : j < ys.length), ltOf (cmpBy St.ride) ys[j] (ys[i]'(by omega)) = false) ∧ w'.ownsRow base 59 7 v n (ys.flatMap encSta) ∧ w.grownBy w' v.ownBlock := by
  have h0 := h
  rcases h.2 with ⟨rfl, h1⟩ | ⟨g, cap, cur, rfl, hg, _⟩
  · obtain rfl : n = 0 := h1
    have hL : L = [] := List.eq_nil_of_length_eq_zero hn
    subst hL
    refine (AnyF.slices_SortFunc_none (P := Tryz.prog) { Tryz.sortSta with } none 0 (.func (.func 60) #[] #[]) w).mono ?_
    rintro e w' ⟨rfl, rfl⟩
    exact ⟨rfl, [], List.Perm.refl _, by simp, h0, World.grownBy.refl _ _⟩
  · refine (sortFunc Tryz.sortSta 7 (by omega) Tryz.isAgg59 Tryz.sizeOf59 encSta encSta_len encSta_one (cmpBy St.ride) swoBy 60 enters_Rides1 (fun x y W => w_Rides1 x y W) (base := base) (b := g) (cap := cap) (xs := L) hn (by omega) h).mono ?_
    rintro e w' ⟨rfl, ys, hp, hs, ho, hgr⟩
    exact ⟨rfl, ys, hp, hs, ho, hgr⟩
end Go.Proofs.YtfkmbeppckelfaaGreatDoor
/- All rides, by the program. -/
namespace Go.Proofs.YtfkmbeppckelfaaGreatDoor
open Go.RowKit Go.Sort Go.Shelf Go.Maps Go.Proofs

/-- What Rides answers. -/
def RidesEnd (l : List Ev) (at_ : Int) (w : World) (e : Ending) (w' : World) : Prop :=
  (∃ (B : Option Addr) (m cb : Nat), e = .returned (.tuple #[.slice B m cb, .int .i64 (momentF l at_)]) ∧ (momentF l at_ ≠ 0 → m = 0) ∧ (momentF l at_ = 0 → ∃ L : List St, m = L.length ∧ Rd w' w.heap.size B 7 encSta L ∧ StsOf (runP l at_ l.length).rides L ∧ L.length ≤ 4 * l.length)) ∧ Nx w w'
theorem momentF_zero {l : List Ev} {at_ : Int} (h : momentF l at_ = 0) : evsF l = 0 ∧ momB at_ = true := by
  unfold momentF at h
  by_cases h1 : evsF l = 0
  · rw [if_pos h1] at h
    refine ⟨h1, ?_⟩
    cases hm : momB at_ with
    | true => rfl
    | false => rw [hm] at h; simp at h
  · rw [if_neg h1] at h; exact absurd h h1
set_option maxRecDepth 100000 in
set_option maxHeartbeats 2000000 in
theorem w_Rides (lo : Nat) (A : Option Addr) (c : Nat) (l : List Ev) (at_ : Int) (w : World) (hR : Rd w lo A 11 encEvt l) (hl : l.length ≤ 50) (hok : ∀ x ∈ l, okEv x) :
    Calls Tryz.prog 28 #[.slice A l.length c, .int .i64 at_] w (RidesEnd l at_ w) := by
  have HC := hide (w_momentFault lo A c l at_ w hR hl hok)
  have HFO := hide (fun (h : momentF l at_ = 0) (W : World) (hn : Nx w W) => w_follow lo A c l at_ W (hR.nx hn) (by omega) (momentF_zero h).1)
  unfold RidesEnd
  have hq : momentF l at_ = 0 ∨ (momentF l at_ != 0) = true := by simp; omega
  rcases hq with hq | hq
  · have HQ := hide hq
    have hsim := run_sim (momentF_zero hq).1 at_ l.length
    rw [hq] at HC ⊢
    have HFO2 := hide (HFO.out hq)
    obtain ⟨D, hD⟩ : ∃ D, D = runP l at_ l.length := ⟨_, rfl⟩
    rw [← hD] at hsim ⊢
    have HD := hide hD
    have HKEY := hide (show ∀ k s, D.rides k = some s → s.ride = k from fun k s h => hsim.key k s (by rw [← hsim.rides k]; exact h))
    obtain ⟨n, hn⟩ : ∃ n, n = l.length := ⟨_, rfl⟩
    have hnl : n ≤ 50 := by omega
    rw [← hn] at HC HFO2 ⊢
    have HN := hide hn
    clear hR hl hok hq hn HFO hD hsim
    go_enter Tryz.func28, Tryz.ntmps28
    go_wp2_with fail
    refine HC.out.mono ?_
    rintro e w2 ⟨rfl, hn2⟩
    have HFO3 := hide (HFO2.out w2 hn2)
    have HN2 := hide hn2
    clear hn2
    go_wp2_with fail
    refine HFO3.out.mono ?_
    rintro e w3 ⟨lo3, d, rb, cb, gb, bb, rv, fr, fc, fm, rfl, hDW, hblk, hrow, hG, h1, h2, h3, h4, h5, hnx⟩
    have d1 := (day_cells hblk).2.1
    rw [← HD.out, ← HN.out] at hDW
    obtain ⟨Dt, hown, hMD⟩ := hDW.rides.map
    have hnt : Maps.size Dt ≤ 4 * n := by
      obtain ⟨es, clock, _, _, h1, rfl⟩ := hown
      rw [size_eq, length_sorted]; simpa using h1
    have HDW := hide hDW
    have HMD := hide hMD
    have HN3 := hide (HN2.out.trans hnx)
    have hzz : w.heap.size ≤ w3.heap.size := HN3.out.sz
    clear hblk hrow hG hnx hDW hMD
    go_wp2_with (first
      | (at_range; refine wpList_range_own _ rfl _ _ rfl 9 105 law_strE Tryz.underlying86 _ rb (4 * n) _ rfl hown ?_; intro w4 hrg4 hg4 hs4))
    try go_frame
    have hgn : ∀ k, (D.rides k).isSome = true → Maps.has Dt (litS k) = true := by
      intro k hk'
      cases hs : D.rides k with
      | none => rw [hs] at hk'; cases hk'
      | some s =>
        obtain ⟨q, hq, _⟩ := HDW.out.rides.at_ k s hs
        have hdk := HMD.out.dm k (by rw [hq]; rfl)
        rw [HMD.out.has_ hdk (keyS_mk Tryz.underlying9 hdk), hq]; rfl
    have HGN := hide hgn
    clear hgn
    go_loopw [7, 9] (fun v _ wr => ∃ (left : Lit → Bool) (cnt : Nat) (L : List St), wr.ranges Tryz.prog 9 ptrElem rb w3.heap.size (4 * n) Dt left cnt ∧ L.length + cnt ≤ 4 * n ∧ wr.ownsRow (w3.heap.size + 1) 59 7 v L.length (L.flatMap encSta) ∧ CollG St.ride (fun k => (D.rides k).isSome) (fun k s => D.rides k = some s) left L ∧ Nx w3 wr)
      (fun _ _ wr => wr.rangeLeft rb w3.heap.size)
    case atStart =>
      exact ⟨_, _, [], hrg4, by simpa using hnt, World.ownsRow_nil _ _ _ _, collG_start HGN.out, (Nx.refl _).grown hg4 (fun j hj => by cases hj)⟩
    case round =>
      obtain ⟨left, cnt, L, hrg, hcs, hown1, hC, hnx⟩ := hrel
      have HCC := hide hC
      have HNX := hide hnx
      have HRG := hide hrg
      have HOW := hide hown1
      clear hC hnx hown1
      go_wp2_with (first
        | (at_next; refine wpList_next_ranges _ rfl _ rfl 9 law_strE ptrElem Value.string ptrV (fun key kl hkey => (by obtain ⟨x, rfl, _⟩ := keyS_inv Tryz.underlying9 hkey; exact ⟨x, rfl⟩)) (fun v y hv => (by obtain ⟨q, _, h, _⟩ := elemPtr.inv v y.1 y.2 hv; exact ⟨q, h⟩)) rb w3.heap.size (4 * n) _ _ _ rfl hrg ?_ ?_))
      · intro hc0 hl0
        have HL0 := hide hl0
        obtain ⟨m, hm⟩ : ∃ m, m = L.length := ⟨_, rfl⟩
        have HM := hide hm
        have HSO := hide (w_SortSta wr rfl (by omega) HOW.out)
        clear hl0 hm hrg
        go_wp2_with (go_at_call 59; refine HSO.out.mono ?_; rintro e w6 ⟨rfl, ys, hp, hs, ho, hg6⟩; (have HP := hide hp); (have HS := hide hs); (have HO := hide ho); (have HG6 := hide hg6); clear hp hs ho hg6)
        go_ret2
        obtain ⟨h1, h2, h3⟩ := collG_end HCC.out HL0.out HP.out HS.out
        have hyl : ys.length = L.length := HP.out.length_eq
        have ho := HO.out
        rw [← hyl] at ho
        obtain ⟨B, cb', ev, hRB, _⟩ := Rd.of_own encSta_len rfl ho
        refine ⟨⟨B, ys.length, cb', by rw [← ev]; rfl, fun h => absurd rfl h, fun _ => ⟨ys, rfl, hRB.low (by omega), ⟨h1, fun s => ⟨fun hs => ?_, fun hs => ?_⟩⟩, by omega⟩⟩, (HN3.out.trans HNX.out).grown HG6.out (fun p hp => by have := own_blk_lt HOW.out p hp; omega)⟩
        · exact h2 s hs
        · obtain ⟨x, hx, e⟩ := h3 s.ride (by rw [hs]; rfl)
          have := h2 x hx
          rw [e, hs] at this
          injection this with this
          rw [this]; exact hx
      · intro k c kl y ps w5 cnt5 hkey hlk hRv hat hrg5 hlt5 hg5 hs5 hen
        obtain ⟨k0, ek, hdk, rfl⟩ := keyS_inv Tryz.underlying9 hkey
        obtain rfl := strV_inj _ _ ek
        have hfk := range_ptr HMD.out hdk (keyS_mk Tryz.underlying9 hdk) hRv hat
        obtain ⟨s, hs⟩ : ∃ s, D.rides k = some s := by
          cases hs : D.rides k with
          | none => have := HDW.out.rides.non k hs; rw [hfk] at this; cases this
          | some s => exact ⟨s, rfl⟩
        obtain ⟨q, hq, hlq, hqo⟩ := HDW.out.rides.at_ k s hs
        rw [hfk] at hq; injection hq with hq; subst hq
        have hn5 : Nx w3 w5 := HNX.out.grown hg5 (fun p hp => by injection hp with hp; omega)
        have hqo5 := (hn5.block _ (Array.getElem?_eq_some_iff.1 hqo).1).trans hqo
        obtain ⟨b0, b1, b2, b3, b4, b5, b6⟩ := sta_cells hqo5
        have hql := (Array.getElem?_eq_some_iff.1 hqo5).1
        have hstp := hide (collG_step HCC.out (x := s) (HKEY.out k s hs) hs hlk)
        have hown5 := own_gr HOW.out hg5 (by omega)
        have hsz5 : w3.heap.size < w5.heap.size := hrg5.lt
        have hrb3 : rb < w3.heap.size := HDW.out.rides.map.lt
        obtain ⟨rid, car, how, sup, sdn, son, soff⟩ := s
        simp only at b0 b1 b2 b3 b4 b5 b6
        simp only [ptrV] at hen
        have HR5 := hide hrg5
        have HO5 := hide hown5
        have HN5 := hide hn5
        clear hRv hat hlk hg5 hrg5 hs5 hs hfk hqo hqo5 hown5 hn5 hrg
        go_wp2_with (first
            | (at_builtin; refine wpApp rfl _ _ _ rfl el_Sta encSta encSta_len encSta_one (by omega) (by omega) (w3.heap.size + 1) _ L rfl (HO5.out.alloc _) _ ⟨rid, car, how, sup, sdn, son, soff⟩ _ rfl (hnew (by simp)) rfl (by omega) (by simp; omega) ?_; intro v8 w8 hown8 hg8; (have HO8 := hide hown8); (have HG8 := hide hg8); clear hown8 hg8))
        have hrg8 := (HR5.out.alloc _).kept HG8.out (fun e => by have := own_blk_lt HO5.out rb e.symm; omega) (fun e => by have := own_blk_lt HO5.out _ e.symm; omega)
        go_roundw
        case rel => exact ⟨_, cnt5, _, hrg8, by simp; omega, HO8.out, hstp.out, (HN5.out.alloc _).grown HG8.out (fun p hp => by have := own_blk_lt HO5.out p hp; omega)⟩
        case measure => rw [hrg8.left_eq, HRG.out.left_eq]; exact hlt5
  · have HQ := hide (show momentF l at_ ≠ 0 by simpa using hq)
    generalize momentF l at_ = f at *
    generalize l.length = n at *
    clear hR hl hok HFO
    go_enter Tryz.func28, Tryz.ntmps28
    go_wp2_with fail
    refine HC.out.mono ?_
    rintro e w2 ⟨rfl, hn2⟩
    go_wp2_with fail
    go_ret2
    exact ⟨⟨_, _, _, rfl, fun _ => rfl, fun h => absurd h HQ.out⟩, hn2⟩
end Go.Proofs.YtfkmbeppckelfaaGreatDoor
/- jitlaw1.lived. -/
namespace Go.Proofs.YtfkmbeppckelfaaGreatDoor
open Go.RowKit Go.Maps

def evL : Ev := ⟨⟨#[115]⟩, 1, 0, 1, ⟨#[114]⟩, eB, eB, 5, 9, eB, 0⟩
def stL : St := ⟨⟨#[114]⟩, eB, 1, 5, 9, 0, 0⟩
theorem evL_moment : momentF [evL] 3 = 0 := by kernel_rfl
theorem evL_run : (runP [evL] 3 [evL].length).rides = updF (fun _ => none) ⟨#[114]⟩ stL := by kernel_rfl
theorem evL_ok : ∀ x ∈ [evL], okEv x := by
  intro x hx
  rw [List.mem_singleton.1 hx]
  exact ⟨by decide, by decide, by decide, by decide, by decide, by decide, by decide, by decide, by decide, by decide, by decide⟩
theorem evL_sts {L : List St} (h : StsOf (runP [evL] 3 [evL].length).rides L) : L = [stL] := by
  rw [evL_run] at h
  refine h.uniq ⟨List.pairwise_singleton _ _, fun s => ?_⟩
  rw [List.mem_singleton]
  constructor
  · rintro rfl; exact updF_same _ _ _
  · intro hs
    unfold updF at hs
    split at hs
    · injection hs with hs; exact hs.symm
    · cases hs
set_option maxRecDepth 100000 in
set_option maxHeartbeats 2000000 in
theorem w_lived (w : World) : Calls Tryz.prog 25 #[] w fun e w' => e = .returned (.bool true) ∧ Nx w w' := by
  go_enter Tryz.func25, Tryz.ntmps25
  go_wp2_with fail
  refine (w_Rides w.heap.size (some ⟨w.heap.size, 0, none⟩) 1 [evL] 3 _ (Rd.lit (heap_alloc_new _ _) (Nat.le_refl _) encEvt_len rfl) (by decide) evL_ok).mono ?_
  rintro e w1 ⟨⟨B, m, cb, rfl, _, hL⟩, hn1⟩
  obtain ⟨L, hm, hR, hS, _⟩ := hL evL_moment
  have e := evL_sts hS
  subst e
  have HR := hide hR
  have HN := hide (((Nx.refl w).alloc _).trans hn1)
  rw [hm, evL_moment]
  clear hR hn1 hL hS hm
  go_wp2_with (go_at_call 33; refine (w_EqualSta 0 0 B (some ⟨w1.heap.size, 0, none⟩) cb 1 [stL] _ (HR.out.low (Nat.zero_le _) |>.nx ((Nx.refl w1).alloc _)) (Rd.lit (heap_alloc_new _ _) (Nat.zero_le _) (fun _ => rfl) rfl) (by decide)).mono ?_; rintro e w2 ⟨rfl, hn2⟩)
  go_ret
  exact ⟨rfl, HN.out.trans (((Nx.refl w1).alloc _).trans hn2)⟩
end Go.Proofs.YtfkmbeppckelfaaGreatDoor
/- What the laws share: the end, the stream, cmp.Or of two or three. -/
namespace Go.Proofs.YtfkmbeppckelfaaGreatDoor
open Go.RowKit

/-- The law's world: what was there stays. -/
def TrueNx (w : World) (e : Ending) (w' : World) : Prop := e = .returned (.bool true) ∧ Nx w w'

theorem w_Or2 (a b : Int) (g c : Nat) (w : World) (hg : w.heap[g]? = some (.cells #[.int .i64 a, .int .i64 b] 38 (0, 0))) :
    Calls Tryz.prog 18 #[.slice (some ⟨g, 0, none⟩) 2 c] w fun e w' => e = .returned (.int .i64 (orI [a, b])) ∧ w = w' := by
  have hR : Rd w 0 (some ⟨g, 0, none⟩) 1 encI [a, b] := Rd.lit hg (Nat.zero_le _) (fun _ => rfl) rfl
  exact w_OrE 0 _ c [a, b] w hR (by simp)

theorem str_new (A : Option Addr) (n c : Nat) (w : World) (hn : n ≤ 9223372036854775807)
    (hL : 0 < n → ∃ b off, A = some ⟨b, off, none⟩ ∧ b < w.heap.size ∧ ∀ j, j < n → ∃ z : Int, w.cell? ⟨b, off + j, none⟩ = some (.int .i64 z) ∧ -9223372036854775808 ≤ z ∧ z ≤ 9223372036854775807) :
    Str (w.alloc (.cells #[.slice A n c, .int .i64 0] 25)) w.heap.size 0 := by
  refine ⟨A, n, c, 0, Nat.le_refl _, hn, hnew rfl, fun hp => ?_⟩
  obtain ⟨b, off, e, hb, hz⟩ := hL hp
  refine ⟨b, off, e, hb, fun j hj => ?_⟩
  obtain ⟨z, h1, h2⟩ := hz j hj
  exact ⟨z, (Below.cell ((Nx.refl w).alloc _) (p := ⟨b, _, none⟩) hb).trans h1, h2⟩
end Go.Proofs.YtfkmbeppckelfaaGreatDoor
