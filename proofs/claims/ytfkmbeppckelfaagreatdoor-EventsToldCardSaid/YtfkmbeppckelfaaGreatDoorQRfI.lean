/- Is there an event: the first one of a kind; which event another one takes back. -/
import Derived.Test.YtfkmbeppckelfaaGreatDoorQRfU
import Derived.Test.YtfkmbeppckelfaaGreatDoorQG2
namespace Go.Proofs.YtfkmbeppckelfaaGreatDoor
open Go.RowKit

/-- Where the first is, from number k on; -1: nowhere. -/
def idxE (p : Ev → Bool) : List Ev → Nat → Int
  | [], _ => -1
  | y :: l, k => if p y = true then (k : Int) else idxE p l (k + 1)
theorem idxE_drop (p : Ev → Bool) (l : List Ev) (k : Nat) (h : k < l.length) : idxE p (l.drop k) k = if p l[k] = true then (k : Int) else idxE p (l.drop (k + 1)) (k + 1) := by
  rw [List.drop_eq_getElem_cons h]; rfl
theorem idxE_find (p : Ev → Bool) : ∀ (l : List Ev) (k : Nat), idxE p l k = match l.findIdx? p with | some i => ((k + i : Nat) : Int) | none => -1
  | [], _ => rfl
  | y :: l, k => by
    unfold idxE
    rw [List.findIdx?_cons, idxE_find p l (k + 1)]
    cases hp : p y with
    | true => simp
    | false =>
      simp only [Bool.false_eq_true, if_false]
      cases l.findIdx? p with
      | none => rfl
      | some i => simp only [Option.map_some]; congr 1; omega
theorem idxE_any (p : Ev → Bool) : ∀ (l : List Ev) (k : Nat), decide (idxE p l k ≥ 0) = l.any p
  | [], _ => rfl
  | y :: l, k => by
    unfold idxE
    cases hp : p y with
    | true => simp [hp] <;> omega
    | false => simp only [Bool.false_eq_true, if_false, List.any_cons, hp, Bool.false_or]; exact idxE_any p l (k + 1)
set_option maxRecDepth 100000 in
set_option maxHeartbeats 2000000 in
theorem w_IndexFE1 (g : Nat) (p : Ev → Bool) (cap0 : Value) (eg : Enters g) (lo : Nat) (A : Option Addr) (c : Nat) (l : List Ev) (w : World) (hcl : ∀ (y : Ev) W, y ∈ l → Nx w W → Calls Tryz.prog g #[.agg #[.string y.source, .int .i64 y.no, .int .i64 y.at_, .int .i64 y.kind, .string y.ride, .string y.car, .string y.node, .int .i64 y.up, .int .i64 y.down, .string y.from_, .int .i64 y.number], cap0] W fun e w' => e = .returned (.bool (p y)) ∧ Nx W w')
    (hR : Rd w lo A 11 encEvt l) (hl : l.length ≤ 65536) :
    Calls Tryz.prog 50 #[.slice A l.length c, .func (.func g) #[] #[cap0]] w fun e w' => e = .returned (.int .i64 (idxE p l 0)) ∧ Nx w w' := by
  generalize hn : l.length = n at *
  have HR := hide hR
  have HN := hide hn
  have HC0 := hide hcl
  clear hR hn hcl
  unfold Enters at eg
  go_enter Tryz.func50, Tryz.ntmps50
  go_wp2
  go_loopw [5, 8] (fun _ i wr => ∃ k : Nat, k ≤ n ∧ i = .int .i64 k ∧ Nx w wr ∧ idxE p l 0 = idxE p (l.drop k) k) (fun _ i _ => n - (intOf i).toNat)
  case atStart => exact ⟨0, Nat.zero_le _, rfl, Nx.refl _, rfl⟩
  case round =>
    obtain ⟨k, hk, rfl, hbw, hq⟩ := hrel
    have HQ := hide hq
    clear hq
    by_cases hlt : k < n
    · have hlt' : k < l.length := by have := HN.out; omega
      obtain ⟨b, off, rfl, _, hb, hbr, hc⟩ := HR.out.open_ hbw (by omega)
      obtain ⟨c0, c1, c2, c3, c4, c5, c6, c7, c8, c9, c10⟩ := ev_cells (hc k hlt')
      clear hc
      have HD := hide (idxE_drop p l k hlt')
      have hcl := fun W (h : Nx w W) => HC0.out l[k] W (List.getElem_mem hlt') h
      generalize l[k] = y at *
      cases hbig : p y
      all_goals
        have HB := hide hbig
        rw [hbig] at hcl
        have HCL := hide hcl
        clear hbig hcl
        go_wp2_with (go_at_fn g; refine (HCL.out _ hbw).mono ?_; rintro e w2 ⟨rfl, hn2⟩)
      · go_roundw
        case rel => exact ⟨k + 1, by omega, by go_num, hbw.trans hn2, by rw [HQ.out, HD.out, HB.out, if_neg (by simp)]⟩
        case measure => simp [intOf]; omega
      · go_ret
        exact ⟨by rw [HQ.out, HD.out, HB.out, if_pos rfl] <;> rfl, hbw.trans hn2⟩
    · go_wp2
      go_ret
      exact ⟨by rw [HQ.out, List.drop_of_length_le (by have := HN.out; omega)] <;> rfl, hbw⟩
set_option maxRecDepth 100000 in
set_option maxHeartbeats 2000000 in
theorem w_IndexFE2 (g : Nat) (p : Ev → Bool) (cap0 cap1 : Value) (eg : Enters g) (lo : Nat) (A : Option Addr) (c : Nat) (l : List Ev) (w : World) (hcl : ∀ (y : Ev) W, y ∈ l → Nx w W → Calls Tryz.prog g #[.agg #[.string y.source, .int .i64 y.no, .int .i64 y.at_, .int .i64 y.kind, .string y.ride, .string y.car, .string y.node, .int .i64 y.up, .int .i64 y.down, .string y.from_, .int .i64 y.number], cap0, cap1] W fun e w' => e = .returned (.bool (p y)) ∧ Nx W w')
    (hR : Rd w lo A 11 encEvt l) (hl : l.length ≤ 65536) :
    Calls Tryz.prog 50 #[.slice A l.length c, .func (.func g) #[] #[cap0, cap1]] w fun e w' => e = .returned (.int .i64 (idxE p l 0)) ∧ Nx w w' := by
  generalize hn : l.length = n at *
  have HR := hide hR
  have HN := hide hn
  have HC0 := hide hcl
  clear hR hn hcl
  unfold Enters at eg
  go_enter Tryz.func50, Tryz.ntmps50
  go_wp2
  go_loopw [5, 8] (fun _ i wr => ∃ k : Nat, k ≤ n ∧ i = .int .i64 k ∧ Nx w wr ∧ idxE p l 0 = idxE p (l.drop k) k) (fun _ i _ => n - (intOf i).toNat)
  case atStart => exact ⟨0, Nat.zero_le _, rfl, Nx.refl _, rfl⟩
  case round =>
    obtain ⟨k, hk, rfl, hbw, hq⟩ := hrel
    have HQ := hide hq
    clear hq
    by_cases hlt : k < n
    · have hlt' : k < l.length := by have := HN.out; omega
      obtain ⟨b, off, rfl, _, hb, hbr, hc⟩ := HR.out.open_ hbw (by omega)
      obtain ⟨c0, c1, c2, c3, c4, c5, c6, c7, c8, c9, c10⟩ := ev_cells (hc k hlt')
      clear hc
      have HD := hide (idxE_drop p l k hlt')
      have hcl := fun W (h : Nx w W) => HC0.out l[k] W (List.getElem_mem hlt') h
      generalize l[k] = y at *
      cases hbig : p y
      all_goals
        have HB := hide hbig
        rw [hbig] at hcl
        have HCL := hide hcl
        clear hbig hcl
        go_wp2_with (go_at_fn g; refine (HCL.out _ hbw).mono ?_; rintro e w2 ⟨rfl, hn2⟩)
      · go_roundw
        case rel => exact ⟨k + 1, by omega, by go_num, hbw.trans hn2, by rw [HQ.out, HD.out, HB.out, if_neg (by simp)]⟩
        case measure => simp [intOf]; omega
      · go_ret
        exact ⟨by rw [HQ.out, HD.out, HB.out, if_pos rfl] <;> rfl, hbw.trans hn2⟩
    · go_wp2
      go_ret
      exact ⟨by rw [HQ.out, List.drop_of_length_le (by have := HN.out; omega)] <;> rfl, hbw⟩
set_option maxRecDepth 100000 in
set_option maxHeartbeats 1000000 in
theorem w_ContFE2 (g : Nat) (p : Ev → Bool) (cap0 cap1 : Value) (eg : Enters g) (lo : Nat) (A : Option Addr) (c : Nat) (l : List Ev) (w : World) (hcl : ∀ (y : Ev) W, y ∈ l → Nx w W → Calls Tryz.prog g #[.agg #[.string y.source, .int .i64 y.no, .int .i64 y.at_, .int .i64 y.kind, .string y.ride, .string y.car, .string y.node, .int .i64 y.up, .int .i64 y.down, .string y.from_, .int .i64 y.number], cap0, cap1] W fun e w' => e = .returned (.bool (p y)) ∧ Nx W w')
    (hR : Rd w lo A 11 encEvt l) (hl : l.length ≤ 65536) :
    Calls Tryz.prog 91 #[.slice A l.length c, .func (.func g) #[] #[cap0, cap1]] w fun e w' => e = .returned (.bool (l.any p)) ∧ Nx w w' := by
  have HC := hide (w_IndexFE2 g p cap0 cap1 eg lo A c l w hcl hR hl)
  have HA := hide (idxE_any p l 0)
  generalize idxE p l 0 = r at *
  generalize l.any p = z at *
  clear hcl eg hR hl
  generalize l.length = n at *
  have h1 := HA.out
  have h2 : decide (r ≥ 0) = z := h1
  go_enter Tryz.func91, Tryz.ntmps91
  go_wp2_with (go_at_call 50; refine HC.out.mono ?_; rintro e w2 ⟨rfl, hn2⟩)
  go_ret
  exact ⟨rfl, hn2⟩
/-- The predicate of undoes. -/
def nmB (s : ByteArray) (n : Int) (y : Ev) : Bool := decide (y.source = s) && decide (y.no = n)
theorem w_undoes1 (s : ByteArray) (n : Int) (y : Ev) (q : Nat) (w : World) (h9 : w.cell? ⟨q, 9, none⟩ = some (.string s)) (h10 : w.cell? ⟨q, 10, none⟩ = some (.int .i64 n)) (hql : q < w.heap.size) :
    Calls Tryz.prog 132 #[.agg #[.string y.source, .int .i64 y.no, .int .i64 y.at_, .int .i64 y.kind, .string y.ride, .string y.car, .string y.node, .int .i64 y.up, .int .i64 y.down, .string y.from_, .int .i64 y.number], .pointer (some ⟨q, 0, none⟩)] w fun e w' => e = .returned (.bool (nmB s n y)) ∧ Nx w w' := by
  obtain ⟨w1, hw1⟩ : ∃ w1, w1 = w.alloc (.cells #[.string y.source, .int .i64 y.no, .int .i64 y.at_, .int .i64 y.kind, .string y.ride, .string y.car, .string y.node, .int .i64 y.up, .int .i64 y.down, .string y.from_, .int .i64 y.number] 31 (0, 0)) := ⟨_, rfl⟩
  have hn1 : Nx w w1 := hw1 ▸ (Nx.refl w).alloc _
  have hb1 : w1.heap[w.heap.size]? = some (.cells #[.string y.source, .int .i64 y.no, .int .i64 y.at_, .int .i64 y.kind, .string y.ride, .string y.car, .string y.node, .int .i64 y.up, .int .i64 y.down, .string y.from_, .int .i64 y.number] 31 (0, 0)) := by rw [hw1]; exact heap_alloc_new w _
  have a0 : w1.cell? ⟨w.heap.size, 0, none⟩ = some (.string y.source) := cell_of_row w1 _ 0 _ _ _ hb1
  have a1 : w1.cell? ⟨w.heap.size, 1, none⟩ = some (.int .i64 y.no) := cell_of_row w1 _ 1 _ _ _ hb1
  have b9 := nx_cell hn1 hql h9
  have b10 := nx_cell hn1 hql h10
  have te : (y.source.toList == s.toList) = decide (y.source = s) := eqS_iff _ _
  have HN1 := hide hn1
  have hnm := hide (show nmB s n y = (decide (y.source = s) && decide (y.no = n)) from rfl)
  generalize nmB s n y = r at *
  have tn : (y.no == n) = decide (y.no = n) := rfl
  generalize decide (y.source = s) = e1 at *
  generalize decide (y.no = n) = e2 at *
  clear h9 h10 hb1 hn1
  go_enter Tryz.func132, Tryz.ntmps132
  go_upto_region 1 with fail
  rw [← hw1]
  clear hw1
  cases e1 <;> cases e2
  all_goals
    go_wp2_with fail
    go_ret
    exact ⟨by rw [hnm.out] <;> rfl, HN1.out⟩
/-- Where the event lies that another one names; -1: nowhere. -/
def tgtI (l : List Ev) (s : ByteArray) (n : Int) : Int := idxE (nmB s n) l 0
theorem tgtI_eq (l : List Ev) (s : ByteArray) (n : Int) : tgtI l s n = match tgtF l s n with | some i => (i : Int) | none => -1 := by
  unfold tgtI
  rw [idxE_find]
  show (match l.findIdx? (nmB s n) with | some i => ((0 + i : Nat) : Int) | none => -1) = match l.findIdx? (nmB s n) with | some i => (i : Int) | none => -1
  cases l.findIdx? (nmB s n) with
  | none => rfl
  | some i => simp
theorem enters_undoes : Enters 132 := enters_of Tryz.func132 (by kernel_rfl) rfl
set_option maxRecDepth 100000 in
set_option maxHeartbeats 1000000 in
theorem w_undoes (lo : Nat) (A : Option Addr) (c : Nat) (l : List Ev) (y : Ev) (w : World) (hR : Rd w lo A 11 encEvt l) (hl : l.length ≤ 65536) :
    Calls Tryz.prog 93 #[.slice A l.length c, .agg #[.string y.source, .int .i64 y.no, .int .i64 y.at_, .int .i64 y.kind, .string y.ride, .string y.car, .string y.node, .int .i64 y.up, .int .i64 y.down, .string y.from_, .int .i64 y.number]] w fun e w' => e = .returned (.int .i64 (tgtI l y.from_ y.number)) ∧ Nx w w' := by
  obtain ⟨w1, hw1⟩ : ∃ w1, w1 = w.alloc (.cells #[.string y.source, .int .i64 y.no, .int .i64 y.at_, .int .i64 y.kind, .string y.ride, .string y.car, .string y.node, .int .i64 y.up, .int .i64 y.down, .string y.from_, .int .i64 y.number] 31 (0, 0)) := ⟨_, rfl⟩
  have hn1 : Nx w w1 := hw1 ▸ (Nx.refl w).alloc _
  have hb1 : w1.heap[w.heap.size]? = some (.cells #[.string y.source, .int .i64 y.no, .int .i64 y.at_, .int .i64 y.kind, .string y.ride, .string y.car, .string y.node, .int .i64 y.up, .int .i64 y.down, .string y.from_, .int .i64 y.number] 31 (0, 0)) := by rw [hw1]; exact heap_alloc_new w _
  have hbl := (Array.getElem?_eq_some_iff.1 hb1).1
  have a9 : w1.cell? ⟨w.heap.size, 9, none⟩ = some (.string y.from_) := cell_of_row w1 _ 9 _ _ _ hb1
  have a10 : w1.cell? ⟨w.heap.size, 10, none⟩ = some (.int .i64 y.number) := cell_of_row w1 _ 10 _ _ _ hb1
  have HI := hide (w_IndexFE1 132 (nmB y.from_ y.number) (.pointer (some ⟨w.heap.size, 0, none⟩)) enters_undoes lo A c l w1 (fun x W _ hn => w_undoes1 y.from_ y.number x w.heap.size W (nx_cell hn hbl a9) (nx_cell hn hbl a10) (Nat.lt_of_lt_of_le hbl hn.sz)) (hR.nx hn1) hl)
  rw [show idxE (nmB y.from_ y.number) l 0 = tgtI l y.from_ y.number from rfl] at HI
  generalize tgtI l y.from_ y.number = r at *
  generalize l.length = n at *
  have HN1 := hide hn1
  clear hR hl hb1 a9 a10 hn1
  go_enter Tryz.func93, Tryz.ntmps93
  go_upto_region 1 with fail
  rw [← hw1]
  clear hw1
  go_wp2_with (go_at_call 50; refine HI.out.mono ?_; rintro e w2 ⟨rfl, hn2⟩)
  go_ret
  exact ⟨rfl, HN1.out.trans hn2⟩
end Go.Proofs.YtfkmbeppckelfaaGreatDoor
