/- Plain: lists of events followed: by the program, and by the reference. -/
import Derived.Test.YtfkmbeppckelfaaGreatDoorQG0
import Derived.Test.YtfkmbeppckelfaaGreatDoorQEvT
namespace Go.Proofs.YtfkmbeppckelfaaGreatDoor

/-- Where the event lies that another one names. -/
def tgtF (l : List Ev) (s : ByteArray) (n : Int) : Option Nat := l.findIdx? (fun o => decide (o.source = s) && decide (o.no = n))
def kindAt (l : List Ev) (i : Nat) : Int := match l[i]? with | some o => o.kind | none => 0
def undoesB (l : List Ev) (i : Nat) (o : Ev) : Bool := decide (o.kind = 9) && decide (tgtF l o.from_ o.number = some i)
/-- The event number i is taken back. -/
def goneB (l : List Ev) (i : Nat) : Bool := decide (kindAt l i ≠ 9) && l.any (undoesB l i)
/-- Why an undo, the number k, is refused. -/
def undoW (l : List Ev) (k : Nat) (x : Ev) : Int :=
  match tgtF l x.from_ x.number with
  | none => 8
  | some i => if kindAt l i = 9 then 4 else if (l.take k).any (undoesB l i) then 6 else 0
/-- The reference's step at the event number k. -/
def stepL (l : List Ev) (k : Nat) (x : Ev) (d : DayR) : DayR × Int :=
  if goneB l k then (d, 0) else if x.kind = 9 then (d, undoW l k x) else (if whyR d x = 0 then doR d x else d, whyR d x)
/-- The reference's day behind the first k events, up to a moment. -/
def runR (l : List Ev) (at_ : Int) : Nat → DayR
  | 0 => dayR0
  | k + 1 => match l[k]? with
    | none => runR l at_ k
    | some x => if x.at_ ≤ at_ then (stepL l k x (runR l at_ k)).1 else runR l at_ k
/-- The program's day behind the first k events, up to a moment. -/
def runP (l : List Ev) (at_ : Int) : Nat → DayP
  | 0 => dayP0
  | k + 1 => match l[k]? with
    | none => runP l at_ k
    | some x => if goneB l k = true ∨ at_ < x.at_ then runP l at_ k else if x.kind = 9 then runP l at_ k else (stepP (runP l at_ k) x).1
def whyL (l : List Ev) (at_ : Int) (k : Nat) (x : Ev) : Int := if x.kind = 9 then undoW l k x else (stepP (runP l at_ k) x).2
/-- What the program refuses. -/
def refP (l : List Ev) (at_ : Int) : Nat → List (Int × Int)
  | 0 => []
  | k + 1 => match l[k]? with
    | none => refP l at_ k
    | some x => if goneB l k = true ∨ at_ < x.at_ then refP l at_ k else if whyL l at_ k x = 0 then refP l at_ k else refP l at_ k ++ [((k : Int), whyL l at_ k x)]
theorem kindAt_some {l : List Ev} {i : Nat} {x : Ev} (h : l[i]? = some x) : kindAt l i = x.kind := by unfold kindAt; rw [h]
theorem run_sim {l : List Ev} (h : evsF l = 0) (at_ : Int) : ∀ k, Sim (runP l at_ k) (runR l at_ k)
  | 0 => sim0
  | k + 1 => by
    have ih := run_sim h at_ k
    unfold runP runR
    cases hx : l[k]? with
    | none => exact ih
    | some x =>
      have hr := evs_right h (List.mem_of_getElem? hx)
      simp only
      by_cases h1 : x.at_ ≤ at_
      · rw [if_pos h1]
        have h1' : ¬ at_ < x.at_ := by omega
        unfold stepL
        by_cases h2 : goneB l k = true
        · rw [if_pos (.inl h2), if_pos h2]; exact ih
        · rw [if_neg (by simp [h2, h1']), if_neg h2]
          by_cases h9 : x.kind = 9
          · rw [if_pos h9, if_pos h9]; exact ih
          · rw [if_neg h9, if_neg h9]
            exact (step_sim hr h9 ih).2
      · rw [if_neg h1, if_pos (.inr (by omega))]; exact ih
/-- The last event with a name, of the first k. -/
def nameM (l : List Ev) : Nat → ByteArray → Int → Option Int
  | 0, _, _ => none
  | k + 1, s, n => match l[k]? with
    | none => nameM l k s n
    | some x => if s = x.source ∧ n = x.no then some (k : Int) else nameM l k s n
/-- Which events were taken back, by which; which took one back: behind the first k. -/
def goneM (l : List Ev) : Nat → (Int → Option Int) × (Int → Option Bool)
  | 0 => (fun _ => none, fun _ => none)
  | k + 1 => match l[k]? with
    | none => goneM l k
    | some x => if x.kind = 9 then
        match tgtF l x.from_ x.number with
        | none => goneM l k
        | some t => if kindAt l t = 9 then goneM l k else if ((goneM l k).1 t).isSome then goneM l k else (updF (goneM l k).1 t k, updF (goneM l k).2 k true)
      else goneM l k
theorem tgt_some {l : List Ev} {s : ByteArray} {n : Int} {i : Nat} : tgtF l s n = some i → ∃ x, l[i]? = some x ∧ x.source = s ∧ x.no = n := by
  intro h
  unfold tgtF at h
  rw [List.findIdx?_eq_some_iff_getElem] at h
  obtain ⟨hi, h1, _⟩ := h
  refine ⟨l[i], List.getElem?_eq_getElem hi, ?_⟩
  simpa using h1
theorem tgt_none {l : List Ev} {s : ByteArray} {n : Int} : tgtF l s n = none ↔ ∀ x ∈ l, ¬ (x.source = s ∧ x.no = n) := by
  unfold tgtF
  rw [List.findIdx?_eq_none_iff]
  simp
theorem nameM_some {l : List Ev} {s : ByteArray} {n : Int} : ∀ {k : Nat} {z : Int}, nameM l k s n = some z → ∃ (i : Nat) (x : Ev), z = i ∧ i < k ∧ l[i]? = some x ∧ x.source = s ∧ x.no = n
  | 0, _, h => by cases h
  | k + 1, z, h => by
    unfold nameM at h
    cases hx : l[k]? with
    | none => rw [hx] at h; obtain ⟨i, x, a, b, c⟩ := nameM_some h; exact ⟨i, x, a, by omega, c⟩
    | some x =>
      rw [hx] at h
      simp only at h
      split at h
      · rename_i e; injection h with h; exact ⟨k, x, h.symm, by omega, hx, e.1.symm, e.2.symm⟩
      · obtain ⟨i, y, a, b, c⟩ := nameM_some h; exact ⟨i, y, a, by omega, c⟩
theorem nameM_none {l : List Ev} {s : ByteArray} {n : Int} : ∀ {k : Nat}, nameM l k s n = none → ∀ (i : Nat) (x : Ev), i < k → l[i]? = some x → ¬ (x.source = s ∧ x.no = n)
  | 0, _, i, _, h, _ => by omega
  | k + 1, h, i, x, hi, hx => by
    unfold nameM at h
    cases hk : l[k]? with
    | none =>
      rw [hk] at h
      rcases Nat.lt_or_ge i k with h1 | h1
      · exact nameM_none h i x h1 hx
      · rw [show i = k by omega, hk] at hx; cases hx
    | some y =>
      rw [hk] at h
      simp only at h
      split at h
      · cases h
      · rename_i e
        rcases Nat.lt_or_ge i k with h1 | h1
        · exact nameM_none h i x h1 hx
        · rw [show i = k by omega, hk] at hx
          injection hx with hx; subst hx
          intro h2; exact e ⟨h2.1.symm, h2.2.symm⟩
/-- The map of names says where each is. -/
theorem nameM_tgt {l : List Ev} (h : evsF l = 0) (s : ByteArray) (n : Int) : nameM l l.length s n = (tgtF l s n).map (fun i : Nat => (i : Int)) := by
  cases h1 : nameM l l.length s n with
  | none =>
    have h2 : tgtF l s n = none := by
      rw [tgt_none]
      intro x hx
      obtain ⟨i, hi⟩ := List.getElem?_of_mem hx
      exact nameM_none h1 i x (List.getElem?_eq_some_iff.1 hi).1 hi
    rw [h2]; rfl
  | some z =>
    obtain ⟨i, x, rfl, hi, hx, hs, hn⟩ := nameM_some h1
    cases h2 : tgtF l s n with
    | none => exact absurd ⟨hs, hn⟩ (tgt_none.1 h2 x (List.mem_of_getElem? hx))
    | some j =>
      obtain ⟨y, hy, hs', hn'⟩ := tgt_some h2
      have := evs_names h hx hy (hs.trans hs'.symm) (hn.trans hn'.symm)
      subst this; rfl
theorem take_any {l : List Ev} {k : Nat} {f : Ev → Bool} {x : Ev} (hx : l[k]? = some x) : (l.take (k + 1)).any f = ((l.take k).any f || f x) := by
  rw [List.take_add_one, hx]
  simp
theorem goneM_spec (l : List Ev) : ∀ k, (∀ t' : Int, ((goneM l k).1 t').isSome = true ↔ ∃ t : Nat, t' = t ∧ kindAt l t ≠ 9 ∧ (l.take k).any (undoesB l t) = true) ∧
    (∀ j' : Int, ((goneM l k).2 j').isSome = true ↔ ∃ (j : Nat) (x : Ev) (t : Nat), j' = j ∧ j < k ∧ l[j]? = some x ∧ x.kind = 9 ∧ tgtF l x.from_ x.number = some t ∧ kindAt l t ≠ 9 ∧ (l.take j).any (undoesB l t) = false) ∧
    (∀ j' : Int, (goneM l k).2 j' = none ∨ (goneM l k).2 j' = some true)
  | 0 => by simp [goneM]
  | k + 1 => by
    obtain ⟨ih1, ih2, ih3⟩ := goneM_spec l k
    unfold goneM
    cases hx : l[k]? with
    | none =>
      have hle : l.length ≤ k := List.getElem?_eq_none_iff.1 hx
      simp only
      refine ⟨?_, ?_, ih3⟩
      · intro t'; rw [ih1, List.take_of_length_le hle, List.take_of_length_le (by omega)]
      · intro j'; rw [ih2]
        constructor
        · rintro ⟨j, x, t, a, b, c⟩; exact ⟨j, x, t, a, by omega, c⟩
        · rintro ⟨j, x, t, a, b, c, d⟩
          have := (List.getElem?_eq_some_iff.1 c).1
          exact ⟨j, x, t, a, by omega, c, d⟩
    | some x =>
      simp only
      have keep : (∀ t, kindAt l t ≠ 9 → undoesB l t x = true → (l.take k).any (undoesB l t) = true) →
          ((∀ t' : Int, ((goneM l k).1 t').isSome = true ↔ ∃ t : Nat, t' = t ∧ kindAt l t ≠ 9 ∧ (l.take (k + 1)).any (undoesB l t) = true) ∧
           (∀ j' : Int, ((goneM l k).2 j').isSome = true ↔ ∃ (j : Nat) (y : Ev) (t : Nat), j' = j ∧ j < k + 1 ∧ l[j]? = some y ∧ y.kind = 9 ∧ tgtF l y.from_ y.number = some t ∧ kindAt l t ≠ 9 ∧ (l.take j).any (undoesB l t) = false)) := by
        intro hno
        refine ⟨?_, ?_⟩
        · intro t'
          rw [ih1]
          constructor
          · rintro ⟨t, a, b, c⟩; exact ⟨t, a, b, by rw [take_any hx, c]; rfl⟩
          · rintro ⟨t, a, b, c⟩
            rw [take_any hx, Bool.or_eq_true] at c
            exact ⟨t, a, b, c.elim id (hno t b)⟩
        · intro j'
          rw [ih2]
          constructor
          · rintro ⟨j, y, t, a, b, c⟩; exact ⟨j, y, t, a, by omega, c⟩
          · rintro ⟨j, y, t, a, b, c, d, e, f, g⟩
            rcases Nat.lt_or_ge j k with h1 | h1
            · exact ⟨j, y, t, a, h1, c, d, e, f, g⟩
            · have hj : j = k := by omega
              subst hj
              rw [hx] at c; injection c with c; subst c
              have := hno t f (by simp [undoesB, d, e])
              rw [g] at this; cases this
      by_cases h9 : x.kind = 9
      · rw [if_pos h9]
        cases ht : tgtF l x.from_ x.number with
        | none =>
          simp only
          obtain ⟨a, b⟩ := keep (by intro t _ hu; simp [undoesB, h9, ht] at hu)
          exact ⟨a, b, ih3⟩
        | some t =>
          simp only
          by_cases hk9 : kindAt l t = 9
          · rw [if_pos hk9]
            obtain ⟨a, b⟩ := keep (by intro t2 h2 hu; simp [undoesB, h9, ht] at hu; subst hu; exact absurd hk9 h2)
            exact ⟨a, b, ih3⟩
          · rw [if_neg hk9]
            by_cases hg : ((goneM l k).1 t).isSome = true
            · rw [if_pos hg]
              obtain ⟨t1, e1, _, e3⟩ := (ih1 t).1 hg
              have e1 : t = t1 := by omega
              subst e1
              obtain ⟨a, b⟩ := keep (by intro t2 h2 hu; simp [undoesB, h9, ht] at hu; subst hu; exact e3)
              exact ⟨a, b, ih3⟩
            · rw [if_neg hg]
              have hng : (l.take k).any (undoesB l t) = false := by
                cases hq : (l.take k).any (undoesB l t) with
                | false => rfl
                | true => exact absurd ((ih1 t).2 ⟨t, rfl, hk9, hq⟩) hg
              refine ⟨?_, ?_, ?_⟩
              · intro t'
                show (updF (goneM l k).1 (t : Int) (k : Int) t').isSome = true ↔ _
                by_cases e : t' = (t : Int)
                · subst e
                  rw [updF_same]
                  refine ⟨fun _ => ⟨t, rfl, hk9, ?_⟩, fun _ => rfl⟩
                  rw [take_any hx]; simp [undoesB, h9, ht]
                · rw [updF_other _ _ e, ih1]
                  constructor
                  · rintro ⟨t2, a, b, c⟩; exact ⟨t2, a, b, by rw [take_any hx, c]; rfl⟩
                  · rintro ⟨t2, a, b, c⟩
                    rw [take_any hx, Bool.or_eq_true] at c
                    refine ⟨t2, a, b, c.elim id ?_⟩
                    intro hu; simp [undoesB, h9, ht] at hu; subst hu; exact absurd a e
              · intro j'
                show (updF (goneM l k).2 (k : Int) true j').isSome = true ↔ _
                by_cases e : j' = (k : Int)
                · subst e
                  rw [updF_same]
                  refine ⟨fun _ => ⟨k, x, t, rfl, by omega, hx, h9, ht, hk9, hng⟩, fun _ => rfl⟩
                · rw [updF_other _ _ e, ih2]
                  constructor
                  · rintro ⟨j, y, t2, a, b, c⟩; exact ⟨j, y, t2, a, by omega, c⟩
                  · rintro ⟨j, y, t2, a, b, c⟩; exact ⟨j, y, t2, a, by omega, c⟩
              · intro j'
                show updF (goneM l k).2 (k : Int) true j' = none ∨ updF (goneM l k).2 (k : Int) true j' = some true
                by_cases e : j' = (k : Int)
                · subst e; rw [updF_same]; exact .inr rfl
                · rw [updF_other _ _ e]; exact ih3 j'
      · rw [if_neg h9]
        obtain ⟨a, b⟩ := keep (by intro t _ hu; simp [undoesB, h9] at hu)
        exact ⟨a, b, ih3⟩
/-- The map of what is gone. -/
theorem goneM_gone (l : List Ev) (i : Nat) : ((goneM l l.length).1 (i : Int)).isSome = goneB l i := by
  rw [Bool.eq_iff_iff, (goneM_spec l l.length).1]
  unfold goneB
  rw [List.take_length]
  simp only [Bool.and_eq_true, decide_eq_true_eq]
  constructor
  · rintro ⟨t, e, h⟩
    have : i = t := by omega
    subst this; exact h
  · intro h; exact ⟨i, rfl, h⟩
/-- What an undo is refused for, by the maps. -/
theorem undoW_maps {l : List Ev} {k : Nat} {x : Ev} (hx : l[k]? = some x) (h9 : x.kind = 9) :
    undoW l k x = match tgtF l x.from_ x.number with | none => 8 | some i => if kindAt l i = 9 then 4 else if (((goneM l l.length).2 (k : Int)).getD false) = false then 6 else 0 := by
  unfold undoW
  cases ht : tgtF l x.from_ x.number with
  | none => rfl
  | some i =>
    simp only
    by_cases hk : kindAt l i = 9
    · rw [if_pos hk, if_pos hk]
    · rw [if_neg hk, if_neg hk]
      have hiff := (goneM_spec l l.length).2.1 (k : Int)
      have h3 := (goneM_spec l l.length).2.2 (k : Int)
      cases hq : (l.take k).any (undoesB l i) with
      | false =>
        have : ((goneM l l.length).2 (k : Int)).isSome = true := hiff.2 ⟨k, x, i, rfl, (List.getElem?_eq_some_iff.1 hx).1, hx, h9, ht, hk, hq⟩
        rcases h3 with h3 | h3
        · rw [h3] at this; cases this
        · rw [h3]; simp
      | true =>
        have : ¬ ((goneM l l.length).2 (k : Int)).isSome = true := by
          intro h
          obtain ⟨j, y, t, a, b, c, d, e, f, g⟩ := hiff.1 h
          have : k = j := by omega
          subst this
          rw [hx] at c; injection c with c; subst c
          rw [ht] at e; injection e with e; subst e
          rw [hq] at g; cases g
        rcases h3 with h3 | h3
        · rw [h3]; simp
        · rw [h3] at this; exact absurd rfl this
end Go.Proofs.YtfkmbeppckelfaaGreatDoor
/- An event that takes another one back. -/
namespace Go.Proofs.YtfkmbeppckelfaaGreatDoor
open Go.RowKit Go.Maps

/-- The map of names. -/
def evNamesF (l : List Ev) (n : Nat) : EvName → Option Int := fun k => nameM l n k.source k.no
theorem look_name {w : World} {b n : Nat} {f : EvName → Option Int} (h : MpNI w b n f) {s : ByteArray} {z : Int} (hs : s.size ≤ maxLen) (hz : (Lit.int .i64 z).wf = true) : (Instr.lookup 79 (.map (some b)) (.agg #[.string s, .int .i64 z]) true).run Tryz.prog w = .ok (.tuple #[.int .i64 ((f ⟨s, z⟩).getD 0), .bool (f ⟨s, z⟩).isSome]) w := by
  obtain ⟨kl, hkey⟩ := key_name ⟨s, z⟩ ⟨hs, hz⟩
  exact (h.look_ok intE law_name Tryz.underlying79 (z := (0 : Int)) (by decide) (zeroIntE w) (k := ⟨s, z⟩) ⟨hs, hz⟩ hkey).1
theorem look_back {w : World} {b n : Nat} {f : Int → Option Bool} (h : MpIB w b n f) {z : Int} (hz : domI z) : (Instr.lookup 89 (.map (some b)) (.int .i64 z) false).run Tryz.prog w = .ok (.bool ((f z).getD false)) w :=
  (h.look boolE law_intE Tryz.underlying89 (z := false) trivial (zeroBoolE w) hz (key_int hz)).1
theorem look_gone {w : World} {b n : Nat} {f : Int → Option Int} (h : MpII w b n f) {z : Int} (hz : domI z) : (Instr.lookup 88 (.map (some b)) (.int .i64 z) true).run Tryz.prog w = .ok (.tuple #[.int .i64 ((f z).getD 0), .bool (f z).isSome]) w :=
  (h.look_ok intE law_intE Tryz.underlying88 (z := (0 : Int)) (by decide) (zeroIntE w) hz (key_int hz)).1
theorem domI_nat {k : Nat} (h : k ≤ 1000000) : domI (k : Int) := by unfold domI; exact wf_i64o.2 ⟨by omega, by omega⟩
set_option maxRecDepth 100000 in
set_option maxHeartbeats 4000000 in
theorem w_step9 (d lo2 nb bb nn nm lc i : Nat) (lA : Option Addr) (l : List Ev) (so : ByteArray) (no at_ : Int) (ri ca nd : ByteArray) (up dn : Int) (fo : ByteArray) (nu : Int) (w : World)
    (h0 : w.cell? ⟨d, 0, none⟩ = some (.slice lA l.length lc)) (h5 : w.cell? ⟨d, 5, none⟩ = some (.map (some bb))) (hd : d < w.heap.size) (hNm : MpNI w nb nn (evNamesF l l.length)) (hB : MpIB w bb nm (goneM l l.length).2)
    (hR : Rd w lo2 lA 11 encEvt l) (hl : l.length ≤ 1000) (hev : evsF l = 0) (hx : l[i]? = some ⟨so, no, at_, 9, ri, ca, nd, up, dn, fo, nu⟩) (hfo : fo.size ≤ maxLen) (hnu : (Lit.int .i64 nu).wf = true) :
    Calls Tryz.prog 90 #[.pointer (some ⟨d, 0, none⟩), .int .i64 (i : Int), .agg #[.string so, .int .i64 no, .int .i64 at_, .int .i64 9, .string ri, .string ca, .string nd, .int .i64 up, .int .i64 dn, .string fo, .int .i64 nu], .map (some nb)] w fun e w' => e = .returned (.tuple #[.slice none 0 0, .int .i64 (undoW l i ⟨so, no, at_, 9, ri, ca, nd, up, dn, fo, nu⟩)]) ∧ Nx w w' := by
  have hil : i < l.length := (List.getElem?_eq_some_iff.1 hx).1
  rw [undoW_maps hx rfl]
  obtain ⟨bx, hbx⟩ : ∃ bx, bx = w.heap.size := ⟨_, rfl⟩
  obtain ⟨w1, hw1⟩ : ∃ w1, w1 = w.alloc (.cells #[.string so, .int .i64 no, .int .i64 at_, .int .i64 9, .string ri, .string ca, .string nd, .int .i64 up, .int .i64 dn, .string fo, .int .i64 nu] 31 (0, 0)) := ⟨_, rfl⟩
  have hn1 : Nx w w1 := hw1 ▸ (Nx.refl w).alloc _
  have hb1 : w1.heap[bx]? = some (.cells #[.string so, .int .i64 no, .int .i64 at_, .int .i64 9, .string ri, .string ca, .string nd, .int .i64 up, .int .i64 dn, .string fo, .int .i64 nu] 31 (0, 0)) := by rw [hw1, hbx]; exact heap_alloc_new w _
  have a3 : w1.cell? ⟨bx, 3, none⟩ = some (.int .i64 9) := cell_of_row w1 _ 3 _ _ _ hb1
  have a9 : w1.cell? ⟨bx, 9, none⟩ = some (.string fo) := cell_of_row w1 _ 9 _ _ _ hb1
  have a10 : w1.cell? ⟨bx, 10, none⟩ = some (.int .i64 nu) := cell_of_row w1 _ 10 _ _ _ hb1
  have d0 : w1.cell? ⟨d, 0, none⟩ = some (.slice lA l.length lc) := nx_cell hn1 hd h0
  have d5 : w1.cell? ⟨d, 5, none⟩ = some (.map (some bb)) := nx_cell hn1 hd h5
  have hln := look_name (hNm.nx hn1) hfo hnu
  have hlb := look_back (hB.nx hn1) (domI_nat (k := i) (by omega))
  have hnt : evNamesF l l.length ⟨fo, nu⟩ = (tgtF l fo nu).map (fun i : Nat => (i : Int)) := nameM_tgt hev fo nu
  rw [hnt] at hln
  have HN1 := hide hn1
  obtain ⟨n, hn⟩ : ∃ n, n = l.length := ⟨_, rfl⟩
  cases ht : tgtF l fo nu with
  | none =>
    rw [ht] at hln
    simp only [Option.map_none, Option.getD_none, Option.isSome_none] at hln
    clear h0 h5 hNm hB hR hx hb1 hn1 hnt ht hev hlb
    rw [← hn] at d0
    clear hn hil hl
    go_enter Tryz.func90, Tryz.ntmps90
    go_upto_region 1 with fail
    rw [← hw1, ← hbx]
    clear hw1 hbx
    go_wp2_with fail
    go_ret2
    exact ⟨rfl, HN1.out⟩
  | some t =>
    rw [ht] at hln
    simp only [Option.map_some, Option.getD_some, Option.isSome_some] at hln
    obtain ⟨y, hy, _, _⟩ := tgt_some ht
    have htl : t < l.length := (List.getElem?_eq_some_iff.1 hy).1
    obtain ⟨gb, off, hA, _, hgb, _, hc⟩ := hR.open_ hn1 (by omega)
    subst hA
    have hyt : l[t] = y := (List.getElem?_eq_some_iff.1 hy).2
    have ck : w1.cell? ⟨gb, off + t * 11 + 3, none⟩ = some (.int .i64 y.kind) := by have := hc t htl 3 (.int .i64 y.kind) (by rw [hyt]; rfl); exact this
    simp only [kindAt_some hy]
    obtain ⟨kk, hkk⟩ : ∃ kk, kk = y.kind := ⟨_, rfl⟩
    rw [← hkk] at ck ⊢
    obtain ⟨bk, hbk⟩ : ∃ bk, bk = ((goneM l l.length).2 (i : Int)).getD false := ⟨_, rfl⟩
    rw [← hbk] at hlb ⊢
    have htn : t < n := by omega
    rw [← hn] at d0
    clear h0 h5 hNm hB hR hx hb1 hn1 hnt ht hc hyt hy hkk hbk hn hil hl htl hev
    have hq : kk = 9 ∨ (kk == 9) = false := by simp; omega
    rcases hq with rfl | hq
    · go_enter Tryz.func90, Tryz.ntmps90
      go_upto_region 1 with fail
      rw [← hw1, ← hbx]
      clear hw1 hbx
      go_wp2_with fail
      go_ret2
      exact ⟨rfl, HN1.out⟩
    · have hq2 : ¬ kk = 9 := by simpa using hq
      rw [if_neg hq2]
      clear hq2
      cases bk with
      | true =>
        go_enter Tryz.func90, Tryz.ntmps90
        go_upto_region 1 with fail
        rw [← hw1, ← hbx]
        clear hw1 hbx
        go_wp2_with fail
        go_ret2
        exact ⟨rfl, HN1.out⟩
      | false =>
        go_enter Tryz.func90, Tryz.ntmps90
        go_upto_region 1 with fail
        rw [← hw1, ← hbx]
        clear hw1 hbx
        go_wp2_with fail
        go_ret2
        exact ⟨rfl, HN1.out⟩
end Go.Proofs.YtfkmbeppckelfaaGreatDoor
/- The map of names of events. -/
namespace Go.Proofs.YtfkmbeppckelfaaGreatDoor
open Go.RowKit Go.Maps

/-- Strings and numbers of an event are no giants. -/
structure okEv (x : Ev) : Prop where
  source : x.source.size ≤ 1000
  ride : x.ride.size ≤ 1000
  car : x.car.size ≤ 1000
  node : x.node.size ≤ 1000
  from_ : x.from_.size ≤ 1000
  no : -1000000000000000 ≤ x.no ∧ x.no ≤ 1000000000000000
  at_ : -1000000000000000 ≤ x.at_ ∧ x.at_ ≤ 1000000000000000
  kind : -1000000000000000 ≤ x.kind ∧ x.kind ≤ 1000000000000000
  up : -1000000000000000 ≤ x.up ∧ x.up ≤ 1000000000000000
  down : -1000000000000000 ≤ x.down ∧ x.down ≤ 1000000000000000
  number : -1000000000000000 ≤ x.number ∧ x.number ≤ 1000000000000000
theorem domS_1000 {s : ByteArray} (h : s.size ≤ 1000) : domS s := by unfold domS maxLen; omega
theorem wf_15 {z : Int} (h : -1000000000000000 ≤ z ∧ z ≤ 1000000000000000) : (Lit.int .i64 z).wf = true := wf_i64o.2 ⟨by omega, by omega⟩
theorem key_size {s : ByteArray} (h : keyB s = true) : s.size ≤ 40 := by
  unfold keyB at h
  have e : s.size = s.data.toList.length := by rw [Array.length_toList]; rfl
  rw [e]
  cases hs : s.data.toList with
  | nil => simp
  | cons c l =>
    rw [hs] at h
    unfold keyL at h
    simp only [Bool.and_eq_true, decide_eq_true_eq] at h
    exact h.1.1
theorem okEv_of {x : Ev} (h : evF x = 0) : okEv x := by
  obtain ⟨a1, a2, a3, a4, kr, kc, kn, ku, nr, nc, nn, b1, b2, b3, b4⟩ := evF_zero h
  have he : eB.size = 0 := rfl
  have sz : ∀ {s : ByteArray} {b : Bool}, (b = true → keyB s = true) → (b = false → s = eB) → s.size ≤ 1000 := by
    intro s b h1 h2
    cases b with
    | true => have := key_size (h1 rfl); omega
    | false => rw [h2 rfl, he]; omega
  refine ⟨by have := key_size a1; omega, sz kr nr, sz kc nc, sz kn nn, sz ku (fun h => (b4 h).1), by omega, by omega, by omega, ?_, ?_, ?_⟩
  · cases hb : uBook x.kind with
    | true => have := b1 hb; omega
    | false => have := b3 hb; omega
  · cases hb : uBook x.kind with
    | true => have := b1 hb; omega
    | false => have := b3 hb; omega
  · cases hb : uUndo x.kind with
    | true => have := b2 hb; omega
    | false => have := (b4 hb).2; omega
/-- The cells of an event in a row. -/
theorem ev_cells {w : World} {b off k : Nat} {x : Ev} (hc : ∀ j u, (encEvt x)[j]? = some u → w.cell? ⟨b, off + k * 11 + j, none⟩ = some u) :
    w.cell? ⟨b, off + k * 11, none⟩ = some (.string x.source) ∧ w.cell? ⟨b, off + k * 11 + 1, none⟩ = some (.int .i64 x.no) ∧ w.cell? ⟨b, off + k * 11 + 2, none⟩ = some (.int .i64 x.at_) ∧ w.cell? ⟨b, off + k * 11 + 3, none⟩ = some (.int .i64 x.kind) ∧ w.cell? ⟨b, off + k * 11 + 4, none⟩ = some (.string x.ride) ∧
    w.cell? ⟨b, off + k * 11 + 5, none⟩ = some (.string x.car) ∧ w.cell? ⟨b, off + k * 11 + 6, none⟩ = some (.string x.node) ∧ w.cell? ⟨b, off + k * 11 + 7, none⟩ = some (.int .i64 x.up) ∧ w.cell? ⟨b, off + k * 11 + 8, none⟩ = some (.int .i64 x.down) ∧ w.cell? ⟨b, off + k * 11 + 9, none⟩ = some (.string x.from_) ∧ w.cell? ⟨b, off + k * 11 + 10, none⟩ = some (.int .i64 x.number) :=
  ⟨hc 0 _ rfl, hc 1 _ rfl, hc 2 _ rfl, hc 3 _ rfl, hc 4 _ rfl, hc 5 _ rfl, hc 6 _ rfl, hc 7 _ rfl, hc 8 _ rfl, hc 9 _ rfl, hc 10 _ rfl⟩
theorem evNames_succ (l : List Ev) (k : Nat) (h : k < l.length) : evNamesF l (k + 1) = fun q => if q = ⟨l[k].source, l[k].no⟩ then some (k : Int) else evNamesF l k q := by
  funext q
  obtain ⟨s, n⟩ := q
  show nameM l (k + 1) s n = if (⟨s, n⟩ : EvName) = ⟨l[k].source, l[k].no⟩ then some (k : Int) else nameM l k s n
  rw [nameM, List.getElem?_eq_getElem h]
  simp only [EvName.mk.injEq]
set_option maxRecDepth 100000 in
set_option maxHeartbeats 2000000 in
theorem w_byName (lo : Nat) (A : Option Addr) (c : Nat) (l : List Ev) (w : World) (hR : Rd w lo A 11 encEvt l) (hl : l.length ≤ 1000) (hok : ∀ x ∈ l, okEv x) :
    Calls Tryz.prog 47 #[.slice A l.length c] w fun e w' => e = .returned (.map (some w.heap.size)) ∧ MpNI w' w.heap.size l.length (evNamesF l l.length) ∧ Nx w w' := by
  have hmm := @run_makeMap Tryz.prog
  have HR := hide hR
  have HOK := hide hok
  generalize hn : l.length = n at *
  have HN := hide hn
  clear hR hn hok
  go_enter Tryz.func47, Tryz.ntmps47
  go_wp2_with fail
  clear hmm
  have HM0 : Hid (MpNI (w.alloc (.map #[] 0)) w.heap.size 0 (evNamesF l 0)) := hide (MgI.made w)
  go_loopw [9] (fun i wr => ∃ k : Nat, k ≤ n ∧ i = .int .i64 k ∧ Nx w wr ∧ MpNI wr w.heap.size k (evNamesF l k)) (fun i _ => n - (intOf i).toNat)
  case atStart => exact ⟨0, Nat.zero_le _, rfl, (Nx.refl w).alloc _, HM0.out⟩
  case round =>
    clear HM0
    obtain ⟨k, hk, rfl, hnx, hM⟩ := hrel
    by_cases hlt : k < n
    · have hlt' : k < l.length := by have := HN.out; omega
      obtain ⟨b, off, rfl, _, hb, hbr, hc⟩ := HR.out.open_ hnx (by omega)
      obtain ⟨c0, c1, c2, c3, c4, c5, c6, c7, c8, c9, c10⟩ := ev_cells (hc k hlt')
      have hx := HOK.out l[k] (List.getElem_mem hlt')
      have HS := hide (evNames_succ l k hlt')
      clear hc
      generalize l[k] = x at *
      obtain ⟨so, no, at_, ki, ri, ca, nd, up, dn, fo, nu⟩ := x
      simp only at c0 c1 c2 c3 c4 c5 c6 c7 c8 c9 c10
      have hdn : domName ⟨so, no⟩ := ⟨domS_1000 hx.source, wf_15 hx.no⟩
      obtain ⟨kl, hkey⟩ := key_name ⟨so, no⟩ hdn
      have HM := hide hM
      have hml := hM.lt
      clear hM hx
      go_wp2_with (at_mapUpdate; refine wpMgPut _ rfl _ _ _ _ rfl intE law_name ekName_inj Tryz.underlying79 w.heap.size k _ rfl (HM.out.nx ((Nx.refl _).alloc _)) (by unfold maxLen; omega) ⟨so, no⟩ rfl hdn _ hkey (k : Int) rfl (domI_nat (by omega)) ?_; intro w2 hM3 hg2)
      go_roundw
      case rel =>
        refine ⟨k + 1, by omega, by go_num, (hnx.alloc _).grown hg2 (fun j hj => by injection hj with hj; omega), ?_⟩
        rw [HS.out]; exact hM3
      case measure => simp [intOf]; omega
    · obtain rfl : k = n := by omega
      go_wp2_with fail
      go_ret
      exact ⟨rfl, hM, hnx⟩
end Go.Proofs.YtfkmbeppckelfaaGreatDoor
