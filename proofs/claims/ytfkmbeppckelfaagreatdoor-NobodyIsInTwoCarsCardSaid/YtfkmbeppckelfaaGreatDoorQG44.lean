/- Plain: nobody is in two cars. -/
import Derived.Test.YtfkmbeppckelfaaGreatDoorQG21
import Derived.Test.YtfkmbeppckelfaaGreatDoorQG5
import Derived.Maps.StringElems
import Derived.ChangeMaps
import Derived.Test.YtfkmbeppckelfaaGreatDoorQG39
import Derived.Test.YtfkmbeppckelfaaGreatDoorQEvY
import Derived.Test.YtfkmbeppckelfaaGreatDoorQG6
import Derived.Test.YtfkmbeppckelfaaGreatDoorQG49
namespace Go.Proofs.YtfkmbeppckelfaaGreatDoor

/-- Keys of cars are keys. -/
theorem run_cars_key {l : List Ev} (h : evsF l = 0) (at_ : Int) : ∀ k j, ((runP l at_ k).cars j).isSome = true → keyB j = true
  | 0, j, hj => by cases hj
  | k + 1, j, hj => by
    have ih := run_cars_key h at_ k j
    unfold runP at hj
    cases hx : l[k]? with
    | none => rw [hx] at hj; exact ih hj
    | some x =>
      rw [hx] at hj
      obtain ⟨_, _, _, hk, _, hc, _⟩ := evF_zero (evs_right h (List.mem_of_getElem? hx))
      generalize runP l at_ k = d at *
      have hup : ∀ (c : Crew), (updF d.cars x.car c j).isSome = true → uCar x.kind = true → keyB j = true := by
        intro c hc' hu
        by_cases e : j = x.car
        · rw [e]; exact hc hu
        · rw [updF_other _ _ e] at hc'; exact ih hc'
      simp only at hj
      split at hj
      · exact ih hj
      split at hj
      · exact ih hj
      unfold stepP at hj
      split at hj
      · rename_i e7
        split at hj
        · exact ih hj
        · exact hup _ hj (by rw [e7]; rfl)
      split at hj
      · rename_i e8
        unfold breaksP at hj
        split at hj
        · exact ih hj
        · exact hup _ hj (by rw [e8]; rfl)
      split at hj
      · split at hj <;> exact ih hj
      split at hj
      · exact ih hj
      unfold rideP at hj
      split at hj
      · rename_i e2
        split at hj
        · exact ih hj
        split at hj
        · exact ih hj
        · exact hup _ hj (by rw [e2]; rfl)
      split at hj
      · rename_i e3
        split at hj
        · exact ih hj
        split at hj
        · exact ih hj
        split at hj
        · exact ih hj
        · exact hup _ hj (by rw [e3]; rfl)
      split at hj
      · rename_i e4
        split at hj
        · exact ih hj
        split at hj
        · exact ih hj
        · exact hup _ hj (by rw [e4]; rfl)
      split at hj
      · split at hj <;> exact ih hj
      split at hj
      · split at hj <;> exact ih hj
      · exact ih hj

/-- Who is on board of which car. -/
def prs (c : Wr) : List (ByteArray × ByteArray) := c.rides.map fun id => (id, c.car)
def allPrs (L : List Wr) : List (ByteArray × ByteArray) := L.flatMap prs
/-- A map says just these pairs. -/
def Says (f : ByteArray → Option ByteArray) (P : List (ByteArray × ByteArray)) : Prop := ∀ id c, f id = some c ↔ (id, c) ∈ P
theorem says_nil : Says (fun _ => none) [] := fun id c => by simp
theorem says_none {f : ByteArray → Option ByteArray} {P Q F : List (ByteArray × ByteArray)} {id c : ByteArray} (h : Says f P) (hF : F = P ++ (id, c) :: Q) (hn : (F.map (·.1)).Nodup) : f id = none := by
  cases hf : f id with
  | none => rfl
  | some d =>
    have hm := (h id d).1 hf
    rw [hF, List.map_append, List.map_cons, List.nodup_append] at hn
    exact absurd rfl (hn.2.2 id (List.mem_map.2 ⟨_, hm, rfl⟩) id (by simp))
theorem says_put {f : ByteArray → Option ByteArray} {P : List (ByteArray × ByteArray)} {id c : ByteArray} (h : Says f P) (hf : f id = none) : Says (fun k => if k = id then some c else f k) (P ++ [(id, c)]) := by
  intro j d
  rw [List.mem_append, List.mem_singleton]
  show (if j = id then some c else f j) = some d ↔ _
  by_cases e : j = id
  · subst e
    rw [if_pos rfl]
    constructor
    · intro e; injection e with e; subst e; exact .inr rfl
    · rintro (hm | e)
      · rw [(h j d).2 hm] at hf; cases hf
      · injection e with _ e; rw [e]
  · rw [if_neg e, h]
    constructor
    · exact .inl
    · rintro (hm | e2)
      · exact hm
      · injection e2 with e2; exact absurd e2 e
/-- What the cars say of all rides on board. -/
structure TwoF (D : DayP) (L : List Wr) (M : List St) : Prop where
  nodup : ((allPrs L).map (·.1)).Nodup
  car : ∀ id c, (id, c) ∈ allPrs L → c ≠ eB
  on : ∀ s ∈ M, ∀ c, (s.ride, c) ∈ allPrs L ↔ s.how = 3 ∧ s.car = c
  all_ : ∀ id c, (id, c) ∈ allPrs L → ∃ s ∈ M, s.ride = id
  sorted : M.Pairwise (fun a b => ltS a.ride b.ride)
theorem prs_iff {D : DayP} {r : DayR} (hs : Sim D r) {L : List Wr} (hL : WrsP D L) (id c : ByteArray) : (id, c) ∈ allPrs L ↔ ∃ s, D.rides id = some s ∧ s.how = 3 ∧ s.car = c := by
  unfold allPrs
  rw [List.mem_flatMap]
  constructor
  · rintro ⟨x, hx, hm⟩
    obtain ⟨i, hi, e⟩ := List.mem_map.1 hm
    injection e with e1 e2
    subst e1 e2
    obtain ⟨cr, h1, _, _, _, h5⟩ := hL.2.1 x hx
    obtain ⟨o1, o2⟩ := hs.on x.car cr i h1
    have hsome := (h5.2 i).1 hi
    have ht : cr.on i = some true := by
      rcases o1 with o | o
      · exact o
      · rw [o] at hsome; cases hsome
    obtain ⟨s, a, b, d⟩ := o2.1 ht
    exact ⟨s, by rw [hs.rides]; exact a, b, d⟩
  · rintro ⟨s, h1, h3, rfl⟩
    have h1r : r.rides id = some s := by rw [← hs.rides]; exact h1
    have hcs := hs.onc id s h1r (.inr h3)
    obtain ⟨x, hx, ex⟩ := hL.2.2 _ hcs
    obtain ⟨cr, c1, _, _, _, h5⟩ := hL.2.1 x hx
    obtain ⟨o1, o2⟩ := hs.on x.car cr id c1
    have ht := o2.2 ⟨s, h1r, h3, ex.symm⟩
    refine ⟨x, hx, List.mem_map.2 ⟨id, (h5.2 id).2 (by rw [ht]; rfl), by rw [ex]⟩⟩
theorem two_facts {l : List Ev} {at_ : Int} (h : evsF l = 0) {L : List Wr} {M : List St} (hL : WrsP (runP l at_ l.length) L) (hM : StsOf (runP l at_ l.length).rides M) : TwoF (runP l at_ l.length) L M := by
  have hs := run_sim h at_ l.length
  have hk := run_cars_key h at_ l.length
  generalize runP l at_ l.length = D at *
  generalize runR l at_ l.length = r at *
  refine ⟨?_, ?_, ?_, ?_, hM.1⟩
  · have hmem : ∀ x ∈ L, ∀ id ∈ x.rides, ∃ s, D.rides id = some s ∧ s.how = 3 ∧ s.car = x.car := fun x hx id hi =>
      (prs_iff hs hL id x.car).1 (List.mem_flatMap.2 ⟨x, hx, List.mem_map.2 ⟨id, hi, rfl⟩⟩)
    have hrow : ∀ x ∈ L, x.rides.Pairwise ltS := fun x hx => by obtain ⟨cr, _, _, _, _, h5⟩ := hL.2.1 x hx; exact h5.1
    have hsrt := hL.1
    clear hL
    unfold allPrs
    induction L with
    | nil => simp
    | cons x L ih =>
      rw [List.pairwise_cons] at hsrt
      rw [List.flatMap_cons, List.map_append, List.nodup_append]
      refine ⟨?_, ih (fun y hy => hmem y (List.mem_cons_of_mem _ hy)) (fun y hy => hrow y (List.mem_cons_of_mem _ hy)) hsrt.2, ?_⟩
      · have e : (prs x).map (·.1) = x.rides := by unfold prs; rw [List.map_map]; exact List.map_id _
        rw [e]
        exact (hrow x (by simp)).imp (fun hab e => by subst e; exact ltS_irrefl _ hab)
      · intro a ha b hb e
        subst e
        obtain ⟨p, hp, e1⟩ := List.mem_map.1 ha
        obtain ⟨i, hi, e2⟩ := List.mem_map.1 hp
        obtain ⟨q, hq, e3⟩ := List.mem_map.1 hb
        obtain ⟨y, hy, hq⟩ := List.mem_flatMap.1 hq
        obtain ⟨j, hj, e4⟩ := List.mem_map.1 hq
        subst e2 e4
        simp only at e1 e3
        subst e1 e3
        obtain ⟨s, s1, _, s3⟩ := hmem x (by simp) _ hi
        obtain ⟨t, t1, _, t3⟩ := hmem y (List.mem_cons_of_mem _ hy) _ hj
        rw [s1] at t1; injection t1 with t1; subst t1
        have := hsrt.1 y hy
        rw [← s3, ← t3] at this
        exact ltS_irrefl _ this
  · intro id c hm
    obtain ⟨s, h1, h3, rfl⟩ := (prs_iff hs hL id c).1 hm
    exact key_ne (hk _ (hs.onc id s (by rw [← hs.rides]; exact h1) (.inr h3)))
  · intro s hsM c
    rw [prs_iff hs hL, (hM.2 s).1 hsM]
    constructor
    · rintro ⟨t, e, h3, h4⟩; injection e with e; subst e; exact ⟨h3, h4⟩
    · rintro ⟨h3, h4⟩; exact ⟨s, rfl, h3, h4⟩
  · intro id c hm
    obtain ⟨s, h1, _, _⟩ := (prs_iff hs hL id c).1 hm
    have hkey : s.ride = id := hs.key id s (by rw [← hs.rides]; exact h1)
    exact ⟨s, (hM.2 s).2 (by rw [hkey]; exact h1), hkey⟩
theorem allPrs_app (a b : List Wr) : allPrs (a ++ b) = allPrs a ++ allPrs b := by unfold allPrs; rw [List.flatMap_append]
/-- Where a ride on board stands among all. -/
theorem prs_split {L : List Wr} {i j : Nat} (hi : i < L.length) (hj : j < L[i].rides.length) : ∃ Q, allPrs L = (allPrs (L.take i) ++ (L[i].rides.take j).map (fun id => (id, L[i].car))) ++ (L[i].rides[j], L[i].car) :: Q := by
  refine ⟨(L[i].rides.drop (j + 1)).map (fun id => (id, L[i].car)) ++ allPrs (L.drop (i + 1)), ?_⟩
  have e1 : L = L.take i ++ (L[i] :: L.drop (i + 1)) := by rw [← List.drop_eq_getElem_cons hi, List.take_append_drop]
  have e2 : L[i].rides = L[i].rides.take j ++ (L[i].rides[j] :: L[i].rides.drop (j + 1)) := by rw [← List.drop_eq_getElem_cons hj, List.take_append_drop]
  have e3 : allPrs (L[i] :: L.drop (i + 1)) = prs L[i] ++ allPrs (L.drop (i + 1)) := by unfold allPrs; rw [List.flatMap_cons]
  have e4 : prs L[i] = (L[i].rides.take j).map (fun id => (id, L[i].car)) ++ (L[i].rides[j], L[i].car) :: (L[i].rides.drop (j + 1)).map (fun id => (id, L[i].car)) := by
    have := congrArg (fun r : List ByteArray => r.map (fun id => (id, L[i].car))) e2
    simp only [List.map_append, List.map_cons] at this
    exact this
  have e5 := congrArg allPrs e1
  rw [allPrs_app, e3, e4] at e5
  rw [e5]
  simp
theorem prs_row {L : List Wr} {i : Nat} (hi : i < L.length) : allPrs (L.take (i + 1)) = allPrs (L.take i) ++ L[i].rides.map (fun id => (id, L[i].car)) := by
  rw [List.take_add_one, List.getElem?_eq_getElem hi, Option.toList_some, allPrs_app]
  unfold allPrs prs
  simp
theorem prs_next {L : List Wr} {i j : Nat} (hi : i < L.length) (hj : j < L[i].rides.length) : allPrs (L.take i) ++ (L[i].rides.take (j + 1)).map (fun id => (id, L[i].car)) = (allPrs (L.take i) ++ (L[i].rides.take j).map (fun id => (id, L[i].car))) ++ [(L[i].rides[j], L[i].car)] := by
  rw [List.take_add_one, List.getElem?_eq_getElem hj, Option.toList_some, List.map_append, List.append_assoc]
  rfl
/-- The map behind the first i rides. -/
def lessM (f : ByteArray → Option ByteArray) (M : List St) (i : Nat) : ByteArray → Option ByteArray := fun id => if (M.take i).any (fun s => decide (s.ride = id)) then none else f id
theorem lessM_zero (f : ByteArray → Option ByteArray) (M : List St) : lessM f M 0 = f := by funext id; simp [lessM]
theorem lessM_at {f : ByteArray → Option ByteArray} {M : List St} (hM : M.Pairwise (fun a b => ltS a.ride b.ride)) {i : Nat} (hi : i < M.length) : lessM f M i M[i].ride = f M[i].ride := by
  unfold lessM
  rw [if_neg]
  rw [List.any_eq_true]
  rintro ⟨s, hs, e⟩
  obtain ⟨j, hj, rfl⟩ := List.mem_iff_getElem.1 hs
  rw [List.length_take] at hj
  rw [List.getElem_take] at e
  have := List.pairwise_iff_getElem.1 hM j i (by omega) hi (by omega)
  rw [of_decide_eq_true e] at this
  exact ltS_irrefl _ this
theorem lessM_succ (f : ByteArray → Option ByteArray) {M : List St} {i : Nat} (hi : i < M.length) : (fun k => if k = M[i].ride then none else lessM f M i k) = lessM f M (i + 1) := by
  funext id
  unfold lessM
  rw [List.take_add_one, List.getElem?_eq_getElem hi, List.any_append]
  simp only [Option.toList_some, List.any_cons, List.any_nil, Bool.or_false, Bool.or_eq_true, decide_eq_true_eq]
  by_cases e : id = M[i].ride
  · rw [if_pos e, if_pos (.inr e.symm)]
  · rw [if_neg e]
    by_cases h : (M.take i).any (fun s => decide (s.ride = id)) = true
    · rw [if_pos h, if_pos (.inl h)]
    · rw [if_neg h, if_neg]
      rintro (h1 | h1)
      · exact h h1
      · exact e h1.symm
theorem lessM_end {D : DayP} {L : List Wr} {M : List St} {f : ByteArray → Option ByteArray} (h : TwoF D L M) (hf : Says f (allPrs L)) : lessM f M M.length = fun _ => none := by
  funext id
  unfold lessM
  rw [List.take_length]
  split
  · rfl
  · rename_i hn
    cases hfi : f id with
    | none => rfl
    | some c =>
      obtain ⟨s, hs, e⟩ := h.all_ id c ((hf id c).1 hfi)
      exact absurd (List.any_eq_true.2 ⟨s, hs, by simpa using e⟩) hn
/-- What the map says of a ride, as the tests see it. -/
theorem two_test {D : DayP} {L : List Wr} {M : List St} {f : ByteArray → Option ByteArray} (h : TwoF D L M) (hf : Says f (allPrs L)) {i : Nat} (hi : i < M.length) :
    ((M[i].how = 3 ∧ (lessM f M i M[i].ride).getD eB = M[i].car ∧ M[i].car ≠ eB) ∨ (M[i].how ≠ 3 ∧ (lessM f M i M[i].ride).getD eB = eB)) := by
  rw [lessM_at h.sorted hi]
  have hon := h.on M[i] (List.getElem_mem hi)
  by_cases e : M[i].how = 3
  · have hm := (hon M[i].car).2 ⟨e, rfl⟩
    rw [(hf _ _).2 hm]
    exact .inl ⟨e, rfl, h.car _ _ hm⟩
  · refine .inr ⟨e, ?_⟩
    cases hfi : f M[i].ride with
    | none => rfl
    | some c => exact absurd ((hon c).1 ((hf _ _).1 hfi)).1 e
end Go.Proofs.YtfkmbeppckelfaaGreatDoor
/- A map whose elements are strings; a map that has nothing. Of no program. -/
namespace Go.Proofs.YtfkmbeppckelfaaGreatDoor
open Go.RowKit Go.Maps

theorem elemStr {P : Program} {E : TypeId} (he : P.underlying E = some .string) : ElemR (plainElem P E) Value.string (fun s : ByteArray => (.lit (.string s.data.toList) : DataW Unit)) domS where
  make s h := ⟨[], plainElem_string he h⟩
  inv x d ps h := by
    obtain ⟨s, rfl, e, hw⟩ := plainElem_string_inv he h
    injection e with e1 e2
    exact ⟨s, hw, rfl, e1⟩
  inj a b h := by
    have h2 : litS a = litS b := by unfold litS; injection h
    exact litS_inj h2
theorem mem_sorted {p : Lit × DataW Unit} : ∀ l : List (Lit × DataW Unit), p ∈ l → p ∈ l.foldr DataW.insert []
  | x :: l, h => by
    rw [List.foldr_cons, ChangeMaps.mem_insert_iff]
    rcases List.mem_cons.1 h with rfl | h
    · exact .inl rfl
    · exact .inr (mem_sorted l h)
/-- A map of strings that says nothing has no entry. -/
theorem mgS_zero {V : Type} {P : Program} {K : TypeId} {R : Value → Option (DataW Unit × List MemPlace)} {dv : V → DataW Unit} {w : World} {b n : Nat} (hk : P.underlying K = some .string) (h : MgI P K Value.string domS R dv w b n (fun _ => none)) {t E : TypeId} (ht : P.underlying t = some (.map K E)) (ty : TypeId) :
    (Builtin.len_ #[t] ty #[.map (some b)]).run P w = .ok (.int .i64 0) w := by
  obtain ⟨D, h1, h2⟩ := h
  have hlen := h1.len ht ty
  obtain ⟨es, clock, _, F, _, hD⟩ := h1
  have e0 : es.toList = [] := by
    cases hes : es.toList with
    | nil => rfl
    | cons x l =>
      exfalso
      have hx : x ∈ es.toList := by rw [hes]; simp
      obtain ⟨y, hy⟩ := F.reads x hx
      obtain ⟨s, _, hd, es2⟩ := keyS_inv hk (WideElems.rd_key hy)
      have hm : y ∈ (es.toList.map (WideElems.rg P K R)).foldr DataW.insert [] := mem_sorted _ (List.mem_map.2 ⟨x, hx, WideElems.rg_of hy⟩)
      have hh : has D (litS s) = true := by
        rw [hD, has_eq, List.any_eq_true]
        exact ⟨y, hm, by rw [es2]; exact sameS_self s⟩
      rw [h2.has_ hd (keyS_mk hk hd)] at hh
      cases hh
  have es0 : size D = 0 := by
    rw [hD, size_eq, length_sorted, e0]; rfl
  rw [es0] at hlen
  exact hlen
end Go.Proofs.YtfkmbeppckelfaaGreatDoor
/- jitkeep1.NobodyIsInTwoCars returns true. -/
namespace Go.Proofs.YtfkmbeppckelfaaGreatDoor
open Go.RowKit Go.Maps

abbrev strE : ElemR (plainElem Tryz.prog 9) Value.string (fun s : ByteArray => (.lit (.string s.data.toList) : DataW Unit)) domS := elemStr Tryz.underlying9
abbrev MpTT (w : World) (b n : Nat) (f : ByteArray → Option ByteArray) : Prop := MgI Tryz.prog 9 Value.string domS (plainElem Tryz.prog 9) (fun s : ByteArray => (.lit (.string s.data.toList) : DataW Unit)) w b n f
theorem zeroStrE (w : World) : (zeroValue 9).run Tryz.prog w = .ok (.string eB) w := by kernel_rfl
theorem dom_eB : domS eB := by unfold domS maxLen; decide
theorem look_ss {w : World} {b n : Nat} {f : ByteArray → Option ByteArray} (h : MpTT w b n f) {s : ByteArray} (hs : domS s) : (Instr.lookup 54 (.map (some b)) (.string s) false).run Tryz.prog w = .ok (.string ((f s).getD eB)) w :=
  (h.look strE law_strE Tryz.underlying54 (z := eB) dom_eB (zeroStrE w) hs (keyS_mk Tryz.underlying9 hs)).1
/-- Strings that are no giants. -/
theorem two_small {l : List Ev} {at_ : Int} (h : evsF l = 0) (hok : ∀ x ∈ l, okEv x) {L : List Wr} {M : List St} (hL : WrsP (runP l at_ l.length) L) (hM : StsOf (runP l at_ l.length).rides M) :
    (∀ id c, (id, c) ∈ allPrs L → id.size ≤ 1000 ∧ c.size ≤ 1000) ∧ (∀ s ∈ M, s.ride.size ≤ 1000 ∧ s.car.size ≤ 1000) := by
  have hs := run_sim h at_ l.length
  have hr := run_small hok at_ l.length
  refine ⟨fun id c hm => ?_, fun s hsM => ?_⟩
  · obtain ⟨s, h1, _, rfl⟩ := (prs_iff hs hL id c).1 hm
    rw [hs.rides] at h1
    have := hr id s h1
    rw [hs.key id s h1] at this
    exact this
  · have h1 := (hM.2 s).1 hsM
    rw [hs.rides] at h1
    exact hr _ s h1
theorem momF_at {l : List Ev} {at_ : Int} (h : evsF l = 0) (h0 : 0 ≤ at_) (h1 : at_ ≤ 1000) : momentF l at_ = 0 := by
  unfold momentF
  rw [if_pos h, if_pos (momB_true.2 ⟨h0, by omega⟩)]
set_option maxRecDepth 100000 in
set_option maxHeartbeats 8000000 in
theorem w_lawNT (A : Option Addr) (n c : Nat) (w : World) (hn : n ≤ 9223372036854775807)
    (hL : 0 < n → ∃ b off, A = some ⟨b, off, none⟩ ∧ b < w.heap.size ∧ ∀ j, j < n → ∃ z : Int, w.cell? ⟨b, off + j, none⟩ = some (.int .i64 z) ∧ -9223372036854775808 ≤ z ∧ z ≤ 9223372036854775807) :
    Calls Tryz.prog 4 #[.slice A n c] w (TrueNx w) := by
  have hS0 : Str (w.alloc (.cells #[.slice A n c, .int .i64 0] 25)) w.heap.size 0 := str_new A n c w hn hL
  clear hL
  have hmm := @run_makeMap Tryz.prog
  have hsz : (w.alloc (.cells #[.slice A n c, .int .i64 0] 25)).heap.size = w.heap.size + 1 := by simp
  go_enter Tryz.func4, Tryz.ntmps4
  go_wp2_with fail
  refine (w_Range 0 22 _ _ _ hS0 (by omega) (by omega) (by omega)).mono ?_
  rintro e w1 ⟨r, hr1, hr2, rfl, hg1, hS1⟩
  obtain ⟨m, rfl⟩ : ∃ m : Nat, r = (m : Int) := ⟨r.toNat, by omega⟩
  have hz1 := hg1.sz
  rw [hsz] at hz1
  have hg01 : Gr w.heap.size w w1 := (Gr.of_nx ((Nx.refl w).alloc _)).trans hg1
  clear hg1 hS0 hsz
  go_wp2_with fail
  refine (w_RightEvents m _ _ _ (by omega) hS1 (by omega)).mono ?_
  rintro e w2 ⟨B, cB, l, rfl, hR2, hlm, hlc, hok, hev, hg2, hS2⟩
  have HR2 := hide hR2
  have HOK := hide hok
  have HEV := hide hev
  have HS2 := hide hS2
  have HG2 := hide (hg01.trans hg2)
  have hl22 : l.length ≤ 22 := by omega
  have hsw1 : w.heap.size < w1.heap.size := by omega
  clear hR2 hok hev hS2 hg2 hg01 hS1 hlm hlc hr1 hr2
  go_wp2_with fail
  refine (w_Next 250 _ _ _ HS2.out (by omega) (by omega)).mono ?_
  rintro e w3 ⟨at_, hat1, hat2, rfl, hg3, hS3⟩
  have HMF := hide (momF_at HEV.out hat1 (by omega))
  have HR3 := hide (HR2.out.gr hg3 hsw1)
  have HT := hide (fun W (h : Nx w3 W) => Nx.of_gr ((HG2.out.trans hg3).then_nx h) (Nat.le_refl _))
  have HRI := hide (w_Rides w1.heap.size B cB l at_ w3 HR3.out (by omega) HOK.out)
  have HCA := hide (fun W (hn : Nx w3 W) => w_Cars w1.heap.size B cB l at_ W (HR3.out.nx hn) (by omega) HOK.out)
  have HTW := hide (fun (L : List Wr) (M : List St) (hL : WrsP (runP l at_ l.length) L) (hM : StsOf (runP l at_ l.length).rides M) => And.intro (two_facts HEV.out hL hM) (two_small HEV.out HOK.out hL hM))
  unfold RidesEnd at HRI
  unfold CarsEndP at HCA
  rw [HMF.out] at HRI HCA
  obtain ⟨D, hD⟩ : ∃ D, D = runP l at_ l.length := ⟨_, rfl⟩
  rw [← hD] at HRI HCA HTW
  obtain ⟨nl, hnl⟩ : ∃ nl, nl = l.length := ⟨_, rfl⟩
  rw [← hnl] at HRI HCA hl22 ⊢
  clear hD hg3 hS3 HR2 HR3 HG2 HS2 HOK HEV HMF hnl
  go_wp2_with fail
  refine HRI.out.mono ?_
  rintro e w4 ⟨⟨B4, m4, c4, rfl, _, h4⟩, hn4⟩
  obtain ⟨M, em4, hR4, hSt, hl4⟩ := h4 (by trivial)
  have HCA4 := hide (HCA.out w4 hn4)
  have HR4 := hide hR4
  have HST := hide hSt
  have HN4 := hide hn4
  have HM4 := hide em4
  clear hR4 hSt hn4 h4 em4 HRI HCA
  go_wp2_with fail
  refine HCA4.out.mono ?_
  rintro e w5 ⟨⟨B5, m5, c5, rfl, _, h5⟩, hn5⟩
  obtain ⟨L, em5, hR5, hWr, hl5, hlr5⟩ := h5 (by trivial)
  obtain ⟨hTW, hsm1, hsm2⟩ := HTW.out _ M hWr HST.out
  have HR5 := hide hR5
  have HN5 := hide (HN4.out.trans hn5)
  have HR4' := hide (HR4.out.nx hn5)
  have HTF := hide hTW
  have HS1 := hide hsm1
  have HS2 := hide hsm2
  have HM5 := hide em5
  have HLR := hide hlr5
  obtain ⟨C, hC⟩ : ∃ C, C = L.map (·.core) := ⟨_, rfl⟩
  rw [← hC] at HTF HS1
  have HCC := hide hC
  have hm5 : m5 ≤ 88 := by rw [em5]; omega
  have hm4 : m4 ≤ 88 := by have := HM4.out; omega
  clear hR5 hWr hn5 h5 em5 HCA4 HTW hTW hsm1 hsm2 hlr5 hC HR4 hl5 hl4 HST
  go_upto_region 8 with fail
  obtain ⟨g, hg⟩ : ∃ g, g = w5.heap.size := ⟨_, rfl⟩
  have HMZ : Hid (MpTT (w5.alloc (.map #[] 0)) g 0 (fun _ => none)) := hide (by rw [hg]; exact MgI.made w5)
  rw [← hg]
  have HG := hide hg
  clear hg hmm
  go_wp2_with fail
  go_loopw [47] (fun i wr => ∃ (j : Nat) (f : ByteArray → Option ByteArray), j ≤ m5 ∧ i = .int .i64 j ∧ MpTT wr g (100 * j) f ∧ Says f (allPrs (C.take j)) ∧ Nx w5 wr) (fun i _ => m5 - (intOf i).toNat)
  case atStart => exact ⟨0, _, Nat.zero_le _, rfl, HMZ.out, says_nil, (Nx.refl w5).alloc _⟩
  case round =>
    clear HMZ
    obtain ⟨j, f, hj, rfl, hM, hsy, hnx⟩ := hrel
    obtain ⟨wo, hwo⟩ : ∃ wo, wo = wr := ⟨_, rfl⟩
    rw [← hwo] at hM hnx ⊢
    clear hwo
    have HM := hide hM
    have HSY := hide hsy
    have HNX := hide hnx
    have hgo := hM.lt
    clear hM hsy
    by_cases hlt : j < m5
    · have hlt' : j < L.length := by have := HM5.out; omega
      have hltC : j < C.length := by rw [HCC.out, List.length_map]; exact hlt'
      obtain ⟨b1, off, rfl, _, hb, hbr, hc⟩ := HR5.out.1.open_ hnx (by omega)
      have c0 := hc j hlt' 0 _ rfl
      have c1 := hc j hlt' 1 _ rfl
      have c2 := hc j hlt' 2 _ rfl
      have c3 := hc j hlt' 3 _ rfl
      have c4 := hc j hlt' 4 _ rfl
      have hcore : C[j] = L[j].core := by simp only [HCC.out, List.getElem_map]
      have hrr := HR5.out.2 L[j] (List.getElem_mem hlt')
      have hrl := HLR.out L[j] (List.getElem_mem hlt')
      have HSP := hide (fun (k : Nat) (hk : k < C[j].rides.length) => prs_split hltC hk)
      have HPN := hide (fun (k : Nat) (hk : k < C[j].rides.length) => prs_next hltC hk)
      have HPR := hide (prs_row hltC)
      clear hc hnx
      rw [hcore] at HSP HPN HPR
      generalize L[j] = x at *
      obtain ⟨⟨car, node, at5, broken, rides⟩, ra, rc⟩ := x
      simp only [Nat.add_zero] at c0 c1 c2 c3 c4 hrr hrl HSP HPN HPR
      have HRR := hide hrr
      obtain ⟨nr, hnr⟩ : ∃ nr, nr = rides.length := ⟨_, rfl⟩
      rw [← hnr] at c4 hrl
      have HNR := hide hnr
      have q1 : (0 : Int) ≤ (j : Int) := by omega
      have q2 : (j : Int) < (m5 : Int) := by omega
      obtain ⟨wb, hwb⟩ : ∃ wb, wb = wo.alloc (.cells #[.string car, .string node, .int .i64 at5, .bool broken, .slice ra nr rc] 57 (0, 0)) := ⟨_, rfl⟩
      obtain ⟨bx, hbx⟩ : ∃ bx, bx = wo.heap.size := ⟨_, rfl⟩
      have hbb : wb.heap[bx]? = some (.cells #[.string car, .string node, .int .i64 at5, .bool broken, .slice ra nr rc] 57 (0, 0)) := by rw [hwb, hbx]; exact heap_alloc_new wo _
      have hnb : Nx wo wb := hwb ▸ (Nx.refl wo).alloc _
      have HBB := hide hbb
      have HNB := hide (HNX.out.trans hnb)
      have HMB := hide (HM.out.nx hnb)
      have hgbx : g ≠ bx := by omega
      have hcore2 : C[j] = ⟨car, node, at5, broken, rides⟩ := hcore
      clear hnr hrr hbb hnb hcore
      go_upto_region 11 with fail
      rw [← hwb, ← hbx]
      clear hwb hbx c0 c1 c2 c3 c4
      have b4 : wb.cell? ⟨bx, 4, none⟩ = some (.slice ra nr rc) := cell_of_row wb _ 4 _ _ _ HBB.out
      have hbxl := (Array.getElem?_eq_some_iff.1 HBB.out).1
      go_wp2_with fail
      go_loopw [54] (fun i wr => ∃ (k : Nat) (f : ByteArray → Option ByteArray), k ≤ nr ∧ i = .int .i64 k ∧ MpTT wr g (100 * j + k) f ∧ Says f (allPrs (C.take j) ++ (rides.take k).map (fun id => (id, car))) ∧ Nx w5 wr ∧ wr.heap[bx]? = some (.cells #[.string car, .string node, .int .i64 at5, .bool broken, .slice ra nr rc] 57 (0, 0))) (fun i _ => nr - (intOf i).toNat)
      case atStart => exact ⟨0, f, Nat.zero_le _, rfl, HMB.out, by rw [List.take_zero, List.map_nil, List.append_nil]; exact HSY.out, HNB.out, HBB.out⟩
      case round =>
        obtain ⟨k, f2, hk, rfl, hM2, hsy2, hnx2, hbr2⟩ := hrel
        have HM2 := hide hM2
        have HSY2 := hide hsy2
        have HNX2 := hide hnx2
        have HBR2 := hide hbr2
        have hgr2 := hM2.lt
        have hblr2 := (Array.getElem?_eq_some_iff.1 hbr2).1
        clear hM2 hsy2 hbr2
        by_cases hltk : k < nr
        · have hltk' : k < rides.length := by have := HNR.out; omega
          obtain ⟨b2, off2, rfl, _, hb2, hbr2, hc2⟩ := HRR.out.open_ hnx2 (by have := HNR.out; omega)
          have e0 := hc2 k hltk' 0 _ rfl
          obtain ⟨Q, hQ⟩ := HSP.out k hltk'
          have HNN := hide (HPN.out k hltk')
          have hf2 := says_none HSY2.out hQ HTF.out.nodup
          have hmem : (rides[k], car) ∈ allPrs C := by rw [hQ]; simp
          have hsz := HS1.out _ _ hmem
          clear hc2 hQ hmem hnx2
          generalize rides[k] = id at *
          have hlk := look_ss HM2.out (domS_1000 hsz.1)
          rw [hf2] at hlk
          have hkey := keyS_mk (P := Tryz.prog) Tryz.underlying9 (domS_1000 hsz.1)
          have HSZ := hide hsz
          have HF2 := hide hf2
          have q3 : (0 : Int) ≤ (k : Int) := by omega
          have q4 : (k : Int) < (nr : Int) := by omega
          have f0 : wr.cell? ⟨bx, 0, none⟩ = some (.string car) := cell_of_row wr _ 0 _ _ _ HBR2.out
          simp only [Nat.mul_one, Nat.add_zero] at e0
          simp only [Option.getD_none] at hlk
          unfold eB at hlk
          clear hsz hf2
          go_wp2_with (at_mapUpdate; refine wpMgPut _ rfl _ _ _ _ rfl strE law_strE strV_inj Tryz.underlying54 g (100 * j + k) _ rfl HM2.out (by unfold maxLen; omega) id rfl (domS_1000 HSZ.out.1) _ hkey car rfl (domS_1000 HSZ.out.2) ?_; intro w8 hM8 hg8; (have HM8 := hide hM8); clear hM8)
          go_roundw
          case rel =>
            refine ⟨k + 1, _, by omega, by go_num, HM8.out, ?_, HNX2.out.grown hg8 (fun j hj => by injection hj with hj; have := HG.out; omega), (hg8.block bx hblr2 (by intro e; injection e with e; exact hgbx e.symm)).trans HBR2.out⟩
            rw [HNN.out]; exact says_put HSY2.out HF2.out
          case measure => simp [intOf]; omega
        · obtain rfl : k = nr := by omega
          have ht : rides.take k = rides := List.take_of_length_le (by have := HNR.out; omega)
          rw [ht, ← HPR.out] at HSY2
          clear hnx2
          go_wp2_with fail
          go_roundw
          case rel => exact ⟨j + 1, f2, by omega, by go_num, HM2.out.mono (by omega), HSY2.out, HNX2.out⟩
          case measure => simp [intOf]; omega
    · obtain rfl : j = m5 := by omega
      have ht : C.take j = C := List.take_of_length_le (by rw [HCC.out, List.length_map]; have := HM5.out; omega)
      rw [ht] at HSY
      clear hnx
      go_upto_region 20 with fail
      go_loopw [70] (fun i wr => ∃ k : Nat, k ≤ m4 ∧ i = .int .i64 k ∧ MpTT wr g (100 * j) (lessM f M k) ∧ Nx w5 wr) (fun i _ => m4 - (intOf i).toNat)
      case atStart => exact ⟨0, Nat.zero_le _, rfl, by rw [lessM_zero]; exact HM.out, HNX.out⟩
      case round =>
        obtain ⟨k, hk, rfl, hM2, hnx2⟩ := hrel
        have HM2 := hide hM2
        have HNX2 := hide hnx2
        have hgr2 := hM2.lt
        clear hM2
        by_cases hltk : k < m4
        · have hltk' : k < M.length := by have := HM4.out; omega
          obtain ⟨b2, off2, rfl, _, hb2, hbr2, hc2⟩ := HR4'.out.open_ hnx2 (by have := HM4.out; omega)
          have c0 := hc2 k hltk' 0 _ rfl
          have c1 := hc2 k hltk' 1 _ rfl
          have c2 := hc2 k hltk' 2 _ rfl
          have c3 := hc2 k hltk' 3 _ rfl
          have c4 := hc2 k hltk' 4 _ rfl
          have c5 := hc2 k hltk' 5 _ rfl
          have c6 := hc2 k hltk' 6 _ rfl
          have hts := two_test HTF.out HSY.out hltk'
          have HSU := hide (lessM_succ f hltk')
          have hsz := HS2.out M[k] (List.getElem_mem hltk')
          clear hc2 hnx2
          generalize M[k] = s at *
          have hlk := fun W (hn : Nx wr W) => look_ss (HM2.out.nx hn) (domS_1000 hsz.1)
          have hlk2 := hlk _ ((Nx.refl wr).alloc (.cells (staV s) 59 (0, 0)))
          unfold staV at hlk2
          have hkey := keyS_mk (P := Tryz.prog) Tryz.underlying9 (domS_1000 hsz.1)
          obtain ⟨rid, scar, how, up, dn, on, off_⟩ := s
          simp only [Nat.add_zero] at c0 c1 c2 c3 c4 c5 c6 hts hlk2 hkey HSU
          have q3 : (0 : Int) ≤ (k : Int) := by omega
          have q4 : (k : Int) < (m4 : Int) := by omega
          clear hsz hlk
          rcases hts with ⟨h1, h2, h3⟩ | ⟨h1, h2⟩
          · rw [h2] at hlk2
            have t1 : (how == 3) = true := by simpa using h1
            have t2 : scar.toList.isEmpty = false := by
              cases he : scar.toList.isEmpty with
              | false => rfl
              | true =>
                exfalso
                exact h3 ((toList_iff scar eB).1 ((List.isEmpty_iff.1 he).trans (show ([] : List UInt8) = eB.toList by unfold eB; rw [Lib.toList_data])))
            have t3 : (scar.toList == scar.toList) = true := by simp
            clear h1 h2 h3
            go_wp2_with (at_delete; refine wpMgDel _ rfl _ _ _ _ rfl law_strE strV_inj Tryz.underlying54 g (100 * j) _ rfl (HM2.out.nx ((Nx.refl _).alloc _)) rid rfl _ hkey ?_; intro w8 hM8 hg8; (have HM8 := hide hM8); clear hM8)
            go_roundw
            case rel =>
              refine ⟨k + 1, by omega, by go_num, ?_, (HNX2.out.alloc _).grown hg8 (fun j hj => by injection hj with hj; have := HG.out; omega)⟩
              rw [← HSU.out]; exact HM8.out
            case measure => simp [intOf]; omega
          · rw [h2] at hlk2
            have t1 : (how == 3) = false := by simpa using h1
            clear h1 h2
            unfold eB at hlk2
            go_wp2_with (at_delete; refine wpMgDel _ rfl _ _ _ _ rfl law_strE strV_inj Tryz.underlying54 g (100 * j) _ rfl (HM2.out.nx ((Nx.refl _).alloc _)) rid rfl _ hkey ?_; intro w8 hM8 hg8; (have HM8 := hide hM8); clear hM8)
            go_roundw
            case rel =>
              refine ⟨k + 1, by omega, by go_num, ?_, (HNX2.out.alloc _).grown hg8 (fun j hj => by injection hj with hj; have := HG.out; omega)⟩
              rw [← HSU.out]; exact HM8.out
            case measure => simp [intOf]; omega
        · obtain rfl : k = m4 := by omega
          have hme := lessM_end HTF.out HSY.out
          have hz : lessM f M k = fun _ => none := by rw [HM4.out]; exact hme
          have hlen := mgS_zero Tryz.underlying9 (hz ▸ HM2.out) (t := 54) (E := 9) Tryz.underlying54 3
          clear hme hz hnx2
          go_wp2_with (go_at_call 30; refine (w_ready _).mono ?_; rintro e w9 ⟨rfl, hn9⟩)
          go_ret
          exact ⟨rfl, HT.out _ ((HN5.out.trans HNX2.out).trans hn9)⟩
end Go.Proofs.YtfkmbeppckelfaaGreatDoor
