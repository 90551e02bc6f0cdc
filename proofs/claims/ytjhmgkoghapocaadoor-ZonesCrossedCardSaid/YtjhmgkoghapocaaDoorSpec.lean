/- Plain functions: what the smallest functions of numbers compute. -/
namespace Go.Proofs.YtjhmgkoghapocaaDoor

def outB (n l h : Int) : Bool := decide (n < l) || decide (h < n)
def inB (n l h : Int) : Bool := decide (l ≤ n) && decide (n ≤ h)
theorem inB_out (n l h : Int) : inB n l h = !outB n l h := by
  unfold inB outB
  by_cases h1 : n < l <;> by_cases h2 : h < n <;> simp [h1, h2] <;> (try omega)
theorem outB_false {n l h : Int} : outB n l h = false ↔ l ≤ n ∧ n ≤ h := by unfold outB; simp
theorem outB_true {n l h : Int} : outB n l h = true ↔ n < l ∨ h < n := by unfold outB; simp

/-- The last moment. -/
def lastMo : Int := 345686399999
def momB (n : Int) : Bool := !outB n 0 lastMo
theorem momB_true {n : Int} : momB n = true ↔ 0 ≤ n ∧ n ≤ 345686399999 := by unfold momB lastMo; simp [outB_false]
def isPtB (x y : Int) : Bool := !outB x (-10000) 10000 && !outB y (-10000) 10000
theorem isPtB_true {x y : Int} : isPtB x y = true ↔ (-10000 ≤ x ∧ x ≤ 10000) ∧ (-10000 ≤ y ∧ y ≤ 10000) := by unfold isPtB; simp [outB_false]
def argF (b : Bool) : Int := if b then 0 else 1
def ptF (x y : Int) : Int := argF (isPtB x y)
def momF (n : Int) : Int := argF (momB n)
def sizeF (n : Int) : Int := argF (!outB n 1 10000)
def zoneF (n : Int) : Int := argF (!outB n (-1440) 1440)
def hourF (n : Int) : Int := argF (!outB n 0 167)
theorem argF_or (b : Bool) : argF b = 0 ∨ argF b = 1 := by cases b <;> simp [argF]

/-- The first that is not 0. -/
def orI : List Int → Int
  | [] => 0
  | z :: zs => if z = 0 then orI zs else z

/-- cmp.Compare. -/
def cmpI (a b : Int) : Int := if a < b then -1 else if b < a then 1 else 0

theorem tdiv_bd (a b : Int) (hb : 1 ≤ b) : -(if a < 0 then -a else a) ≤ a.tdiv b ∧ a.tdiv b ≤ (if a < 0 then -a else a) := by
  rcases Int.le_total 0 a with h | h
  · rw [Int.tdiv_eq_ediv_of_nonneg h]
    have h1 := Int.ediv_nonneg h (show 0 ≤ b by omega)
    have h2 := Int.ediv_le_self b h
    split <;> omega
  · have e : a.tdiv b = -((-a) / b) := by
      rw [← Int.tdiv_eq_ediv_of_nonneg (by omega), Int.neg_tdiv]; omega
    have h1 := Int.ediv_nonneg (a := -a) (by omega) (show 0 ≤ b by omega)
    have h2 := Int.ediv_le_self b (show 0 ≤ -a by omega)
    rw [e]
    split <;> omega
theorem floor_pos (a b : Int) (hb : 1 ≤ b) (h : ¬ a.tmod b < 0) : a.tdiv b = a / b := by
  have h1 := Int.mul_tdiv_add_tmod a b
  have h2 := Int.tmod_lt_of_pos a (show 0 < b by omega)
  exact ((Int.ediv_emod_unique (a := a) (b := b) (r := a.tmod b) (q := a.tdiv b) (by omega)).2 ⟨by omega, by omega, h2⟩).1.symm
theorem floor_neg (a b : Int) (hb : 1 ≤ b) (h : a.tmod b < 0) : a.tdiv b - 1 = a / b := by
  have h1 := Int.mul_tdiv_add_tmod a b
  have h2 := Int.lt_tmod_of_pos a (b := b) (by omega)
  exact ((Int.ediv_emod_unique (a := a) (b := b) (r := a.tmod b + b) (q := a.tdiv b - 1) (by omega)).2 ⟨by rw [Int.mul_sub]; omega, by omega, by omega⟩).1.symm

/-- The hour of the week. -/
def hourI (at_ zone : Int) : Int := (at_ + zone * 60000) % 604800000 / 3600000

/-- What stands ahead of place k. -/
def prevOf {α : Type} (l : List α) (k : Nat) : Option α := if k = 0 then none else l[k - 1]?
/-- A check over a list: the first fault; each element is held against the one ahead of it. -/
def chk {α : Type} (f : Option α → α → Int) : Option α → List α → Int
  | _, [] => 0
  | p, c :: cs => if f p c = 0 then chk f (some c) cs else f p c
theorem chk_drop {α : Type} (f : Option α → α → Int) (l : List α) (k : Nat) (hk : k < l.length) :
    chk f (prevOf l k) (l.drop k) = if f (prevOf l k) l[k] = 0 then chk f (prevOf l (k + 1)) (l.drop (k + 1)) else f (prevOf l k) l[k] := by
  rw [List.drop_eq_getElem_cons hk, chk]
  have e : prevOf l (k + 1) = some l[k] := by unfold prevOf; simp [List.getElem?_eq_getElem hk]
  rw [e]
theorem prevOf_zero {α : Type} (l : List α) : prevOf l 0 = none := rfl
theorem prevOf_pos {α : Type} (l : List α) (k : Nat) (h : 0 < k) (hk : k ≤ l.length) : prevOf l k = some (l[k - 1]'(by omega)) := by
  unfold prevOf; rw [if_neg (by omega), List.getElem?_eq_getElem]

structure Cell where
  x : Int
  y : Int
deriving DecidableEq, Inhabited
structure Call where
  at_ : Int
  x : Int
  y : Int
deriving DecidableEq, Inhabited
structure Tally where
  x : Int
  y : Int
  hour : Int
  many : Int
deriving DecidableEq, Inhabited

def callF (p : Option Call) (c : Call) : Int :=
  if momB c.at_ && isPtB c.x c.y then (match p with | some q => if c.at_ < q.at_ then 7 else 0 | none => 0) else 1
/-- demand.CheckCalls. -/
def callsF (l : List Call) : Int := if 3000 < l.length then 2 else chk callF none l

/-- The order of cells; of tallies. -/
def cellC (a b : Cell) : Int := orI [cmpI a.x b.x, cmpI a.y b.y]
def tallyC (a b : Tally) : Int := orI [cellC ⟨a.x, a.y⟩ ⟨b.x, b.y⟩, cmpI a.hour b.hour]

/-- A cell in an hour. -/
structure Spot where
  x : Int
  y : Int
  h : Int
deriving DecidableEq, Inhabited
def keyT (t : Tally) : Spot := ⟨t.x, t.y, t.hour⟩
/-- Tallies sorted, each key once, that tell f where it is above 0. -/
structure Listed (f : Spot → Int) (l : List Tally) : Prop where
  sorted : l.Pairwise fun a b => tallyC a b < 0
  mem : ∀ t, t ∈ l ↔ f (keyT t) = t.many ∧ 0 < t.many
theorem cmpI_self (a : Int) : cmpI a a = 0 := by unfold cmpI; simp
theorem orI_two (a b : Int) : orI [a, b] = if a = 0 then b else a := by
  unfold orI orI orI
  by_cases h1 : a = 0 <;> by_cases h2 : b = 0 <;> simp [h1, h2]
theorem cmpI_neg {a b : Int} : cmpI a b < 0 ↔ a < b := by unfold cmpI; split <;> (try split) <;> omega
theorem cmpI_zero {a b : Int} : cmpI a b = 0 ↔ a = b := by unfold cmpI; split <;> (try split) <;> omega
theorem cmpI_pos {a b : Int} : 0 < cmpI a b ↔ b < a := by unfold cmpI; split <;> (try split) <;> omega
theorem cellC_neg {a b : Cell} : cellC a b < 0 ↔ a.x < b.x ∨ (a.x = b.x ∧ a.y < b.y) := by
  unfold cellC; rw [orI_two]
  have h1 := @cmpI_zero a.x b.x
  have h2 := @cmpI_neg a.x b.x
  have h3 := @cmpI_neg a.y b.y
  split <;> omega
theorem cellC_zero {a b : Cell} : cellC a b = 0 ↔ a.x = b.x ∧ a.y = b.y := by
  unfold cellC; rw [orI_two]
  have h1 := @cmpI_zero a.x b.x
  have h3 := @cmpI_zero a.y b.y
  split <;> omega
theorem tallyC_neg {a b : Tally} : tallyC a b < 0 ↔ a.x < b.x ∨ (a.x = b.x ∧ (a.y < b.y ∨ (a.y = b.y ∧ a.hour < b.hour))) := by
  unfold tallyC; rw [orI_two]
  have h1 := @cellC_zero ⟨a.x, a.y⟩ ⟨b.x, b.y⟩
  have h2 := @cellC_neg ⟨a.x, a.y⟩ ⟨b.x, b.y⟩
  have h3 := @cmpI_neg a.hour b.hour
  simp only at h1 h2
  split <;> omega
theorem tallyC_zero {a b : Tally} : tallyC a b = 0 ↔ keyT a = keyT b := by
  unfold tallyC keyT; rw [orI_two]
  have h1 := @cellC_zero ⟨a.x, a.y⟩ ⟨b.x, b.y⟩
  have h3 := @cmpI_zero a.hour b.hour
  simp only at h1
  simp only [Spot.mk.injEq]
  split <;> omega
theorem listed_unique {f : Spot → Int} {l m : List Tally} (hl : Listed f l) (hm : Listed f m) : l = m := by
  have hmem : ∀ t, t ∈ l ↔ t ∈ m := fun t => (hl.mem t).trans (hm.mem t).symm
  have nd : ∀ k : List Tally, (k.Pairwise fun a b => tallyC a b < 0) → k.Nodup := fun k hk => hk.imp (fun {a b} h e => by subst e; have := (@tallyC_zero a a).2 rfl; omega)
  have hp : l.Perm m := (List.perm_ext_iff_of_nodup (nd l hl.sorted) (nd m hm.sorted)).2 hmem
  exact List.Perm.eq_of_pairwise (le := fun a b => tallyC a b < 0) (fun a b _ _ h1 h2 => by
    have e1 := @tallyC_neg a b
    have e2 := @tallyC_neg b a
    omega) hl.sorted hm.sorted hp

/-- The cell and the hour of a call; how many calls there were in one. -/
def spotOf (size zone : Int) (c : Call) : Spot := ⟨c.x / size, c.y / size, hourI c.at_ zone⟩
def cntF (size zone : Int) (l : List Call) (k : Spot) : Int := (l.countP (fun c => spotOf size zone c = k) : Nat)
theorem cntF_step (size zone : Int) (l : List Call) (k : Nat) (hk : k < l.length) (s : Spot) (hs : s = spotOf size zone l[k]) :
    cntF size zone (l.take (k + 1)) = fun k' => if k' = s then cntF size zone (l.take k) s + 1 else cntF size zone (l.take k) k' := by
  funext k'
  unfold cntF
  rw [List.take_succ_eq_append_getElem hk, List.countP_append, List.countP_cons, List.countP_nil]
  subst hs
  by_cases e : k' = spotOf size zone l[k]
  · subst e; simp
  · rw [if_neg e]
    have : ¬ spotOf size zone l[k] = k' := fun h => e h.symm
    simp [this]
theorem cntF_ge (size zone : Int) (l : List Call) (k : Spot) : 0 ≤ cntF size zone l k := by unfold cntF; omega
theorem cntF_le (size zone : Int) (l : List Call) (k : Spot) : cntF size zone l k ≤ l.length := by
  unfold cntF
  have := List.countP_le_length (p := fun c => decide (spotOf size zone c = k)) (l := l)
  omega
theorem cntF_pos {size zone : Int} {l : List Call} {k : Spot} (h : 0 < cntF size zone l k) : ∃ c ∈ l, spotOf size zone c = k := by
  unfold cntF at h
  have h1 : 0 < l.countP (fun c => decide (spotOf size zone c = k)) := by omega
  obtain ⟨c, hc, h2⟩ := List.countP_pos_iff.1 h1
  exact ⟨c, hc, by simpa using h2⟩
/-- All calls are on the map and at moments. -/
def okCall (c : Call) : Prop := (0 ≤ c.at_ ∧ c.at_ ≤ 345686399999) ∧ (-10000 ≤ c.x ∧ c.x ≤ 10000) ∧ (-10000 ≤ c.y ∧ c.y ≤ 10000)
theorem chk_ok : ∀ (l : List Call) (p : Option Call), chk callF p l = 0 → ∀ c ∈ l, okCall c
  | [], _, _, c, hc => by cases hc
  | d :: l, p, h, c, hc => by
    unfold chk at h
    split at h
    · rename_i h0
      rcases List.mem_cons.1 hc with rfl | hc
      · unfold callF at h0
        cases h1 : momB c.at_
        · rw [h1] at h0; simp at h0
        · cases h2 : isPtB c.x c.y
          · rw [h1, h2] at h0; simp at h0
          · exact ⟨momB_true.1 h1, isPtB_true.1 h2⟩
      · exact chk_ok l _ h c hc
    · exact absurd h (by assumption)
theorem callsF_ok {l : List Call} (h : callsF l = 0) : ∀ c ∈ l, okCall c := by
  unfold callsF at h
  split at h
  · cases h
  · exact chk_ok l none h
theorem div_bd {x size : Int} (h : 1 ≤ size) (hx : -10000 ≤ x ∧ x ≤ 10000) : -10000 ≤ x / size ∧ x / size ≤ 10000 :=
  ⟨Int.le_ediv_of_mul_le (by omega) (by omega), Int.ediv_le_of_le_mul (by omega) (by omega)⟩
theorem hourI_bd (at_ zone : Int) : 0 ≤ hourI at_ zone ∧ hourI at_ zone ≤ 167 := by
  unfold hourI
  have q1 := Int.emod_nonneg (at_ + zone * 60000) (b := 604800000) (by omega)
  have q2 := Int.emod_lt_of_pos (at_ + zone * 60000) (b := 604800000) (by omega)
  omega

/-- Right arguments of CellOf; what it gives. -/
def cellV (x y size : Int) : Bool := isPtB x y && !outB size 1 10000
def cellX (v : Bool) (x size : Int) : Int := if v then x / size else 0
theorem or_cell (x y size : Int) : orI [ptF x y, sizeF size] = argF (cellV x y size) := by
  unfold cellV ptF sizeF; rw [orI_two]
  cases isPtB x y <;> cases outB size 1 10000 <;> simp [argF]
def hourV (at_ zone : Int) : Bool := momB at_ && !outB zone (-1440) 1440
theorem or_hour (at_ zone : Int) : orI [momF at_, zoneF zone] = argF (hourV at_ zone) := by
  unfold hourV momF zoneF; rw [orI_two]
  cases momB at_ <;> cases outB zone (-1440) 1440 <;> simp [argF]

theorem argF_ne (b : Bool) : (argF b != 0) = !b := by cases b <;> rfl
theorem argF_eq (b : Bool) : (argF b == 0) = b := by cases b <;> rfl
end Go.Proofs.YtjhmgkoghapocaaDoor
