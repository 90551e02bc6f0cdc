/- Plain: what a key is, by the program's loop and by the reference's trim. -/
import Derived.Lib.SlTrimSet
import Derived.Lib.Bytealg
import Derived.WalkKit
import Derived.WalkSpells
import Derived.WalkLawsBesides
import Derived.IntWalk
namespace Go.Proofs.YtfkmbeppckelfaaGreatDoor
def lowC (c : UInt8) : Bool := decide (97 ≤ c.toNat) && decide (c.toNat ≤ 122)
def digC (c : UInt8) : Bool := decide (48 ≤ c.toNat) && decide (c.toNat ≤ 57)
def keyC (c : UInt8) : Bool := lowC c || digC c || c == 45 || c == 95
/-- A key. -/
def keyL : List UInt8 → Bool
  | [] => false
  | c :: l => decide ((c :: l).length ≤ 40) && lowC c && (c :: l).all keyC
def keyB (s : ByteArray) : Bool := keyL s.data.toList
def smallL : List UInt8 := [97, 98, 99, 100, 101, 102, 103, 104, 105, 106, 107, 108, 109, 110, 111, 112, 113, 114, 115, 116, 117, 118, 119, 120, 121, 122]
def csetL : List UInt8 := smallL ++ [48, 49, 50, 51, 52, 53, 54, 55, 56, 57, 45, 95]
theorem all_u8 {p : UInt8 → Bool} (h : ∀ n : Fin 256, p (UInt8.ofNat n.val) = true) (c : UInt8) : p c = true := by
  have := h ⟨c.toNat, c.toNat_lt⟩
  simpa using this
theorem cset_key (c : UInt8) : csetL.contains c = keyC c := by
  have := all_u8 (p := fun c => csetL.contains c == keyC c) (by decide +kernel) c
  simpa using this
theorem small_low (c : UInt8) : decide (0 ≤ Go.Lib.indexByte smallL c) = lowC c := by
  have := all_u8 (p := fun c => decide (0 ≤ Go.Lib.indexByte smallL c) == lowC c) (by decide +kernel) c
  simpa using this
theorem drop_nil {p : UInt8 → Bool} : ∀ {l : List UInt8}, l.dropWhile p = [] ↔ l.all p = true
  | [] => by simp
  | c :: l => by
    by_cases h : p c = true
    · rw [List.dropWhile_cons_of_pos h, drop_nil]; simp [h]
    · rw [List.dropWhile_cons_of_neg h]; simp [h]
theorem drop_all {p : UInt8 → Bool} : ∀ {l : List UInt8}, (l.dropWhile p).all p = true → l.all p = true
  | [], h => h
  | c :: l, h => by
    by_cases hc : p c = true
    · rw [List.dropWhile_cons_of_pos hc] at h; simp [hc]; simpa using drop_all h
    · rw [List.dropWhile_cons_of_neg hc] at h; exact h
theorem all_drop {p : UInt8 → Bool} {l : List UInt8} (h : l.all p = true) : (l.dropWhile p).all p = true := by
  rw [drop_nil.2 h]; rfl
theorem trim_nil (l cs : List UInt8) : Go.Lib.trimS l cs = [] ↔ l.all (cs.contains ·) = true := by
  unfold Go.Lib.trimS Go.Lib.trimLeftS Go.Lib.trimRightS
  rw [drop_nil]
  simp only [List.all_reverse]
  constructor
  · intro h; have := drop_all h; simpa using this
  · intro h; exact all_drop (by simpa using h)
theorem trim_key (l : List UInt8) : (Go.Lib.trimS l csetL).isEmpty = l.all keyC := by
  have h := trim_nil l csetL
  have e : (fun c => csetL.contains c) = keyC := by funext c; exact cset_key c
  rw [e] at h
  cases h1 : l.all keyC
  · cases h2 : Go.Lib.trimS l csetL
    · rw [h.1 h2] at h1; cases h1
    · rfl
  · rw [h.2 h1]; rfl
end Go.Proofs.YtfkmbeppckelfaaGreatDoor
/- Plain functions: what the smallest functions of numbers compute. -/
namespace Go.Proofs.YtfkmbeppckelfaaGreatDoor

def outB (n l h : Int) : Bool := decide (n < l) || decide (h < n)
def inB (n l h : Int) : Bool := decide (l ≤ n) && decide (n ≤ h)
theorem inB_out (n l h : Int) : inB n l h = !outB n l h := by
  unfold inB outB
  by_cases h1 : n < l <;> by_cases h2 : h < n <;> simp [h1, h2] <;> (try omega)
theorem outB_false {n l h : Int} : outB n l h = false ↔ l ≤ n ∧ n ≤ h := by unfold outB; simp
theorem outB_true {n l h : Int} : outB n l h = true ↔ n < l ∨ h < n := by unfold outB; simp

/-- The last moment. -/
def lastMo : Int := 345686399999
def momB (n : Int) : Bool := !outB n 0 lastMo
theorem momB_true {n : Int} : momB n = true ↔ 0 ≤ n ∧ n ≤ 345686399999 := by unfold momB lastMo; simp [outB_false]
def argF (b : Bool) : Int := if b then 0 else 1
def momF (n : Int) : Int := argF (momB n)
/-- The first that is not 0. -/
def orI : List Int → Int
  | [] => 0
  | z :: zs => if z = 0 then orI zs else z

/-- cmp.Compare. -/
def cmpI (a b : Int) : Int := if a < b then -1 else if b < a then 1 else 0

theorem cmpI_neg {a b : Int} : cmpI a b < 0 ↔ a < b := by unfold cmpI; split <;> (try split) <;> omega
theorem cmpI_zero {a b : Int} : cmpI a b = 0 ↔ a = b := by unfold cmpI; split <;> (try split) <;> omega
end Go.Proofs.YtfkmbeppckelfaaGreatDoor
/- Plain: the order of strings by their bytes. -/
namespace Go.Proofs.YtfkmbeppckelfaaGreatDoor
open Go.Proofs

theorem cmpB_zero : ∀ a b : List UInt8, Lib.compareBytes a b = 0 ↔ a = b
  | [], [] => by simp [Lib.compareBytes]
  | [], _ :: _ => by simp [Lib.compareBytes]
  | _ :: _, [] => by simp [Lib.compareBytes]
  | a :: x, b :: y => by
    unfold Lib.compareBytes
    by_cases h1 : a < b
    · have : a ≠ b := fun e => by subst e; exact UInt8.lt_irrefl a h1
      simp [h1, this]
    · by_cases h2 : b < a
      · have : a ≠ b := fun e => by subst e; exact UInt8.lt_irrefl a h2
        simp [h1, h2, this]
      · have e : a = b := UInt8.le_antisymm (UInt8.not_lt.1 h2) (UInt8.not_lt.1 h1)
        subst e
        simp [h1, cmpB_zero x y]
theorem cmpB_neg : ∀ a b : List UInt8, Lib.compareBytes a b < 0 ↔ a < b
  | [], [] => by simp [Lib.compareBytes]
  | [], _ :: _ => by simp [Lib.compareBytes]
  | _ :: _, [] => by simp [Lib.compareBytes]
  | a :: x, b :: y => by
    unfold Lib.compareBytes
    rw [List.cons_lt_cons_iff]
    by_cases h1 : a < b
    · simp [h1]
    · by_cases h2 : b < a
      · have : a ≠ b := fun e => by subst e; exact UInt8.lt_irrefl a h2
        simp [h1, h2, this]
      · have e : a = b := UInt8.le_antisymm (UInt8.not_lt.1 h2) (UInt8.not_lt.1 h1)
        subst e
        simp [h1, cmpB_neg x y]
def cmpS (a b : ByteArray) : Int := Lib.compareBytes a.data.toList b.data.toList
def ltS (a b : ByteArray) : Prop := a.data.toList < b.data.toList
theorem data_inj {a b : ByteArray} (h : a.data.toList = b.data.toList) : a = b := by
  obtain ⟨⟨a⟩⟩ := a
  obtain ⟨⟨b⟩⟩ := b
  simp at h
  rw [h]
theorem cmpS_zero {a b : ByteArray} : cmpS a b = 0 ↔ a = b := by
  unfold cmpS
  rw [cmpB_zero]
  exact ⟨data_inj, fun h => by rw [h]⟩
theorem cmpS_neg {a b : ByteArray} : cmpS a b < 0 ↔ ltS a b := cmpB_neg _ _
theorem ltS_trans {a b c : ByteArray} (h : ltS a b) (h' : ltS b c) : ltS a c := List.lt_trans h h'
theorem ltS_irrefl (a : ByteArray) : ¬ ltS a a := List.lt_irrefl _
theorem ltS_tri (a b : ByteArray) (h : ¬ ltS a b) (h' : ¬ ltS b a) : a = b := data_inj (List.le_antisymm (List.not_lt.1 h') (List.not_lt.1 h))
end Go.Proofs.YtfkmbeppckelfaaGreatDoor
/- Plain: events, and what is wrong with them. -/
namespace Go.Proofs.YtfkmbeppckelfaaGreatDoor

/-- An event. -/
structure Ev where
  source : ByteArray
  no : Int
  at_ : Int
  kind : Int
  ride : ByteArray
  car : ByteArray
  node : ByteArray
  up : Int
  down : Int
  from_ : ByteArray
  number : Int
deriving DecidableEq

def eB : ByteArray := ⟨#[]⟩
def uRide (k : Int) : Bool := k == 1 || k == 2 || k == 3 || k == 4 || k == 5 || k == 6
def uCar (k : Int) : Bool := k == 2 || k == 3 || k == 4 || k == 7 || k == 8
def uNode (k : Int) : Bool := k == 3 || k == 4 || k == 7
def uBook (k : Int) : Bool := k == 1
def uUndo (k : Int) : Bool := k == 9
/-- An event without what its kind does not use. -/
def leanE (x : Ev) : Ev :=
  { source := x.source, no := x.no, at_ := x.at_, kind := x.kind, ride := if uRide x.kind then x.ride else eB, car := if uCar x.kind then x.car else eB, node := if uNode x.kind then x.node else eB,
    up := if uBook x.kind then x.up else 0, down := if uBook x.kind then x.down else 0, from_ := if uUndo x.kind then x.from_ else eB, number := if uUndo x.kind then x.number else 0 }
/-- What is wrong with an event by itself. -/
def evF (x : Ev) : Int :=
  if keyB x.source = false then 5
  else if outB x.no 1 3000 || !momB x.at_ then 1
  else if outB x.kind 1 9 then 4
  else if (uRide x.kind && !keyB x.ride) || (uCar x.kind && !keyB x.car) || (uNode x.kind && !keyB x.node) || (uUndo x.kind && !keyB x.from_) then 5
  else if (uBook x.kind && (outB x.up x.at_ lastMo || outB x.down x.up lastMo)) || (uUndo x.kind && outB x.number 1 3000) then 1
  else if x ≠ leanE x then 3 else 0
def evOrd (a b : Ev) : Int := orI [cmpI a.at_ b.at_, cmpS a.source b.source, cmpI a.no b.no]
/-- An event does not come behind the one ahead of it. -/
def lateB : Option Ev → Ev → Bool
  | none, _ => false
  | some q, x => decide (evOrd x q ≤ 0)
/-- The events' order among themselves, behind one and behind numbers of sources. -/
def evsGo : Option Ev → (ByteArray → Int) → List Ev → Int
  | _, _, [] => 0
  | p, f, x :: l =>
    if evF x ≠ 0 then evF x
    else if lateB p x then 7
    else if x.no ≠ f x.source + 1 then 16
    else evsGo (some x) (fun s => if s = x.source then x.no else f s) l
/-- What is wrong with events (50 of them at most). -/
def evsF (l : List Ev) : Int := evsGo none (fun _ => 0) l

theorem cmpI_swap (a b : Int) : cmpI b a = -cmpI a b := by unfold cmpI; split <;> split <;> omega
theorem cmpS_swap (a b : ByteArray) : cmpS b a = -cmpS a b := by
  have h : ∀ x y : List UInt8, Lib.compareBytes y x = -Lib.compareBytes x y := by
    intro x
    induction x with
    | nil => intro y; cases y <;> simp [Lib.compareBytes]
    | cons a x ih =>
      intro y
      cases y with
      | nil => simp [Lib.compareBytes]
      | cons b y =>
        unfold Lib.compareBytes
        by_cases h1 : a < b
        · have h2 : ¬ b < a := fun h => UInt8.lt_irrefl a (UInt8.lt_trans h1 h)
          simp [h1, h2]
        · by_cases h2 : b < a
          · simp [h1, h2]
          · simp [h1, h2, ih y]
  exact h _ _
theorem evOrd_neg {a b : Ev} : evOrd a b < 0 ↔ a.at_ < b.at_ ∨ (a.at_ = b.at_ ∧ (ltS a.source b.source ∨ (a.source = b.source ∧ a.no < b.no))) := by
  unfold evOrd
  simp only [orI]
  have e1 := @cmpI_zero a.at_ b.at_
  have e2 := @cmpI_neg a.at_ b.at_
  have e3 := @cmpS_zero a.source b.source
  have e4 := @cmpS_neg a.source b.source
  have e5 := @cmpI_zero a.no b.no
  have e6 := @cmpI_neg a.no b.no
  by_cases h1 : a.at_ = b.at_
  · rw [if_pos (e1.2 h1)]
    by_cases h2 : a.source = b.source
    · rw [if_pos (e3.2 h2)]
      have h3 : ¬ ltS a.source b.source := by rw [h2]; exact ltS_irrefl _
      by_cases h4 : a.no = b.no
      · rw [if_pos (e5.2 h4)]; simp [h1, h2, h4, ltS_irrefl]
      · rw [if_neg (fun h => h4 (e5.1 h)), e6]; simp [h1, h2, ltS_irrefl]
    · rw [if_neg (fun h => h2 (e3.1 h)), e4]; simp [h1, h2]
  · rw [if_neg (fun h => h1 (e1.1 h)), e2]; simp [h1]
theorem evOrd_swap (a b : Ev) : evOrd b a = -evOrd a b := by
  unfold evOrd
  simp only [orI]
  rw [cmpI_swap a.at_ b.at_, cmpS_swap a.source b.source, cmpI_swap a.no b.no]
  split <;> split <;> (try split) <;> (try split) <;> (try split) <;> (try split) <;> omega
theorem evOrd_trans {a b c : Ev} (h : evOrd a b < 0) (h' : evOrd b c < 0) : evOrd a c < 0 := by
  rw [evOrd_neg] at *
  rcases h with h | ⟨h1, h | ⟨h2, h⟩⟩ <;> rcases h' with h' | ⟨h1', h' | ⟨h2', h'⟩⟩
  · left; omega
  · left; omega
  · left; omega
  · left; omega
  · right; exact ⟨h1.trans h1', .inl (ltS_trans h h')⟩
  · right; exact ⟨h1.trans h1', .inl (by rw [← h2']; exact h)⟩
  · left; omega
  · right; exact ⟨h1.trans h1', .inl (by rw [h2]; exact h')⟩
  · right; exact ⟨h1.trans h1', .inr ⟨h2.trans h2', by omega⟩⟩

/-- What right events are. -/
theorem evsGo_right : ∀ (l : List Ev) (p : Option Ev) (f : ByteArray → Int), evsGo p f l = 0 →
    (∀ x ∈ l, evF x = 0) ∧ l.Pairwise (fun a b => evOrd a b < 0) ∧ (∀ q, p = some q → ∀ x ∈ l, evOrd q x < 0) ∧ l.Pairwise (fun a b => a.source = b.source → a.no < b.no) ∧ (∀ x ∈ l, f x.source < x.no)
  | [], _, _, _ => by simp
  | x :: l, p, f, h => by
    unfold evsGo at h
    by_cases h1 : evF x ≠ 0
    · rw [if_pos h1] at h; exact absurd h h1
    rw [if_neg h1] at h
    have h1 : evF x = 0 := by simpa using h1
    by_cases h2 : lateB p x = true
    · rw [if_pos h2] at h; cases h
    rw [if_neg h2] at h
    by_cases h3 : x.no ≠ f x.source + 1
    · rw [if_pos h3] at h; cases h
    rw [if_neg h3] at h
    have h3 : x.no = f x.source + 1 := by simpa using h3
    obtain ⟨a1, a2, a3, a4, a5⟩ := evsGo_right l _ _ h
    have hq : ∀ q, p = some q → evOrd q x < 0 := by
      intro q hp
      subst hp
      simp [lateB] at h2
      rw [evOrd_swap x q]; omega
    refine ⟨?_, ?_, ?_, ?_, ?_⟩
    · intro y hy
      rcases List.mem_cons.1 hy with rfl | hy
      · exact h1
      · exact a1 y hy
    · exact List.pairwise_cons.2 ⟨a3 x rfl, a2⟩
    · intro q hp y hy
      rcases List.mem_cons.1 hy with rfl | hy
      · exact hq q hp
      · exact evOrd_trans (hq q hp) (a3 x rfl y hy)
    · refine List.pairwise_cons.2 ⟨?_, a4⟩
      intro y hy e
      have := a5 y hy
      simp only [e.symm, if_true] at this
      exact this
    · intro y hy
      rcases List.mem_cons.1 hy with rfl | hy
      · omega
      · have := a5 y hy
        by_cases e : y.source = x.source
        · rw [if_pos e] at this; rw [e]; omega
        · rw [if_neg e] at this; exact this
/-- No two right events have one name. -/
theorem evs_names {l : List Ev} (h : evsF l = 0) {i j : Nat} {x y : Ev} (hx : l[i]? = some x) (hy : l[j]? = some y) (hs : x.source = y.source) (hn : x.no = y.no) : i = j := by
  obtain ⟨_, _, _, a4, _⟩ := evsGo_right l _ _ h
  obtain ⟨hi, ex⟩ := List.getElem?_eq_some_iff.1 hx
  obtain ⟨hj, ey⟩ := List.getElem?_eq_some_iff.1 hy
  rw [List.pairwise_iff_getElem] at a4
  rcases Nat.lt_trichotomy i j with hlt | he | hlt
  · have := a4 i j hi hj hlt (by rw [ex, ey]; exact hs)
    rw [ex, ey] at this; omega
  · exact he
  · have := a4 j i hj hi hlt (by rw [ex, ey]; exact hs.symm)
    rw [ex, ey] at this; omega
theorem evs_right {l : List Ev} (h : evsF l = 0) {x : Ev} (hx : x ∈ l) : evF x = 0 := (evsGo_right l _ _ h).1 x hx
end Go.Proofs.YtfkmbeppckelfaaGreatDoor
/- Plain: what comes of events: by the program's steps, and by the reference's. -/
namespace Go.Proofs.YtfkmbeppckelfaaGreatDoor

/-- How a ride is. -/
structure St where
  ride : ByteArray
  car : ByteArray
  how : Int
  up : Int
  down : Int
  on : Int
  off : Int
deriving DecidableEq
def st0 : St := ⟨eB, eB, 0, 0, 0, 0, 0⟩
/-- How a car is, and who is on board. -/
structure Crew where
  node : ByteArray
  at_ : Int
  broken : Bool
  on : ByteArray → Option Bool
def crew0 : Crew := ⟨eB, 0, false, fun _ => none⟩
/-- The program's day. -/
structure DayP where
  rides : ByteArray → Option St
  cars : ByteArray → Option Crew
/-- The reference's day. -/
structure DayR where
  rides : ByteArray → Option St
  cars : ByteArray → Option (ByteArray × Int)
  broken : ByteArray → Option Bool
def updF {α β : Type} [DecidableEq α] (f : α → Option β) (k : α) (v : β) : α → Option β := fun j => if j = k then some v else f j
theorem updF_same {α β : Type} [DecidableEq α] (f : α → Option β) (k : α) (v : β) : updF f k v k = some v := if_pos rfl
theorem updF_other {α β : Type} [DecidableEq α] (f : α → Option β) {k j : α} (v : β) (h : j ≠ k) : updF f k v j = f j := if_neg h
def dayP0 : DayP := ⟨fun _ => none, fun _ => none⟩
def dayR0 : DayR := ⟨fun _ => none, fun _ => none, fun _ => none⟩
def carP (d : DayP) (k : ByteArray) : Crew := (d.cars k).getD crew0
def brokenP (d : DayP) (k : ByteArray) : Bool := (carP d k).broken
def setC (d : DayP) (k : ByteArray) (c : Crew) : DayP := ⟨d.rides, updF d.cars k c⟩
def setR (d : DayP) (k : ByteArray) (s : St) : DayP := ⟨updF d.rides k s, d.cars⟩
def wasP (d : DayP) (x : Ev) : DayP := setC d x.car { carP d x.car with node := x.node, at_ := x.at_ }
/-- A ride whose car drives no more. -/
def freed (c : ByteArray) (s : St) : St := if s.how = 2 ∧ s.car = c then { s with how := 1, car := eB } else s
def breaksP (d : DayP) (x : Ev) : DayP × Int :=
  if brokenP d x.car then (d, 6) else (⟨fun k => (d.rides k).map (freed x.car), updF d.cars x.car { carP d x.car with broken := true }⟩, 0)
def rideP (d : DayP) (s : St) (x : Ev) : DayP × Int :=
  if x.kind = 2 then
    if ¬ (s.how = 1 ∨ s.how = 2) then (d, 11) else if brokenP d x.car then (d, 16) else (setC (setR d x.ride { s with how := 2, car := x.car }) x.car (carP d x.car), 0)
  else if x.kind = 3 then
    if s.how ≠ 2 then (d, 11) else if s.car ≠ x.car then (d, 13) else if brokenP d x.car then (d, 16)
    else (setC (setR d x.ride { s with how := 3, on := x.at_ }) x.car { carP d x.car with node := x.node, at_ := x.at_, on := updF (carP d x.car).on x.ride true }, 0)
  else if x.kind = 4 then
    if s.how ≠ 3 then (d, 11) else if s.car ≠ x.car then (d, 13)
    else (setC (setR d x.ride { s with how := 4, off := x.at_ }) x.car { carP d x.car with node := x.node, at_ := x.at_, on := fun id => if id = x.ride then none else (carP d x.car).on id }, 0)
  else if x.kind = 5 then
    if ¬ (s.how = 1 ∨ s.how = 2) then (d, 11) else (setR d x.ride { s with how := 5 }, 0)
  else if x.kind = 6 then
    if s.how ≠ 2 then (d, 11) else (setR d x.ride { s with how := 6 }, 0)
  else (d, 0)
/-- The program's step at an event that is no undo. -/
def stepP (d : DayP) (x : Ev) : DayP × Int :=
  if x.kind = 7 then (if brokenP d x.car then (d, 16) else (wasP d x, 0))
  else if x.kind = 8 then breaksP d x
  else if x.kind = 1 then (if (d.rides x.ride).isSome then (d, 6) else (setR d x.ride ⟨x.ride, eB, 1, x.up, x.down, 0, 0⟩, 0))
  else match d.rides x.ride with
    | none => (d, 8)
    | some s => rideP d s x

def brokenR (d : DayR) (k : ByteArray) : Bool := (d.broken k).getD false
def mustR (k : Int) : Int := if k = 3 then 2 else if k = 4 then 3 else if k = 6 then 2 else 0
/-- Why the reference refuses an event that is no undo. -/
def whyR (d : DayR) (e : Ev) : Int :=
  if (e.kind = 1 ∧ (d.rides e.ride).isSome = true) ∨ (e.kind = 8 ∧ brokenR d e.car = true) then 6
  else if e.kind ≠ 1 ∧ uRide e.kind = true ∧ (d.rides e.ride).isSome = false then 8
  else if ((e.kind = 2 ∨ e.kind = 5) ∧ ¬ (((d.rides e.ride).getD st0).how = 1 ∨ ((d.rides e.ride).getD st0).how = 2)) ∨ (mustR e.kind ≠ 0 ∧ ((d.rides e.ride).getD st0).how ≠ mustR e.kind) then 11
  else if (e.kind = 3 ∨ e.kind = 4) ∧ ((d.rides e.ride).getD st0).car ≠ e.car then 13
  else if brokenR d e.car = true ∧ (e.kind = 2 ∨ e.kind = 3 ∨ e.kind = 7) then 16
  else 0
/-- How a ride is behind an event. -/
def rideR (x : St) (e : Ev) : St :=
  if e.kind = 1 then ⟨e.ride, eB, 1, e.up, e.down, 0, 0⟩
  else if e.kind = 2 then { x with how := 2, car := e.car }
  else if e.kind = 3 then { x with how := 3, on := e.at_ }
  else if e.kind = 4 then { x with how := 4, off := e.at_ }
  else if e.kind = 5 then { x with how := 5 }
  else if e.kind = 6 then { x with how := 6 }
  else x
/-- The reference's day behind an event. -/
def doR (d : DayR) (e : Ev) : DayR :=
  { rides := let r := if e.kind = 8 then (fun k => (d.rides k).map (freed e.car)) else d.rides
             if e.ride = eB then r else updF r e.ride (rideR ((d.rides e.ride).getD st0) e),
    cars := if e.car = eB then d.cars else updF d.cars e.car (if e.node = eB then (d.cars e.car).getD (eB, 0) else (e.node, e.at_)),
    broken := if e.kind = 8 then updF d.broken e.car true else d.broken }

/-- The two days say the same. -/
structure Sim (p : DayP) (r : DayR) : Prop where
  rides : ∀ k, p.rides k = r.rides k
  cars : ∀ k, (p.cars k).map (fun c => (c.node, c.at_)) = r.cars k
  broken : ∀ k, brokenP p k = brokenR r k
  key : ∀ k s, r.rides k = some s → s.ride = k
  on : ∀ k c id, p.cars k = some c → (c.on id = some true ∨ c.on id = none) ∧ (c.on id = some true ↔ ∃ s, r.rides id = some s ∧ s.how = 3 ∧ s.car = k)
  onc : ∀ id s, r.rides id = some s → s.how = 2 ∨ s.how = 3 → (p.cars s.car).isSome = true
theorem sim0 : Sim dayP0 dayR0 := ⟨fun _ => rfl, fun _ => rfl, fun _ => rfl, fun _ _ h => (by cases h), fun _ _ _ h => (by cases h), fun _ _ h => (by cases h)⟩
theorem key_ne {s : ByteArray} (h : keyB s = true) : s ≠ eB := by
  intro e; subst e; revert h; decide
/-- What is known of a right event. -/
theorem evF_zero {x : Ev} (h : evF x = 0) : keyB x.source = true ∧ (1 ≤ x.no ∧ x.no ≤ 3000) ∧ (0 ≤ x.at_ ∧ x.at_ ≤ 345686399999) ∧ (1 ≤ x.kind ∧ x.kind ≤ 9) ∧ (uRide x.kind = true → keyB x.ride = true) ∧ (uCar x.kind = true → keyB x.car = true) ∧ (uNode x.kind = true → keyB x.node = true) ∧
    (uUndo x.kind = true → keyB x.from_ = true) ∧ (uRide x.kind = false → x.ride = eB) ∧ (uCar x.kind = false → x.car = eB) ∧ (uNode x.kind = false → x.node = eB) ∧ (uBook x.kind = true → (x.at_ ≤ x.up ∧ x.up ≤ 345686399999) ∧ (x.up ≤ x.down ∧ x.down ≤ 345686399999)) ∧
    (uUndo x.kind = true → 1 ≤ x.number ∧ x.number ≤ 3000) ∧ (uBook x.kind = false → x.up = 0 ∧ x.down = 0) ∧ (uUndo x.kind = false → x.from_ = eB ∧ x.number = 0) := by
  unfold evF at h
  split at h
  · cases h
  rename_i h1
  split at h
  · cases h
  rename_i h2
  split at h
  · cases h
  rename_i h3
  split at h
  · cases h
  rename_i h4
  split at h
  · cases h
  rename_i h5
  split at h
  · cases h
  rename_i h6
  have h6 : x = leanE x := by simpa using h6
  simp only [Bool.or_eq_true, Bool.and_eq_true, Bool.not_eq_true', not_or, Bool.not_eq_true, outB_false] at h1 h2 h3 h4 h5
  simp only [not_and, Bool.not_eq_false, Bool.not_eq_true, outB_false] at h4 h5
  have e1 : x.ride = (leanE x).ride := by rw [← h6]
  have e2 : x.car = (leanE x).car := by rw [← h6]
  have e3 : x.node = (leanE x).node := by rw [← h6]
  have e4 : x.up = (leanE x).up := by rw [← h6]
  have e5 : x.down = (leanE x).down := by rw [← h6]
  have e6 : x.from_ = (leanE x).from_ := by rw [← h6]
  have e7 : x.number = (leanE x).number := by rw [← h6]
  unfold leanE at e1 e2 e3 e4 e5 e6 e7
  simp only at e1 e2 e3 e4 e5 e6 e7
  refine ⟨by simpa using h1, h2.1, ?_, h3, h4.1.1.1, h4.1.1.2, h4.1.2, h4.2, ?_, ?_, ?_, ?_, h5.2, ?_, ?_⟩
  · have := h2.2; simpa [momB_true] using this
  · intro u; rw [u] at e1; simpa using e1
  · intro u; rw [u] at e2; simpa using e2
  · intro u; rw [u] at e3; simpa using e3
  · intro u; have := h5.1 u; simpa [outB_false, lastMo] using this
  · intro u; rw [u] at e4 e5; simp at e4 e5; exact ⟨e4, e5⟩
  · intro u; rw [u] at e6 e7; simp at e6 e7; exact ⟨e6, e7⟩
theorem carP_cars {p : DayP} {r : DayR} (hs : Sim p r) (k : ByteArray) : ((carP p k).node, (carP p k).at_) = (r.cars k).getD (eB, 0) := by
  rw [← hs.cars k]
  unfold carP
  cases p.cars k <;> rfl
/-- No ride is on board of a car that is not told of. -/
theorem carP_on {p : DayP} {r : DayR} (hs : Sim p r) (k id : ByteArray) : ((carP p k).on id = some true ∨ (carP p k).on id = none) ∧ ((carP p k).on id = some true ↔ ∃ s, r.rides id = some s ∧ s.how = 3 ∧ s.car = k) := by
  unfold carP
  cases hc : p.cars k with
  | some c => exact hs.on k c id hc
  | none =>
    refine ⟨.inr rfl, ⟨fun h => (by cases h), ?_⟩⟩
    rintro ⟨s, h1, h2, h3⟩
    have := hs.onc id s h1 (.inr h2)
    rw [h3, hc] at this; cases this
/-- A ride is booked, or leaves; no car is told of. -/
theorem sim_ride {p : DayP} {r : DayR} (hs : Sim p r) {id : ByteArray} {s' : St} (hid : s'.ride = id) (h2 : s'.how ≠ 2) (h3 : s'.how ≠ 3) (ho : ∀ s, r.rides id = some s → s.how ≠ 3) :
    Sim (setR p id s') { r with rides := updF r.rides id s' } where
  rides k := by
    show updF p.rides id s' k = updF r.rides id s' k
    unfold updF; split
    · rfl
    · exact hs.rides k
  cars := hs.cars
  broken := hs.broken
  key k s h := by
    have h : updF r.rides id s' k = some s := h
    by_cases e : k = id
    · subst e
      rw [updF_same] at h
      injection h with h; subst h; exact hid
    · rw [updF_other _ _ e] at h
      exact hs.key k s h
  on k c i hc := by
    have h0 := hs.on k c i hc
    show _ ∧ (_ ↔ ∃ s, updF r.rides id s' i = some s ∧ _)
    by_cases e : i = id
    · subst e
      refine ⟨h0.1, ?_⟩
      rw [updF_same]
      constructor
      · intro h; obtain ⟨s, a, b, _⟩ := h0.2.1 h; exact absurd b (ho s a)
      · rintro ⟨s, a, b, _⟩; injection a with a; subst a; exact absurd b h3
    · rw [updF_other _ _ e]
      exact h0
  onc i s h hw := by
    have h : updF r.rides id s' i = some s := h
    by_cases e : i = id
    · subst e
      rw [updF_same] at h
      injection h with h; subst h
      rcases hw with hw | hw
      · exact absurd hw h2
      · exact absurd hw h3
    · rw [updF_other _ _ e] at h
      exact hs.onc i s h hw
/-- A ride and a car. -/
theorem sim_both {p : DayP} {r : DayR} (hs : Sim p r) {id kc : ByteArray} {s' : St} {c' : Crew} (hid : s'.ride = id) (hb : c'.broken = (carP p kc).broken) (h3 : s'.how = 2 ∨ s'.how = 3 → s'.car = kc)
    (hoth : ∀ i, i ≠ id → c'.on i = (carP p kc).on i) (ht : c'.on id = some true ∨ c'.on id = none) (ht2 : c'.on id = some true ↔ s'.how = 3) (hk3 : s'.how = 3 → s'.car = kc)
    (ho : ∀ s, r.rides id = some s → s.how = 3 → s.car = kc) :
    Sim (setC (setR p id s') kc c') { rides := updF r.rides id s', cars := updF r.cars kc (c'.node, c'.at_), broken := r.broken } where
  rides k := by
    show updF p.rides id s' k = updF r.rides id s' k
    unfold updF; split
    · rfl
    · exact hs.rides k
  cars k := by
    show (updF p.cars kc c' k).map _ = updF r.cars kc _ k
    unfold updF; split
    · rfl
    · exact hs.cars k
  broken k := by
    have h := hs.broken k
    show ((updF p.cars kc c' k).getD crew0).broken = brokenR r k
    by_cases e : k = kc
    · subst e
      rw [updF_same, ← h]; exact hb
    · rw [updF_other _ _ e]; exact h
  key k s h := by
    have h : updF r.rides id s' k = some s := h
    by_cases e : k = id
    · subst e
      rw [updF_same] at h
      injection h with h; subst h; exact hid
    · rw [updF_other _ _ e] at h
      exact hs.key k s h
  on k c i hc := by
    have hc : updF p.cars kc c' k = some c := hc
    show _ ∧ (_ ↔ ∃ s, updF r.rides id s' i = some s ∧ _)
    by_cases ek : k = kc
    · subst ek
      rw [updF_same] at hc
      injection hc with hc; subst hc
      by_cases e : i = id
      · subst e
        refine ⟨ht, ?_⟩
        rw [updF_same, ht2]
        constructor
        · intro h; exact ⟨s', rfl, h, hk3 h⟩
        · rintro ⟨s, a, b, _⟩; injection a with a; subst a; exact b
      · rw [updF_other _ _ e, hoth i e]
        exact carP_on hs k i
    · rw [updF_other _ _ ek] at hc
      have h0 := hs.on k c i hc
      by_cases e : i = id
      · subst e
        refine ⟨h0.1, ?_⟩
        rw [updF_same]
        constructor
        · intro h; obtain ⟨s, a, b, d⟩ := h0.2.1 h; exact absurd ((d.symm.trans (ho s a b))) ek
        · rintro ⟨s, a, b, d⟩; injection a with a; subst a; exact absurd (d.symm.trans (hk3 b)) ek
      · rw [updF_other _ _ e]; exact h0
  onc i s h hw := by
    have h : updF r.rides id s' i = some s := h
    show (updF p.cars kc c' s.car).isSome = true
    by_cases ek : s.car = kc
    · rw [ek, updF_same]; rfl
    · rw [updF_other _ _ ek]
      by_cases e : i = id
      · subst e
        rw [updF_same] at h
        injection h with h; subst h
        exact absurd (h3 hw) ek
      · rw [updF_other _ _ e] at h
        exact hs.onc i s h hw
/-- A car alone. -/
theorem sim_car {p : DayP} {r : DayR} (hs : Sim p r) {kc : ByteArray} {c' : Crew} (hb : c'.broken = (carP p kc).broken) (ho : ∀ i, c'.on i = (carP p kc).on i) :
    Sim (setC p kc c') { r with cars := updF r.cars kc (c'.node, c'.at_) } where
  rides := hs.rides
  cars k := by
    show (updF p.cars kc c' k).map _ = updF r.cars kc _ k
    unfold updF; split
    · rfl
    · exact hs.cars k
  broken k := by
    have h := hs.broken k
    show ((updF p.cars kc c' k).getD crew0).broken = brokenR r k
    by_cases e : k = kc
    · subst e
      rw [updF_same, ← h]; exact hb
    · rw [updF_other _ _ e]; exact h
  key := hs.key
  on k c i hc := by
    have hc : updF p.cars kc c' k = some c := hc
    by_cases ek : k = kc
    · subst ek
      rw [updF_same] at hc
      injection hc with hc; subst hc
      rw [ho i]; exact carP_on hs k i
    · rw [updF_other _ _ ek] at hc; exact hs.on k c i hc
  onc i s h hw := by
    show (updF p.cars kc c' s.car).isSome = true
    by_cases ek : s.car = kc
    · rw [ek, updF_same]; rfl
    · rw [updF_other _ _ ek]; exact hs.onc i s h hw
theorem freed_on (c : ByteArray) (s : St) : ((freed c s).how = 3 ↔ s.how = 3) ∧ (s.how = 3 → (freed c s).car = s.car) ∧ (freed c s).ride = s.ride ∧ ((freed c s).how = 2 → s.how = 2 ∧ (freed c s).car = s.car) := by
  unfold freed
  split
  · rename_i h; simp [h.1]
  · exact ⟨Iff.rfl, fun _ => rfl, rfl, fun h => ⟨h, rfl⟩⟩
/-- A car breaks. -/
theorem sim_breaks {p : DayP} {r : DayR} (hs : Sim p r) (kc : ByteArray) :
    Sim ⟨fun k => (p.rides k).map (freed kc), updF p.cars kc { carP p kc with broken := true }⟩ { rides := fun k => (r.rides k).map (freed kc), cars := updF r.cars kc ((r.cars kc).getD (eB, 0)), broken := updF r.broken kc true } where
  rides k := by show (p.rides k).map _ = (r.rides k).map _; rw [hs.rides k]
  cars k := by
    show (updF p.cars kc { carP p kc with broken := true } k).map _ = updF r.cars kc _ k
    by_cases e : k = kc
    · subst e
      rw [updF_same, updF_same, ← carP_cars hs k]; rfl
    · rw [updF_other _ _ e, updF_other _ _ e]; exact hs.cars k
  broken k := by
    have h := hs.broken k
    show ((updF p.cars kc _ k).getD crew0).broken = (updF r.broken kc true k).getD false
    by_cases e : k = kc
    · subst e
      rw [updF_same, updF_same]; rfl
    · rw [updF_other _ _ e, updF_other _ _ e]; exact h
  key k s h := by
    have h : (r.rides k).map (freed kc) = some s := h
    cases hr : r.rides k with
    | none => rw [hr] at h; cases h
    | some s0 =>
      rw [hr] at h; injection h with h; subst h
      rw [(freed_on kc s0).2.2.1]; exact hs.key k s0 hr
  on k c i hc := by
    have hc : updF p.cars kc { carP p kc with broken := true } k = some c := hc
    show _ ∧ (_ ↔ ∃ s, (r.rides i).map (freed kc) = some s ∧ _)
    have hcon : c.on i = (carP p k).on i := by
      by_cases ek : k = kc
      · subst ek
        rw [updF_same] at hc
        injection hc with hc; subst hc; rfl
      · rw [updF_other _ _ ek] at hc
        unfold carP; rw [hc]; rfl
    rw [hcon]
    have h0 := carP_on hs k i
    refine ⟨h0.1, ?_⟩
    rw [h0.2]
    constructor
    · rintro ⟨s, a, b, d⟩
      exact ⟨freed kc s, by rw [a]; rfl, (freed_on kc s).1.2 b, by rw [(freed_on kc s).2.1 b]; exact d⟩
    · rintro ⟨s, a, b, d⟩
      cases hr : r.rides i with
      | none => rw [hr] at a; cases a
      | some s0 =>
        rw [hr] at a; injection a with a; subst a
        have b0 := (freed_on kc s0).1.1 b
        exact ⟨s0, rfl, b0, by rw [← (freed_on kc s0).2.1 b0]; exact d⟩
  onc i s h hw := by
    have h : (r.rides i).map (freed kc) = some s := h
    show (updF p.cars kc _ s.car).isSome = true
    by_cases ek : s.car = kc
    · rw [ek, updF_same]; rfl
    · rw [updF_other _ _ ek]
      cases hr : r.rides i with
      | none => rw [hr] at h; cases h
      | some s0 =>
        rw [hr] at h; injection h with h; subst h
        rcases hw with hw | hw
        · obtain ⟨a, b⟩ := (freed_on kc s0).2.2.2 hw
          rw [b]; exact hs.onc i s0 hr (.inl a)
        · have a := (freed_on kc s0).1.1 hw
          rw [(freed_on kc s0).2.1 a]; exact hs.onc i s0 hr (.inr a)
/-- A step of the program's day is a step of the reference's. -/
theorem step_sim {p : DayP} {r : DayR} {x : Ev} (hx : evF x = 0) (h9 : x.kind ≠ 9) (hs : Sim p r) :
    (stepP p x).2 = whyR r x ∧ Sim (stepP p x).1 (if whyR r x = 0 then doR r x else r) := by
  obtain ⟨_, _, _, ⟨hk1, hk9⟩, kr, kc, kn, _, nr, nc, nn, _, _, _, _⟩ := evF_zero hx
  have hk : x.kind = 1 ∨ x.kind = 2 ∨ x.kind = 3 ∨ x.kind = 4 ∨ x.kind = 5 ∨ x.kind = 6 ∨ x.kind = 7 ∨ x.kind = 8 := by omega
  have hB : brokenP p x.car = brokenR r x.car := hs.broken _
  rcases hk with hk | hk | hk | hk | hk | hk | hk | hk
  · have er : x.ride ≠ eB := key_ne (kr (by rw [hk]; rfl))
    have ec : x.car = eB := nc (by rw [hk]; rfl)
    cases hr : r.rides x.ride with
    | some s =>
      have hw : whyR r x = 6 := by simp [whyR, hk, hr]
      have hst : stepP p x = (p, 6) := by simp [stepP, hk, hs.rides, hr]
      rw [hw, hst]; exact ⟨rfl, hs⟩
    | none =>
      have hw : whyR r x = 0 := by simp [whyR, hk, hr, mustR]
      have hst : stepP p x = (setR p x.ride ⟨x.ride, eB, 1, x.up, x.down, 0, 0⟩, 0) := by simp [stepP, hk, hs.rides, hr]
      rw [hw, hst, if_pos rfl]
      refine ⟨rfl, ?_⟩
      have := sim_ride hs (id := x.ride) (s' := ⟨x.ride, eB, 1, x.up, x.down, 0, 0⟩) rfl (by simp) (by simp) (by rw [hr]; simp)
      rw [show doR r x = { r with rides := updF r.rides x.ride ⟨x.ride, eB, 1, x.up, x.down, 0, 0⟩ } by simp [doR, hk, er, ec, rideR]]
      exact this
  · have er : x.ride ≠ eB := key_ne (kr (by rw [hk]; rfl))
    have ec : x.car ≠ eB := key_ne (kc (by rw [hk]; rfl))
    have en : x.node = eB := nn (by rw [hk]; rfl)
    cases hr : r.rides x.ride with
    | none =>
      have hw : whyR r x = 8 := by simp [whyR, hk, hr, uRide]
      have hst : stepP p x = (p, 8) := by simp [stepP, hk, hs.rides, hr]
      rw [hw, hst]; exact ⟨rfl, hs⟩
    | some s =>
      by_cases h1 : s.how = 1 ∨ s.how = 2
      · cases hb : brokenR r x.car with
        | true =>
          have hw : whyR r x = 16 := by simp [whyR, hk, hr, mustR, hb, h1]
          have hst : stepP p x = (p, 16) := by simp [stepP, hk, hs.rides, hr, rideP, hB, hb, h1]
          rw [hw, hst]; exact ⟨rfl, hs⟩
        | false =>
          have hw : whyR r x = 0 := by simp [whyR, hk, hr, mustR, hb, h1]
          have hst : stepP p x = (setC (setR p x.ride { s with how := 2, car := x.car }) x.car (carP p x.car), 0) := by simp [stepP, hk, hs.rides, hr, rideP, hB, hb, h1]
          rw [hw, hst, if_pos rfl]
          refine ⟨rfl, ?_⟩
          have hno : (carP p x.car).on x.ride ≠ some true := by
            intro h
            obtain ⟨s2, a, b, _⟩ := (carP_on hs x.car x.ride).2.1 h
            rw [hr] at a; injection a with a; subst a; omega
          have := sim_both hs (id := x.ride) (kc := x.car) (s' := { s with how := 2, car := x.car }) (c' := carP p x.car) (show s.ride = x.ride from hs.key _ _ hr) rfl (fun _ => rfl) (fun _ _ => rfl) (carP_on hs _ _).1 ⟨fun h => absurd h hno, fun h => (by simp at h)⟩ (fun _ => rfl) (by intro s2 a b; rw [hr] at a; injection a with a; subst a; omega)
          rw [show doR r x = { rides := updF r.rides x.ride { s with how := 2, car := x.car }, cars := updF r.cars x.car ((carP p x.car).node, (carP p x.car).at_), broken := r.broken } by simp [doR, hk, er, ec, en, rideR, hr, carP_cars hs]]
          exact this
      · have hw : whyR r x = 11 := by simp [whyR, hk, hr, uRide]; omega
        have hst : stepP p x = (p, 11) := by simp [stepP, hk, hs.rides, hr, rideP]; omega
        rw [hw, hst]; exact ⟨rfl, hs⟩
  · have er : x.ride ≠ eB := key_ne (kr (by rw [hk]; rfl))
    have ec : x.car ≠ eB := key_ne (kc (by rw [hk]; rfl))
    have en : x.node ≠ eB := key_ne (kn (by rw [hk]; rfl))
    cases hr : r.rides x.ride with
    | none =>
      have hw : whyR r x = 8 := by simp [whyR, hk, hr, uRide]
      have hst : stepP p x = (p, 8) := by simp [stepP, hk, hs.rides, hr]
      rw [hw, hst]; exact ⟨rfl, hs⟩
    | some s =>
      by_cases h1 : s.how = 2
      · by_cases h2 : s.car = x.car
        · cases hb : brokenR r x.car with
          | true =>
            have hw : whyR r x = 16 := by simp [whyR, hk, hr, mustR, hb, h1, h2]
            have hst : stepP p x = (p, 16) := by simp [stepP, hk, hs.rides, hr, rideP, hB, hb, h1, h2]
            rw [hw, hst]; exact ⟨rfl, hs⟩
          | false =>
            have hw : whyR r x = 0 := by simp [whyR, hk, hr, mustR, hb, h1, h2]
            have hst : stepP p x = (setC (setR p x.ride { s with how := 3, on := x.at_ }) x.car { carP p x.car with node := x.node, at_ := x.at_, on := updF (carP p x.car).on x.ride true }, 0) := by simp [stepP, hk, hs.rides, hr, rideP, hB, hb, h1, h2]
            rw [hw, hst, if_pos rfl]
            refine ⟨rfl, ?_⟩
            have := sim_both hs (id := x.ride) (kc := x.car) (s' := { s with how := 3, on := x.at_ }) (c' := { carP p x.car with node := x.node, at_ := x.at_, on := updF (carP p x.car).on x.ride true }) (show s.ride = x.ride from hs.key _ _ hr) rfl (fun _ => h2) (fun i hi => updF_other _ _ hi) (.inl (updF_same _ _ _)) ⟨fun _ => rfl, fun _ => updF_same _ _ _⟩ (fun _ => h2) (by intro s2 a b; rw [hr] at a; injection a with a; subst a; omega)
            rw [show doR r x = { rides := updF r.rides x.ride { s with how := 3, on := x.at_ }, cars := updF r.cars x.car (x.node, x.at_), broken := r.broken } by simp [doR, hk, er, ec, en, rideR, hr]]
            exact this
        · have hw : whyR r x = 13 := by simp [whyR, hk, hr, mustR, h1, h2]
          have hst : stepP p x = (p, 13) := by simp [stepP, hk, hs.rides, hr, rideP, h1, h2]
          rw [hw, hst]; exact ⟨rfl, hs⟩
      · have hw : whyR r x = 11 := by simp [whyR, hk, hr, uRide, mustR, h1]
        have hst : stepP p x = (p, 11) := by simp [stepP, hk, hs.rides, hr, rideP, h1]
        rw [hw, hst]; exact ⟨rfl, hs⟩
  · have er : x.ride ≠ eB := key_ne (kr (by rw [hk]; rfl))
    have ec : x.car ≠ eB := key_ne (kc (by rw [hk]; rfl))
    have en : x.node ≠ eB := key_ne (kn (by rw [hk]; rfl))
    cases hr : r.rides x.ride with
    | none =>
      have hw : whyR r x = 8 := by simp [whyR, hk, hr, uRide]
      have hst : stepP p x = (p, 8) := by simp [stepP, hk, hs.rides, hr]
      rw [hw, hst]; exact ⟨rfl, hs⟩
    | some s =>
      by_cases h1 : s.how = 3
      · by_cases h2 : s.car = x.car
        · have hw : whyR r x = 0 := by simp [whyR, hk, hr, mustR, h1, h2]
          have hst : stepP p x = (setC (setR p x.ride { s with how := 4, off := x.at_ }) x.car { carP p x.car with node := x.node, at_ := x.at_, on := fun id => if id = x.ride then none else (carP p x.car).on id }, 0) := by simp [stepP, hk, hs.rides, hr, rideP, h1, h2]
          rw [hw, hst, if_pos rfl]
          refine ⟨rfl, ?_⟩
          have := sim_both hs (id := x.ride) (kc := x.car) (s' := { s with how := 4, off := x.at_ }) (c' := { carP p x.car with node := x.node, at_ := x.at_, on := fun id => if id = x.ride then none else (carP p x.car).on id }) (show s.ride = x.ride from hs.key _ _ hr) rfl (fun _ => h2) (fun i hi => if_neg hi) (.inr (if_pos rfl)) ⟨fun h => (by simp at h), fun h => (by simp at h)⟩ (fun h => (by simp at h)) (by intro s2 a b; rw [hr] at a; injection a with a; subst a; exact h2)
          rw [show doR r x = { rides := updF r.rides x.ride { s with how := 4, off := x.at_ }, cars := updF r.cars x.car (x.node, x.at_), broken := r.broken } by simp [doR, hk, er, ec, en, rideR, hr]]
          exact this
        · have hw : whyR r x = 13 := by simp [whyR, hk, hr, mustR, h1, h2]
          have hst : stepP p x = (p, 13) := by simp [stepP, hk, hs.rides, hr, rideP, h1, h2]
          rw [hw, hst]; exact ⟨rfl, hs⟩
      · have hw : whyR r x = 11 := by simp [whyR, hk, hr, uRide, mustR, h1]
        have hst : stepP p x = (p, 11) := by simp [stepP, hk, hs.rides, hr, rideP, h1]
        rw [hw, hst]; exact ⟨rfl, hs⟩
  · have er : x.ride ≠ eB := key_ne (kr (by rw [hk]; rfl))
    have ec : x.car = eB := nc (by rw [hk]; rfl)
    cases hr : r.rides x.ride with
    | none =>
      have hw : whyR r x = 8 := by simp [whyR, hk, hr, uRide]
      have hst : stepP p x = (p, 8) := by simp [stepP, hk, hs.rides, hr]
      rw [hw, hst]; exact ⟨rfl, hs⟩
    | some s =>
      by_cases h1 : s.how = 1 ∨ s.how = 2
      · have hw : whyR r x = 0 := by simp [whyR, hk, hr, mustR, h1]
        have hst : stepP p x = (setR p x.ride { s with how := 5 }, 0) := by simp [stepP, hk, hs.rides, hr, rideP, h1]
        rw [hw, hst, if_pos rfl]
        refine ⟨rfl, ?_⟩
        have := sim_ride hs (id := x.ride) (s' := { s with how := 5 }) (show s.ride = x.ride from hs.key _ _ hr) (by simp) (by simp) (by intro s2 a; rw [hr] at a; injection a with a; subst a; omega)
        rw [show doR r x = { r with rides := updF r.rides x.ride { s with how := 5 } } by simp [doR, hk, er, ec, rideR, hr]]
        exact this
      · have hw : whyR r x = 11 := by simp [whyR, hk, hr, uRide]; omega
        have hst : stepP p x = (p, 11) := by simp [stepP, hk, hs.rides, hr, rideP]; omega
        rw [hw, hst]; exact ⟨rfl, hs⟩
  · have er : x.ride ≠ eB := key_ne (kr (by rw [hk]; rfl))
    have ec : x.car = eB := nc (by rw [hk]; rfl)
    cases hr : r.rides x.ride with
    | none =>
      have hw : whyR r x = 8 := by simp [whyR, hk, hr, uRide]
      have hst : stepP p x = (p, 8) := by simp [stepP, hk, hs.rides, hr]
      rw [hw, hst]; exact ⟨rfl, hs⟩
    | some s =>
      by_cases h1 : s.how = 2
      · have hw : whyR r x = 0 := by simp [whyR, hk, hr, mustR, h1]
        have hst : stepP p x = (setR p x.ride { s with how := 6 }, 0) := by simp [stepP, hk, hs.rides, hr, rideP, h1]
        rw [hw, hst, if_pos rfl]
        refine ⟨rfl, ?_⟩
        have := sim_ride hs (id := x.ride) (s' := { s with how := 6 }) (show s.ride = x.ride from hs.key _ _ hr) (by simp) (by simp) (by intro s2 a; rw [hr] at a; injection a with a; subst a; omega)
        rw [show doR r x = { r with rides := updF r.rides x.ride { s with how := 6 } } by simp [doR, hk, er, ec, rideR, hr]]
        exact this
      · have hw : whyR r x = 11 := by simp [whyR, hk, hr, uRide, mustR, h1]
        have hst : stepP p x = (p, 11) := by simp [stepP, hk, hs.rides, hr, rideP, h1]
        rw [hw, hst]; exact ⟨rfl, hs⟩
  · have er : x.ride = eB := nr (by rw [hk]; rfl)
    have ec : x.car ≠ eB := key_ne (kc (by rw [hk]; rfl))
    have en : x.node ≠ eB := key_ne (kn (by rw [hk]; rfl))
    cases hb : brokenR r x.car with
    | true =>
      have hw : whyR r x = 16 := by simp [whyR, hk, mustR, hb, uRide]
      have hst : stepP p x = (p, 16) := by simp [stepP, hk, hB, hb]
      rw [hw, hst]; exact ⟨rfl, hs⟩
    | false =>
      have hw : whyR r x = 0 := by simp [whyR, hk, mustR, hb, uRide]
      have hst : stepP p x = (wasP p x, 0) := by simp [stepP, hk, hB, hb]
      rw [hw, hst, if_pos rfl]
      refine ⟨rfl, ?_⟩
      have := sim_car hs (kc := x.car) (c' := { carP p x.car with node := x.node, at_ := x.at_ }) rfl (fun _ => rfl)
      rw [show doR r x = { r with cars := updF r.cars x.car (x.node, x.at_) } by simp [doR, hk, er, ec, en]]
      exact this
  · have er : x.ride = eB := nr (by rw [hk]; rfl)
    have ec : x.car ≠ eB := key_ne (kc (by rw [hk]; rfl))
    have en : x.node = eB := nn (by rw [hk]; rfl)
    cases hb : brokenR r x.car with
    | true =>
      have hw : whyR r x = 6 := by simp [whyR, hk, hb]
      have hst : stepP p x = (p, 6) := by simp [stepP, hk, breaksP, hB, hb]
      rw [hw, hst]; exact ⟨rfl, hs⟩
    | false =>
      have hw : whyR r x = 0 := by simp [whyR, hk, mustR, hb, uRide]
      have hst : stepP p x = (⟨fun k => (p.rides k).map (freed x.car), updF p.cars x.car { carP p x.car with broken := true }⟩, 0) := by simp [stepP, hk, breaksP, hB, hb]
      rw [hw, hst, if_pos rfl]
      refine ⟨rfl, ?_⟩
      have := sim_breaks hs x.car
      rw [show doR r x = { rides := fun k => (r.rides k).map (freed x.car), cars := updF r.cars x.car ((r.cars x.car).getD (eB, 0)), broken := updF r.broken x.car true } by simp [doR, hk, er, ec, en]]
      exact this
end Go.Proofs.YtfkmbeppckelfaaGreatDoor
/- Words for memory, of no program: a slice that reads as a list of elements of K cells, the stream's object, worlds that only grow. -/
namespace Go.Proofs.YtfkmbeppckelfaaGreatDoor
open Go.RowKit

theorem hide {p : Prop} (h : p) : Hid p := h

/-- Nothing that was there has turned. -/
def Nx (w w' : World) : Prop := Below w.heap.size w w'
theorem Nx.refl (w : World) : Nx w w := Below.refl _ _
theorem Nx.trans {a b c : World} (h : Nx a b) (k : Nx b c) : Nx a c := Below.trans h (Below.mono k h.size)
theorem Nx.drew {a w : World} (h : Nx a w) : Nx a w.drew := Below.drew h
theorem Nx.drewN {a w : World} (h : Nx a w) (n : Nat) : Nx a (w.drewN n) := below_drewN h n
theorem Nx.alloc {a w : World} (h : Nx a w) (o : Obj) : Nx a (w.alloc o) := Below.alloc h h.size o
theorem Nx.setCell {a w : World} (h : Nx a w) {p : Addr} (hp : a.heap.size ≤ p.block) (u : Value) : Nx a (w.setCell p u) := Below.setCell h hp u
theorem Nx.sz {a w : World} (h : Nx a w) : a.heap.size ≤ w.heap.size := h.size
theorem Nx.grown {a w w' : World} {row : Option Nat} (h : Nx a w) (hg : w.grownBy w' row) (hr : ∀ k, row = some k → a.heap.size ≤ k) : Nx a w' := Below.grown h hg h.size hr
theorem Nx.gr {a w : World} (h : Nx a w) (row : Option Nat) : a.grownBy w row := ⟨h.os, h.tape, h.output, h.size, fun i hi _ => h.block i hi⟩

/-- Only block s, and what is new, has turned. -/
def Gr (s : Nat) (a w : World) : Prop := a.grownBy w (some s)
theorem Gr.refl (s : Nat) (w : World) : Gr s w w := World.grownBy.refl w _
theorem Gr.of_nx {s : Nat} {a w : World} (h : Nx a w) : Gr s a w := h.gr _
theorem Gr.sz {s : Nat} {a w : World} (h : Gr s a w) : a.heap.size ≤ w.heap.size := World.grownBy.size h
theorem Gr.trans {s : Nat} {a b c : World} (h : Gr s a b) (k : Gr s b c) : Gr s a c :=
  ⟨k.os.trans h.os, k.tape.trans h.tape, k.output.trans h.output, Nat.le_trans h.size k.size, fun i hi hn => (k.block i (Nat.lt_of_lt_of_le hi h.size) hn).trans (h.block i hi hn)⟩
theorem Gr.then_nx {s : Nat} {a b c : World} (h : Gr s a b) (k : Nx b c) : Gr s a c := h.trans (Gr.of_nx k)
theorem Gr.drew {s : Nat} {a w : World} (h : Gr s a w) : Gr s a w.drew := h.then_nx (Nx.refl _).drew
theorem Gr.drewN {s : Nat} {a w : World} (h : Gr s a w) (n : Nat) : Gr s a (w.drewN n) := h.then_nx ((Nx.refl _).drewN n)
theorem Gr.alloc {s : Nat} {a w : World} (h : Gr s a w) (o : Obj) : Gr s a (w.alloc o) := h.then_nx ((Nx.refl _).alloc o)
theorem Gr.setS {s : Nat} {a w : World} (h : Gr s a w) {p : Addr} (hp : p.block = s ∨ a.heap.size ≤ p.block) (u : Value) : Gr s a (w.setCell p u) :=
  ⟨h.os, h.tape, h.output, by have := h.sz; simpa [World.setCell] using this, fun i hi hne => (Below.heap_setCell w p u i (by
    rintro rfl
    rcases hp with hp | hp
    · exact hne (by rw [hp])
    · omega)).trans (h.block i hi hne)⟩
theorem Gr.grown {s : Nat} {a w w' : World} {row : Option Nat} (h : Gr s a w) (hg : w.grownBy w' row) (hr : ∀ k, row = some k → k = s ∨ a.heap.size ≤ k) : Gr s a w' :=
  ⟨hg.os.trans h.os, hg.tape.trans h.tape, hg.output.trans h.output, Nat.le_trans h.size hg.size, fun i hi hne => (hg.block i (Nat.lt_of_lt_of_le hi h.size) (fun e => by
    rcases hr i e.symm with h1 | h1
    · exact hne (by rw [h1])
    · omega)).trans (h.block i hi hne)⟩
theorem Nx.of_gr {s : Nat} {a w : World} (h : Gr s a w) (hs : a.heap.size ≤ s) : Nx a w :=
  ⟨h.os, h.tape, h.output, h.size, fun i hi => h.block i hi (by intro e; injection e with e; omega)⟩

/-- A slice's value with address A reads as xs, each element K cells; its block lies from lo on. -/
def Rd {α : Type} (w : World) (lo : Nat) (A : Option Addr) (K : Nat) (enc : α → List Value) (xs : List α) : Prop :=
  0 < xs.length → ∃ b off, A = some ⟨b, off, none⟩ ∧ lo ≤ b ∧ b < w.heap.size ∧ ∀ i x, xs[i]? = some x → ∀ j u, (enc x)[j]? = some u → w.cell? ⟨b, off + i * K + j, none⟩ = some u
section
variable {α : Type} {w w' : World} {lo lo' K : Nat} {A : Option Addr} {enc : α → List Value} {xs : List α}
theorem Rd.nil : Rd w lo A K enc ([] : List α) := fun h => absurd h (by simp)
theorem Rd.nx (h : Rd w lo A K enc xs) (hn : Nx w w') : Rd w' lo A K enc xs := fun hp => by
  obtain ⟨b, off, e, hl, hb, hc⟩ := h hp
  exact ⟨b, off, e, hl, Nat.lt_of_lt_of_le hb hn.sz, fun i x hx j u hu => (Below.cell hn (p := ⟨b, _, none⟩) hb).trans (hc i x hx j u hu)⟩
theorem Rd.gr {s : Nat} (h : Rd w lo A K enc xs) (hn : Gr s w w') (hs : s < lo) : Rd w' lo A K enc xs := fun hp => by
  obtain ⟨b, off, e, hl, hb, hc⟩ := h hp
  exact ⟨b, off, e, hl, Nat.lt_of_lt_of_le hb hn.sz, fun i x hx j u hu => World.grownBy.cell (row := some s) hn (hc i x hx j u hu) (by simp; omega)⟩
theorem Rd.low (h : Rd w lo A K enc xs) (hl : lo' ≤ lo) : Rd w lo' A K enc xs := fun hp => by
  obtain ⟨b, off, e, h1, hb, hc⟩ := h hp
  exact ⟨b, off, e, Nat.le_trans hl h1, hb, hc⟩
/-- For a loop: the block and all the cells, in the round's world. -/
theorem Rd.open_ (h : Rd w lo A K enc xs) (hn : Nx w w') (hp : 0 < xs.length) : ∃ b off, A = some ⟨b, off, none⟩ ∧ lo ≤ b ∧ b < w.heap.size ∧ b < w'.heap.size ∧ ∀ i (hi : i < xs.length) j u, (enc xs[i])[j]? = some u → w'.cell? ⟨b, off + i * K + j, none⟩ = some u := by
  obtain ⟨b, off, e, hl, hb, hc⟩ := h hp
  exact ⟨b, off, e, hl, hb, Nat.lt_of_lt_of_le hb hn.sz, fun i hi j u hu => (Below.cell hn (p := ⟨b, _, none⟩) hb).trans (hc i _ (List.getElem?_eq_getElem hi) j u hu)⟩
theorem flat_get (hk : ∀ x, (enc x).length = K) (i : Nat) (x : α) (hx : xs[i]? = some x) (j : Nat) (u : Value) (hu : (enc x)[j]? = some u) : (xs.flatMap enc)[i * K + j]? = some u := by
  induction xs generalizing i with
  | nil => simp at hx
  | cons y ys ih =>
    rw [List.flatMap_cons]
    rcases i with _ | i
    · simp at hx; subst hx
      rw [List.getElem?_append_left (by have := (List.getElem?_eq_some_iff.1 hu).1; omega)]
      simpa using hu
    · have hx' : ys[i]? = some x := by simpa using hx
      rw [List.getElem?_append_right (by rw [hk, Nat.add_mul]; omega), hk]
      have e : (i + 1) * K + j - K = i * K + j := by rw [Nat.add_mul]; omega
      rw [e]
      exact ih i hx'
theorem flat_len (hk : ∀ x, (enc x).length = K) : (xs.flatMap enc).length = xs.length * K := by
  induction xs with
  | nil => simp
  | cons y ys ih => rw [List.flatMap_cons, List.length_append, ih, hk, List.length_cons, Nat.add_mul]; omega
/-- A row of the call's own, read. -/
theorem Rd.of_own {base : Nat} {e : TypeId} {v : Value} {n : Nat} (hk : ∀ x, (enc x).length = K) (hn : n = xs.length) (h : w.ownsRow base e K v n (xs.flatMap enc)) :
    ∃ A c, v = .slice A xs.length c ∧ Rd w base A K enc xs ∧ (∀ a, A = some a → ∃ g, a = ⟨g, 0, none⟩ ∧ base ≤ g ∧ g < w.heap.size) := by
  subst hn
  rcases h.2 with ⟨rfl, h0⟩ | ⟨g, cap, cur, rfl, hg, hh, hr⟩
  · have hx : xs = [] := List.eq_nil_of_length_eq_zero h0
    subst hx
    exact ⟨none, 0, rfl, Rd.nil, by simp⟩
  · have hlt := (h.lt g rfl)
    refine ⟨some ⟨g, 0, none⟩, cap, rfl, fun _ => ⟨g, 0, rfl, hlt.1, hlt.2, fun i x hx j u hu => ?_⟩, fun a ha => ⟨g, by injection ha with ha; exact ha.symm, hlt.1, hlt.2⟩⟩
    have hil : i < xs.length := (List.getElem?_eq_some_iff.1 hx).1
    have hjl : j < K := by have := (List.getElem?_eq_some_iff.1 hu).1; rw [hk] at this; exact this
    have h2 := h.cellAt (i * K + j) (by
      have : (i + 1) * K ≤ xs.length * K := Nat.mul_le_mul_right K hil
      rw [Nat.add_mul] at this; omega)
    rw [Nat.zero_add, h2]
    exact flat_get hk i x hx j u hu
end

theorem heap_set {w : World} {s i : Nat} {cs : Array Value} {t : TypeId} {u : Value} (h : w.heap[s]? = some (.cells cs t (0, 0))) : (w.setCell ⟨s, i, none⟩ u).heap[s]? = some (.cells (cs.setIfInBounds i u) t (0, 0)) := by
  simp [World.setCell, Array.getElem?_modify, h]
theorem cell_set {w : World} {s i b o : Nat} {u : Value} (h : b ≠ s) : (w.setCell ⟨s, i, none⟩ u).cell? ⟨b, o, none⟩ = w.cell? ⟨b, o, none⟩ :=
  World.cell?_setCell_other _ _ _ _ (by intro e; injection e with e1 e2; omega)

theorem flipc {P : Program} {f : FuncId} {args : Array Value} {w : World} {v : Value} (h : Calls P f args w (fun e w' => e = .returned v ∧ w = w')) : Calls P f args w (fun e w'' => e = .returned v ∧ w'' = w) :=
  h.mono fun _ _ ⟨a, b⟩ => ⟨a, b.symm⟩
/-- A literal row. -/
theorem Rd.lit {α : Type} {w : World} {lo g K : Nat} {enc : α → List Value} {xs : List α} {cs : Array Value} {t : TypeId} (hg : w.heap[g]? = some (.cells cs t (0, 0))) (hlo : lo ≤ g) (hk : ∀ x, (enc x).length = K) (hcs : cs.toList = xs.flatMap enc) :
    Rd w lo (some ⟨g, 0, none⟩) K enc xs := fun _ => by
  have hlt : g < w.heap.size := by
    rcases Nat.lt_or_ge g w.heap.size with hlt | hge
    · exact hlt
    · rw [Array.getElem?_eq_none hge] at hg; cases hg
  refine ⟨g, 0, rfl, hlo, hlt, fun i x hx j u hu => ?_⟩
  rw [Nat.zero_add, cell_of_row w g _ cs t _ hg, ← Array.getElem?_toList, hcs]
  exact flat_get hk i x hx j u hu

theorem hnew {w : World} {o : Obj} {g : Nat} (hg : g = w.heap.size) : (w.alloc o).heap[g]? = some o := by subst hg; exact heap_alloc_new w o
theorem hnew_drew {w : World} {o : Obj} {g : Nat} (hg : g = w.heap.size) : (w.alloc o).drew.heap[g]? = some o := hnew hg
/-- t is a slice type over e, whose values take K cells and so many bytes. -/
structure ElemOf (P : Program) (t e : TypeId) (K bytes : Nat) : Prop where
  ht : P.underlying t = some (.slice e)
  hi : ∃ i z, P.info? e = some i ∧ i.zero = some z ∧ i.size = K ∧ i.bytes = bytes ∧ z.cells.size = K
theorem ElemOf.mk' {P : Program} {t e : TypeId} {K bytes : Nat} {z : Value} (ht : P.underlying t = some (.slice e)) (h : (P.info? e).map (fun i => (i.zero, i.size, i.bytes)) = some (some z, K, bytes)) (hz : z.cells.size = K) : ElemOf P t e K bytes := by
  obtain ⟨i, h1, h2, h3, h4⟩ := info_parts h
  exact ⟨ht, i, z, h1, h2, h3, h4, hz⟩
theorem news_of {w : World} {g : Nat} {cs : Array Value} {e : TypeId} (h : w.heap[g]? = some (.cells cs e (0, 0))) {l : List Value} (hl : cs.toList = l) : ∀ j u, l[j]? = some u → w.cell? ((⟨g, 0, none⟩ : Addr).add j) = some u := by
  intro j u hu
  have e1 : (⟨g, 0, none⟩ : Addr).add j = ⟨g, j, none⟩ := by unfold Addr.add; split <;> simp_all
  rw [e1, cell_of_row w g j cs e _ h, ← Array.getElem?_toList, hl]
  exact hu
/-- 'out = append(out, y)' on a row of the call's own. -/
theorem wpApp {α : Type} {P : Program} {w : World} {ops : Array Oper} {rest : List Oper} {o : Oper} {a : Act} {Q : Exit → Act → World → Prop} (hgd : o.guard = none) (s x : Operand) (t : TypeId)
    (ho : o.op = .call { callee := .builtin .append, args := #[s, x], argTypes := #[t, t] })
    {e : TypeId} {K bytes : Nat} (E : ElemOf P t e K bytes) (enc : α → List Value) (hk : ∀ x, (enc x).length = K) (h1c : ∀ x, ∀ v ∈ enc x, v.oneCell' = true) (hK : 0 < K) (hB : bytes ≤ 1000)
    (base : Nat) (v : Value) (L : List α) (hs : a.eval s = v) (hown : w.ownsRow base e K v L.length (L.flatMap enc)) (g : Nat) (y : α) (cs : Array Value) (hx : a.eval x = .slice (some ⟨g, 0, none⟩) 1 1)
    (hblk : w.heap[g]? = some (.cells cs e (0, 0))) (hcs : cs.toList = enc y) (hlen : L.length ≤ 10000000) (hbase : base ≤ w.heap.size)
    (h : ∀ v' w', w'.ownsRow base e K v' (L ++ [y]).length ((L ++ [y]).flatMap enc) → w.grownBy w' v.ownBlock → wpList P ops Q rest (a.put o.dst v') w') : wpList P ops Q (o :: rest) a w := by
  obtain ⟨i, z, h1, h2, h3, h4, h5⟩ := E.hi
  refine wpList_append_own w hgd s x t ho base e i z K bytes E.ht h1 h2 h3 h4 h5 hK v L.length _ hs hown ⟨g, 0, none⟩ 1 1 (enc y) hx (by rw [hk]; omega) (news_of hblk hcs) (h1c y) (by unfold maxLen; omega) ?_ hbase ?_
  · have : (L.length + 1) * bytes ≤ 10000001 * 1000 := Nat.mul_le_mul (by omega) hB
    omega
  · intro v' w' ho' hg' _
    exact h v' w' (by simpa using ho') hg'
theorem own_blk_lt {w : World} {base : Nat} {e : TypeId} {size : Nat} {v : Value} {n : Nat} {xs : List Value} (h : w.ownsRow base e size v n xs) : ∀ k, v.ownBlock = some k → base ≤ k := fun k hk => (h.lt k hk).1
theorem own_nx {w w' : World} {base : Nat} {e : TypeId} {size : Nat} {v : Value} {n : Nat} {xs : List Value} (h : w.ownsRow base e size v n xs) (hn : Nx w w') : w'.ownsRow base e size v n xs :=
  h.kept (hn.gr none) (by cases hv : v.ownBlock <;> simp)
theorem own_gr {w w' : World} {s base : Nat} {e : TypeId} {size : Nat} {v : Value} {n : Nat} {xs : List Value} (h : w.ownsRow base e size v n xs) (hn : w.grownBy w' (some s)) (hs : s < base) : w'.ownsRow base e size v n xs :=
  h.kept hn (.inr fun e => by have := own_blk_lt h s e; omega)

theorem flat_set {α : Type} {enc : α → List Value} {K : Nat} (hk : ∀ x, (enc x).length = K) : ∀ (xs : List α) (i : Nat) (hi : i < xs.length) (x' : α) (j : Nat) (_ : j < K) (u : Value), enc x' = (enc xs[i]).set j u → (xs.flatMap enc).set (i * K + j) u = (xs.set i x').flatMap enc
  | y :: ys, 0, hi, x', j, hj, u, h => by
    rw [List.set_cons_zero, List.flatMap_cons, List.flatMap_cons, Nat.zero_mul, Nat.zero_add, List.set_append_left _ _ (by rw [hk]; exact hj), h]; rfl
  | y :: ys, i + 1, hi, x', j, hj, u, h => by
    rw [List.set_cons_succ, List.flatMap_cons, List.flatMap_cons, List.set_append_right _ _ (by rw [hk, Nat.add_mul]; omega), hk, show (i + 1) * K + j - K = i * K + j by rw [Nat.add_mul]; omega]
    rw [flat_set hk ys i (by simpa using hi) x' j hj u (by simpa using h)]
/-- A field of a row's element is stored. -/
theorem own_set {α : Type} {enc : α → List Value} {K : Nat} (hk : ∀ x, (enc x).length = K) {w : World} {base g cap n : Nat} {e : TypeId} {xs : List α} (hn : xs.length = n) (h : w.ownsRow base e K (.slice (some ⟨g, 0, none⟩) n cap) n (xs.flatMap enc))
    (i : Nat) (hi : i < xs.length) (j : Nat) (hj : j < K) (u : Value) (x' : α) (hx : enc x' = (enc xs[i]).set j u) (off : Nat) (ho : off = i * K + j) :
    (w.setCell ⟨g, off, none⟩ u).ownsRow base e K (.slice (some ⟨g, 0, none⟩) n cap) n ((xs.set i x').flatMap enc) := by
  subst ho hn
  rw [← flat_set hk xs i hi x' j hj u hx]
  exact (h.stored (i * K + j) u).1
/-- A field of a row's element, read. -/
theorem own_cell {α : Type} {enc : α → List Value} {K : Nat} (hk : ∀ x, (enc x).length = K) {w : World} {base g cap n : Nat} {e : TypeId} {xs : List α} (hn : xs.length = n) (h : w.ownsRow base e K (.slice (some ⟨g, 0, none⟩) n cap) n (xs.flatMap enc))
    (i : Nat) (hi : i < xs.length) (j : Nat) (u : Value) (hu : (enc xs[i])[j]? = some u) : w.cell? ⟨g, i * K + j, none⟩ = some u := by
  subst hn
  have hj : j < K := by have := (List.getElem?_eq_some_iff.1 hu).1; rw [hk] at this; exact this
  rw [h.cellAt (i * K + j) (by
      have : (i + 1) * K ≤ xs.length * K := Nat.mul_le_mul_right K hi
      rw [Nat.add_mul] at this; omega)]
  exact flat_get hk i _ (List.getElem?_eq_getElem hi) j u hu
end Go.Proofs.YtfkmbeppckelfaaGreatDoor
