/- Plain: legs that are right, split by ride. -/
import Derived.Test.YtjhmgkoghapocaaDoorLegs
import Derived.Test.YtjhmgkoghapocaaDoorSumK
namespace Go.Proofs.YtjhmgkoghapocaaDoor
open Go.RowKit

structure LegOk (x : Leg) : Prop where
  pos : 0 < x.rides.length
  le : x.rides.length ≤ 10
  c0 : 0 ≤ x.cents
  c1 : x.cents ≤ maxCt
theorem legF_ok {x : Leg} (h : legF x = 0) : LegOk x := by
  unfold legF at h
  by_cases h0 : x.rides.length = 0
  · rw [if_pos h0] at h; exact absurd h (by decide)
  rw [if_neg h0] at h
  by_cases h1 : keysF x.rides = 0
  · rw [if_pos h1] at h
    have h10 : ¬ 10 < x.rides.length := fun hc => by
      unfold keysF at h1; rw [if_pos hc] at h1; exact absurd h1 (by decide)
    have hcb : centB x.cents = false := by
      cases hc : centB x.cents with
      | false => rfl
      | true => rw [hc] at h; exact absurd h (by decide)
    unfold centB outB at hcb
    simp at hcb
    exact ⟨by omega, by omega, by omega, by omega⟩
  · rw [if_neg h1] at h; exact absurd h h1
theorem legsF_ok : ∀ {ls : List Leg}, legsF ls = 0 → ∀ x ∈ ls, LegOk x
  | [], _, x, hx => by cases hx
  | y :: ls, h, x, hx => by
    have e : legsF (y :: ls) = if legF y = 0 then legsF ls else legF y := legsF_drop (y :: ls) 0 (by simp)
    rw [e] at h
    by_cases hy : legF y = 0
    · rw [if_pos hy] at h
      rcases List.mem_cons.1 hx with rfl | hx
      · exact legF_ok hy
      · exact legsF_ok h x hx
    · rw [if_neg hy] at h; exact absurd h hy
/-- The first k legs, split by ride. -/
def legsK (ls : List Leg) : Nat → ByteArray → Option Int
  | 0 => fun _ => none
  | k + 1 => rideK (ls.getD k default).rides (ls.getD k default).cents (legsK ls k) (ls.getD k default).rides.length
theorem legsK_succ (ls : List Leg) (k : Nat) (hk : k < ls.length) : legsK ls (k + 1) = rideK ls[k].rides ls[k].cents (legsK ls k) ls[k].rides.length := by
  have e : ls.getD k default = ls[k] := by rw [List.getD_eq_getElem?_getD, List.getElem?_eq_getElem hk]; rfl
  show rideK (ls.getD k default).rides (ls.getD k default).cents (legsK ls k) (ls.getD k default).rides.length = _
  rw [e]
theorem legsK_bd (ls : List Leg) (h : ∀ x ∈ ls, LegOk x) : ∀ k, k ≤ ls.length → BndK (legsK ls k) (10000000000 * k)
  | 0, _ => fun s => by simp [legsK]
  | k + 1, hk => by
    have hk' : k < ls.length := hk
    rw [legsK_succ ls k hk']
    have hx := h _ (List.getElem_mem hk')
    have h1 := rideK_bd (legsK_bd ls h k (by omega)) hx.pos hx.c0 hx.c1 ls[k].rides.length
    intro s
    have := h1 s
    have hle := hx.le
    unfold maxCt at this
    omega
theorem rideK_succ (rides : List ByteArray) (cents : Int) (f : ByteArray → Option Int) (k : Nat) (hk : k < rides.length) : rideK rides cents f (k + 1) = addK (rideK rides cents f k) rides[k] (legI cents rides.length k) := by
  have e : rides.getD k default = rides[k] := by rw [List.getD_eq_getElem?_getD, List.getElem?_eq_getElem hk]; rfl
  show addK (rideK rides cents f k) (rides.getD k default) (legI cents rides.length k) = _
  rw [e]
end Go.Proofs.YtjhmgkoghapocaaDoor
