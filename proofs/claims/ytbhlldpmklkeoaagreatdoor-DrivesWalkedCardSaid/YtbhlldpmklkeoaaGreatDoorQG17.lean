/- The stable sort of what is left, of fewer than 20; products and quotients of 64 bits. -/
import Derived.Test.YtbhlldpmklkeoaaGreatDoorQG15
import Derived.Test.YtbhlldpmklkeoaaGreatDoorQG1
import Derived.Test.YtbhlldpmklkeoaaGreatDoorQShelfS
import Derived.Test.YtbhlldpmklkeoaaGreatDoorQG0
import Derived.Test.YtbhlldpmklkeoaaGreatDoorQG4
import Derived.Test.YtbhlldpmklkeoaaGreatDoorQG8
import Derived.Laws.OwnMore
import Derived.Laws.Bits64
import Derived.WalkKit
import Derived.IntWalk
import Derived.StillTailTactics
namespace Go.Proofs.YtbhlldpmklkeoaaGreatDoor
open Go.RowKit Go.Sort Go.Proofs Go.Shelf

/-- A number with what is left of it. -/
def encRest (p : Nat × Int) : List Value := [.int .i64 (p.1 : Int), .int .u64 p.2]
theorem encRest_len (p : Nat × Int) : (encRest p).length = 2 := rfl
theorem encRest_one (p : Nat × Int) : ∀ v ∈ encRest p, v.oneCell' = true := by
  intro v hv; simp [encRest] at hv; rcases hv with rfl | rfl <;> rfl
def restC (x y : Nat × Int) : Int := cmpI y.2 x.2
theorem restC_lt (x y : Nat × Int) : ltOf restC x y = true ↔ y.2 < x.2 := by unfold ltOf restC; rw [decide_eq_true_eq]; unfold cmpI; split <;> (try split) <;> omega
/-- Those ahead come first. -/
def Ahead (a b : Nat × Int) : Prop := b.2 < a.2 ∨ (a.2 = b.2 ∧ a.1 < b.1)
theorem rest_stable (d : Array (Nat × Int)) (hS : d.toList.Pairwise (fun a b => a.1 < b.1)) : (insertionSort (ltOf restC) d 0 d.size).toList.Perm d.toList ∧ (insertionSort (ltOf restC) d 0 d.size).toList.Pairwise Ahead :=
  ins_stable (ltOf restC) (R := Ahead) (S := fun a b => a.1 < b.1) (fun x y h => .inl ((restC_lt x y).1 h)) (fun x y h1 h2 => by
    have h3 : ¬ y.2 < x.2 := fun h => by rw [(restC_lt x y).2 h] at h2; cases h2
    unfold Ahead; omega) (fun x y z h1 h2 => by unfold Ahead at *; omega) d hS

end Go.Proofs.YtbhlldpmklkeoaaGreatDoor
/- Products and quotients of 64 bits, whose upper half is 0. -/
namespace Go.Proofs.YtbhlldpmklkeoaaGreatDoor
open Go.RowKit Go.Proofs Go.Shelf

end Go.Proofs.YtbhlldpmklkeoaaGreatDoor
/- A whole given out by parts: the program's. -/
namespace Go.Proofs.YtbhlldpmklkeoaaGreatDoor
open Go.RowKit Go.Sort Go.Proofs Go.Shelf

theorem el_Int : ElemOf Tryz.prog 22 3 1 8 := ElemOf.mk' (z := .int .i64 0) Tryz.underlying22 (by kernel_rfl) rfl
theorem encI_len (x : Int) : (encI x).length = 1 := rfl
theorem encI_one (x : Int) : ∀ v ∈ encI x, v.oneCell' = true := by
  intro v hv; simp [encI] at hv; subst hv; rfl
/-- Rows of two types lie in blocks of their own. -/
theorem own_apart {w : World} {b1 b2 : Nat} {e1 e2 : TypeId} {K1 K2 n1 n2 : Nat} {v1 v2 : Value} {xs1 xs2 : List Value} (h1 : w.ownsRow b1 e1 K1 v1 n1 xs1) (h2 : w.ownsRow b2 e2 K2 v2 n2 xs2) (hne : e1 ≠ e2) : v1.ownBlock = none ∨ v1.ownBlock ≠ v2.ownBlock := by
  rcases h1.2 with ⟨rfl, _⟩ | ⟨g, cap, cur, rfl, _, hg, _⟩
  · exact .inl rfl
  · right
    intro e
    rcases h2.2 with ⟨rfl, _⟩ | ⟨g2, cap2, cur2, rfl, _, hg2, _⟩
    · cases e
    · have e3 : g = g2 := by injection e
      subst e3
      rw [hg] at hg2
      injection hg2 with hg2
      injection hg2 with _ h2 _
      exact hne h2
theorem sumL_mem : ∀ {l : List Int} {p : Int}, (∀ x ∈ l, 0 ≤ x) → p ∈ l → p ≤ sumL l
  | x :: l, p, h, hp => by
    have h0 := (sumL_bd l 0 0 |> fun f => f) 
    have h1 : 0 ≤ sumL l := by
      clear h0 hp
      induction l with
      | nil => simp [sumL]
      | cons y l ih =>
        have h2 := h y (by simp)
        have h3 := ih (fun z hz => h z (by simp at hz ⊢; rcases hz with rfl | hz <;> simp_all))
        simp only [sumL]; omega
    have hx := h x (by simp)
    simp only [sumL]
    rcases List.mem_cons.1 hp with rfl | hp
    · omega
    · have := sumL_mem (fun z hz => h z (List.mem_cons_of_mem _ hz)) hp
      omega
theorem q_bd {cents S : Int} {parts : List Int} (hc : 0 ≤ cents) (hp : ∀ p ∈ parts, 0 ≤ p) (hS : sumL parts = S) (h0 : 0 < S) : ∀ q ∈ qsN (numsD cents parts) S, 0 ≤ q ∧ q ≤ cents := by
  intro q hq
  unfold qsN numsD at hq
  rw [List.map_map] at hq
  obtain ⟨p, hpm, rfl⟩ := List.mem_map.1 hq
  have h1 := hp p hpm
  have h2 := sumL_mem hp hpm
  rw [hS] at h2
  refine ⟨Int.ediv_nonneg (Int.mul_nonneg hc h1) (by omega), ?_⟩
  refine Int.ediv_le_of_le_mul h0 ?_
  exact Int.mul_le_mul_of_nonneg_left h2 hc
/-- The remainders with their places. -/
def restsN (rs : List Int) (k : Nat) : List (Nat × Int) := (List.range k).map (fun i => (i, rs.getD i 0))
theorem restsN_snoc (rs : List Int) (k : Nat) : restsN rs (k + 1) = restsN rs k ++ [(k, rs.getD k 0)] := by unfold restsN; rw [List.range_succ, List.map_append]; rfl
theorem restsN_len (rs : List Int) (k : Nat) : (restsN rs k).length = k := by simp [restsN]
theorem restsN_pw (rs : List Int) (k : Nat) : (restsN rs k).Pairwise (fun a b => a.1 < b.1) := by
  unfold restsN
  rw [List.pairwise_map]
  exact List.pairwise_lt_range
theorem qs_take (cents S : Int) (parts : List Int) (k : Nat) (hk : k < parts.length) : (qsN (numsD cents parts) S).take (k + 1) = (qsN (numsD cents parts) S).take k ++ [cents * parts[k] / S] := by
  rw [List.take_succ_eq_append_getElem (by unfold qsN numsD; simpa using hk)]
  simp [qsN, numsD]
theorem rs_at (cents S : Int) (parts : List Int) (k : Nat) (hk : k < parts.length) : (rsN (numsD cents parts) S).getD k 0 = cents * parts[k] % S := by
  unfold rsN numsD
  rw [List.getD_eq_getElem?_getD, List.getElem?_eq_getElem (by simpa using hk)]
  simp
def encQ : Nat × Int → List Value := encRest

end Go.Proofs.YtbhlldpmklkeoaaGreatDoor
/- What is wrong with costs and dues: the program's and the reference's words. -/
namespace Go.Proofs.YtbhlldpmklkeoaaGreatDoor
open Go.RowKit

theorem centB_bd {n : Int} (h : centB n = false) : 0 ≤ n ∧ n ≤ 1000000000 := by have := outB_false.1 h; unfold maxCt at this; exact this
theorem pow_bd {n : Nat} (h : n ≤ 10) : 1 ≤ 2 ^ n ∧ 2 ^ n ≤ 1024 := by
  have h1 : 2 ^ n ≤ 2 ^ 10 := Nat.pow_le_pow_right (by omega) h
  have h2 : 0 < 2 ^ n := Nat.pow_pos (by omega)
  omega
theorem shl_pow {n : Nat} (h : n ≤ 10) : wrap64 ((2 : Int) ^ n) = ((2 ^ n : Nat) : Int) := by
  have h1 := pow_bd h
  have e : ((2 : Int) ^ n) = ((2 ^ n : Nat) : Int) := by rw [Int.natCast_pow]; rfl
  rw [e]
  generalize 2 ^ n = P at *
  unfold wrap64
  omega
theorem keysF_len {l : List ByteArray} (h : keysF l = 0) : l.length ≤ 10 := by
  rcases Nat.lt_or_ge 10 l.length with h1 | h1
  · unfold keysF at h; rw [if_pos h1] at h; omega
  · exact h1
theorem fairF_key {l : List ByteArray} {cs : List Int} (h : ¬ keysF l = 0) : fairF l cs = keysF l := by unfold fairF; rw [if_neg h]
theorem fairF_form {l : List ByteArray} {cs : List Int} (h : keysF l = 0) (h2 : ¬ cs.length = 2 ^ l.length) : fairF l cs = 3 := by unfold fairF; rw [if_pos h, if_neg h2]
theorem fairF_arg0 {l : List ByteArray} {cs : List Int} (h : keysF l = 0) (h2 : cs.length = 2 ^ l.length) (h3 : cs.getD 0 0 ≠ 0) : fairF l cs = 1 := by unfold fairF; rw [if_pos h, if_pos h2, if_pos (.inl h3)]
theorem fairF_arg1 {l : List ByteArray} {cs : List Int} (h : keysF l = 0) (h2 : cs.length = 2 ^ l.length) (h3 : cs.any centB = true) : fairF l cs = 1 := by unfold fairF; rw [if_pos h, if_pos h2, if_pos (.inr h3)]
theorem fairF_ok {l : List ByteArray} {cs : List Int} (h : keysF l = 0) (h2 : cs.length = 2 ^ l.length) (h3 : cs.getD 0 0 = 0) (h4 : cs.any centB = false) : fairF l cs = 0 := by
  unfold fairF; rw [if_pos h, if_pos h2, if_neg]; rintro (h5 | h5)
  · exact h5 h3
  · rw [h4] at h5; cases h5

theorem duesF_form {l : List ByteArray} {ds : List Due} (h : ¬ l = ds.map (·.key)) : duesF l ds = 3 := by unfold duesF; rw [if_neg h]
theorem duesF_arg {l : List ByteArray} {ds : List Due} (h : l = ds.map (·.key)) (h2 : ds.any badD = true) : duesF l ds = 1 := by unfold duesF; rw [if_pos h, show (ds.any fun d => outB d.cents (-maxCt) maxCt) = true from h2]; rfl
theorem duesF_ok {l : List ByteArray} {ds : List Due} (h : l = ds.map (·.key)) (h2 : ds.any badD = false) : duesF l ds = 0 := by unfold duesF; rw [if_pos h, show (ds.any fun d => outB d.cents (-maxCt) maxCt) = false from h2]; rfl
end Go.Proofs.YtbhlldpmklkeoaaGreatDoor
/- fare.Divide, whatever it is handed; what is wrong with parts; 'priced' answers true. -/
namespace Go.Proofs.YtbhlldpmklkeoaaGreatDoor
open Go.RowKit Go.Sort Go.Proofs Go.Shelf

theorem partsF_cents {cents : Int} {parts : List Int} (h : centB cents = true) : partsF cents parts = 1 := by unfold partsF; rw [h]; rfl
theorem partsF_any {cents : Int} {parts : List Int} (h : centB cents = false) (h2 : parts.length < 20) (h3 : parts.any centB = true) : partsF cents parts = 1 := by
  unfold partsF; rw [h, h3]; simp; omega
theorem partsF_sum {cents : Int} {parts : List Int} (h : centB cents = false) (h2 : parts.length < 20) (h3 : parts.any centB = false) : partsF cents parts = if sumL parts = 0 then 8 else 0 := by
  unfold partsF; rw [h, h3]; simp; omega
theorem any_at {l : List Int} {p : Int → Bool} {k : Nat} (hk : k < l.length) (h : p l[k] = true) : l.any p = true := List.any_eq_true.2 ⟨_, List.getElem_mem hk, h⟩
theorem any_step {l : List Int} {p : Int → Bool} {k : Nat} (hk : k < l.length) (h : (l.take k).any p = false) (h2 : p l[k] = false) : (l.take (k + 1)).any p = false := by
  rw [List.take_succ_eq_append_getElem hk, List.any_append, h]; simp [h2]
theorem sum_right {l : List Int} (h : l.any centB = false) : 0 ≤ sumL l ∧ sumL l ≤ l.length * 1000000000 := by
  have := sumL_bd l 0 1000000000 (fun x hx => centB_bd (by
    cases h1 : centB x
    · rfl
    · exact absurd (List.any_eq_true.2 ⟨x, hx, h1⟩) (by rw [h]; simp)))
  omega
/-- Cents given out, or a fault. -/
def DivU (F cents : Int) (parts : List Int) (w : World) (e : Ending) (w' : World) : Prop :=
  ∃ (A : Option Addr) (c : Nat) (zs : List Int), e = .returned (.tuple #[.slice A zs.length c, .int .i64 F]) ∧ (F = 0 → Divided cents parts zs) ∧ (F ≠ 0 → zs = []) ∧ Rd w' w.heap.size A 1 encI zs ∧ Nx w w'
theorem DivU.no {F cents : Int} {parts : List Int} {w w' : World} (h : F ≠ 0) (hn : Nx w w') : DivU F cents parts w (.returned (.tuple #[.slice none 0 0, .int .i64 F])) w' := ⟨none, 0, [], rfl, fun h0 => absurd h0 h, fun _ => rfl, Rd.nil, hn⟩

set_option maxRecDepth 100000 in
set_option maxHeartbeats 1000000 in
theorem w_EqualI (lo lo' : Nat) (A B : Option Addr) (c d : Nat) (l : List Int) (w : World) (hA : Rd w lo A 1 encI l) (hB : Rd w lo' B 1 encI l) (hl : l.length ≤ 65536) :
    Calls Tryz.prog 24 #[.slice A l.length c, .slice B l.length d] w fun e w' => e = .returned (.bool true) ∧ Nx w w' := by
  generalize hn : l.length = n at *
  have HA := hide hA
  have HB := hide hB
  have HN := hide hn
  clear hA hB hn
  go_enter Tryz.func24, Tryz.ntmps24
  go_wp2
  go_loopw [5, 13] (fun _ i wr => ∃ k : Nat, k ≤ n ∧ i = .int .i64 k ∧ Nx w wr) (fun _ i _ => n - (intOf i).toNat)
  case atStart => exact ⟨0, Nat.zero_le _, rfl, Nx.refl _⟩
  case round =>
    obtain ⟨k, hk, rfl, hbw⟩ := hrel
    by_cases hlt : k < n
    · have hlt' : k < l.length := by have := HN.out; omega
      obtain ⟨b, off, rfl, _, hb, hbr, hc⟩ := HA.out.open_ hbw (by omega)
      obtain ⟨b', off', rfl, _, hb', hbr', hc'⟩ := HB.out.open_ hbw (by omega)
      have c0 : wr.cell? ⟨b, off + k, none⟩ = some (.int .i64 l[k]) := by have := hc k hlt' 0 _ rfl; simpa using this
      have d0 : wr.cell? ⟨b', off' + k, none⟩ = some (.int .i64 l[k]) := by have := hc' k hlt' 0 _ rfl; simpa using this
      clear hc hc'
      have q1 : (0 : Int) ≤ (k : Int) := by omega
      have q2 : (k : Int) < (n : Int) := by omega
      go_wp2_with fail
      go_quiet (fail)
      go_wp2
      go_roundw
      case rel => exact ⟨k + 1, by omega, by go_num, hbw.drewN _⟩
      case measure => simp [intOf]; omega
    · go_wp2
      go_ret
      exact ⟨rfl, hbw⟩

end Go.Proofs.YtbhlldpmklkeoaaGreatDoor
/- More words for memory, of no program: rows out of literals, prefixes of rows, rows that stay while others turn. -/
namespace Go.Proofs.YtbhlldpmklkeoaaGreatDoor
open Go.RowKit

section
variable {α : Type} {w w' : World} {lo K : Nat} {A : Option Addr} {enc : α → List Value} {xs : List α}
/-- The first ones of a slice. -/
theorem Rd.take (h : Rd w lo A K enc xs) (n : Nat) : Rd w lo A K enc (xs.take n) := fun hp => by
  have hp' : 0 < xs.length := by rw [List.length_take] at hp; omega
  obtain ⟨b, off, e, h1, hb, hc⟩ := h hp'
  refine ⟨b, off, e, h1, hb, fun i x hx j u hu => hc i x ?_ j u hu⟩
  have hi : i < (xs.take n).length := (List.getElem?_eq_some_iff.1 hx).1
  rw [List.length_take] at hi
  rw [← hx, List.getElem?_take_of_lt (by omega)]
/-- A row of the call's own out of a literal: its first n elements. -/
theorem own_lit {e : TypeId} {g n m : Nat} {cs : Array Value} {base : Nat} (hk : ∀ x, (enc x).length = K) (hg : w.heap[g]? = some (.cells cs e (0, 0))) (hb : base ≤ g) (hcs : cs.toList = xs.flatMap enc) (hm : xs.length = m) (hn : n ≤ m) (hmax : m ≤ maxLen) :
    w.ownsRow base e K (.slice (some ⟨g, 0, none⟩) n m) n ((xs.take n).flatMap enc) := by
  have hl : (xs.take n).length = n := by rw [List.length_take]; omega
  refine ⟨by rw [flat_len hk, hl], .inr ⟨g, m, cs, rfl, hb, hg, hn, hmax, ?_, ?_⟩⟩
  · rw [← Array.length_toList, hcs, flat_len hk, hm]
  · rw [hcs]
    have e1 : xs.flatMap enc = (xs.take n).flatMap enc ++ (xs.drop n).flatMap enc := by rw [← List.flatMap_append, List.take_append_drop]
    rw [e1, List.take_append_of_le_length (by rw [flat_len hk, hl]; exact Nat.le_refl _), List.take_of_length_le (by rw [flat_len hk, hl]; exact Nat.le_refl _)]
end
end Go.Proofs.YtbhlldpmklkeoaaGreatDoor
/- What is handed out: the reference's. -/
namespace Go.Proofs.YtbhlldpmklkeoaaGreatDoor
open Go.RowKit Go.Sort Go.Proofs Go.Shelf

theorem run_make_ints (n : Nat) (hn : n ≤ 100000) (w : World) : (Instr.makeSlice 22 (.int .i64 (n : Int)) (.int .i64 (n : Int))).run Tryz.prog w = .ok (.slice (some ⟨w.heap.size, 0, none⟩) n n) (w.alloc (.cells (madeCells #[.int .i64 0] n) 3)) := by
  obtain ⟨i, h1, h2, h3, h4⟩ := info_parts (show (Tryz.prog.info? 3).map (fun i => (i.zero, i.size, i.bytes)) = some (some (.int .i64 0), 1, 8) by kernel_rfl)
  have h := run_make (P := Tryz.prog) w 22 3 i (.int .i64 0) Tryz.underlying22 h1 h2 .i64 .i64 (n : Int) (n : Int) (by omega) (by omega) (by rw [h4]; omega) (by omega)
  rw [h]
  simp [h3, Value.cells]
theorem made_ints (n : Nat) : (madeCells #[.int .i64 0] n).toList = (List.replicate n (0 : Int)).flatMap encI := by
  rw [toList_madeCells_one]
  induction n with
  | zero => rfl
  | succ n ih => rw [List.replicate_succ, List.replicate_succ, List.flatMap_cons, ih]; rfl
theorem own_made (w : World) (n base : Nat) (hn : n ≤ 100000) (hb : base ≤ w.heap.size) {Z : Array Value} (hZ : Z.toList = (List.replicate n (0 : Int)).flatMap encI) : (w.alloc (.cells Z 3)).ownsRow base 3 1 (.slice (some ⟨w.heap.size, 0, none⟩) n n) n ((List.replicate n (0 : Int)).flatMap encI) := by
  have := own_lit (w := w.alloc (.cells Z 3)) (e := 3) (g := w.heap.size) (n := n) (m := n) (base := base) (xs := List.replicate n (0 : Int)) encI_len (hnew rfl) hb hZ (by simp) (Nat.le_refl _) (by unfold maxLen; omega)
  rwa [List.take_of_length_le (by simp)] at this
/-- A list filled up to k, the rest 0. -/
def fillN (L : List Int) (k : Nat) : List Int := L.take k ++ List.replicate (L.length - k) 0
theorem fillN_len (L : List Int) (k : Nat) (hk : k ≤ L.length) : (fillN L k).length = L.length := by unfold fillN; simp; omega
theorem fillN_zero (L : List Int) : fillN L 0 = List.replicate L.length 0 := by simp [fillN]
theorem fillN_all (L : List Int) : fillN L L.length = L := by simp [fillN]
theorem fillN_set (L : List Int) (k : Nat) (hk : k < L.length) : (fillN L k).set k L[k] = fillN L (k + 1) := by
  unfold fillN
  obtain ⟨m, hm⟩ : ∃ m, L.length - k = m + 1 := ⟨L.length - k - 1, by omega⟩
  have hm2 : L.length - (k + 1) = m := by omega
  have hl : (L.take k).length = k := by rw [List.length_take]; omega
  rw [hm, hm2, List.replicate_succ, List.set_append_right _ _ (by omega), hl, Nat.sub_self, List.set_cons_zero, List.take_succ_eq_append_getElem hk, List.append_assoc]; rfl
/-- The first of the greatest of the first k. -/
structure FM (cs : List Int) (k b : Nat) : Prop where
  at_ : b < cs.length
  in_ : b < k ∨ (k = 0 ∧ b = 0)
  up : ∀ j, j < k → cs.getD j 0 < cs.getD b 0 ∨ (cs.getD j 0 = cs.getD b 0 ∧ b ≤ j)
theorem FM.start {cs : List Int} (h : 0 < cs.length) : FM cs 0 0 := ⟨h, .inr ⟨rfl, rfl⟩, fun j hj => by omega⟩
theorem FM.more {cs : List Int} {k b : Nat} (h : FM cs k b) (hk : k < cs.length) (hlt : cs.getD b 0 < cs.getD k 0) : FM cs (k + 1) k :=
  ⟨hk, .inl (by omega), fun j hj => by
    rcases Nat.lt_or_ge j k with h1 | h1
    · have := h.up j h1; omega
    · have e : j = k := by omega
      subst e; exact .inr ⟨rfl, Nat.le_refl _⟩⟩
theorem FM.same {cs : List Int} {k b : Nat} (h : FM cs k b) (hlt : ¬ cs.getD b 0 < cs.getD k 0) : FM cs (k + 1) b :=
  ⟨h.at_, .inl (by have := h.in_; omega), fun j hj => by
    rcases Nat.lt_or_ge j k with h1 | h1
    · exact h.up j h1
    · have e : j = k := by omega
      subst e
      have := h.in_
      omega⟩
theorem FM.done {cs : List Int} {b : Nat} (h : FM cs cs.length b) : FirstMax cs b := ⟨h.at_, h.up⟩
theorem getD_at {l : List Int} {k : Nat} (h : k < l.length) : l.getD k 0 = l[k] := by rw [List.getD_eq_getElem?_getD, List.getElem?_eq_getElem h]; rfl

end Go.Proofs.YtbhlldpmklkeoaaGreatDoor
/- Bits of small numbers, in the walk's spelling. -/
namespace Go.Proofs.YtbhlldpmklkeoaaGreatDoor
open Go

theorem bits_and_i64 (a b : Nat) (ha : a < 4294967296) (hb : b < 4294967296) : bits .and .i64 (a : Int) (b : Int) = ((a &&& b : Nat) : Int) := by
  have hx : a &&& b < 2 ^ 32 := Nat.and_lt_two_pow _ (by omega)
  have h1 : (BitVec.ofInt 64 (a : Int)).toNat = a := by
    rw [BitVec.ofInt_natCast, BitVec.toNat_ofNat]; exact Nat.mod_eq_of_lt (by omega)
  have h2 : (BitVec.ofInt 64 (b : Int)).toNat = b := by
    rw [BitVec.ofInt_natCast, BitVec.toNat_ofNat]; exact Nat.mod_eq_of_lt (by omega)
  show IntKind.i64.wrap ((BitVec.ofInt 64 (a : Int) &&& BitVec.ofInt 64 (b : Int)).toNat : Int) = _
  rw [BitVec.toNat_and, h1, h2, IntKind.wrap_i64]
  omega
theorem bits_or_i64 (a b : Nat) (ha : a < 4294967296) (hb : b < 4294967296) : bits .or .i64 (a : Int) (b : Int) = ((a ||| b : Nat) : Int) := by
  have hx : a ||| b < 2 ^ 32 := Nat.or_lt_two_pow (by omega) (by omega)
  have h1 : (BitVec.ofInt 64 (a : Int)).toNat = a := by
    rw [BitVec.ofInt_natCast, BitVec.toNat_ofNat]; exact Nat.mod_eq_of_lt (by omega)
  have h2 : (BitVec.ofInt 64 (b : Int)).toNat = b := by
    rw [BitVec.ofInt_natCast, BitVec.toNat_ofNat]; exact Nat.mod_eq_of_lt (by omega)
  show IntKind.i64.wrap ((BitVec.ofInt 64 (a : Int) ||| BitVec.ofInt 64 (b : Int)).toNat : Int) = _
  rw [BitVec.toNat_or, h1, h2, IntKind.wrap_i64]
  omega
theorem div_pow (g i : Nat) : (g : Int) / 2 ^ i = ((g / 2 ^ i : Nat) : Int) := by
  rw [Int.natCast_ediv, Int.natCast_pow]; rfl
theorem bit_le (g i : Nat) : bitN g i = 0 ∨ bitN g i = 1 := by unfold bitN; omega
theorem and_bit (g i : Nat) (hg : g < 4294967296) : bits .and .i64 ((g : Int) / 2 ^ i) 1 = ((bitN g i : Nat) : Int) := by
  rw [div_pow]
  have h : g / 2 ^ i < 4294967296 := Nat.lt_of_le_of_lt (Nat.div_le_self _ _) hg
  have := bits_and_i64 (g / 2 ^ i) 1 h (by omega)
  rw [Nat.and_one_is_mod] at this
  exact this
theorem mod_bit (g i : Nat) : ((g : Int) / 2 ^ i) % 2 = ((bitN g i : Nat) : Int) := by
  rw [div_pow]; unfold bitN; omega
theorem tmod_bit (g i : Nat) : ((g : Int) / 2 ^ i).tmod 2 = ((bitN g i : Nat) : Int) := by
  rw [div_pow]
  unfold bitN
  generalize g / 2 ^ i = z
  rw [Int.tmod_eq_emod_of_nonneg (by omega)]
  omega
theorem or_small : ∀ (g : Fin 64) (i : Fin 6), bitN g.val i.val = 0 → (g.val ||| 2 ^ i.val) = g.val + 2 ^ i.val := by decide +kernel
theorem or_bit (g i : Nat) (hg : g < 64) (hi : i < 6) (h0 : bitN g i = 0) : bits .or .i64 (g : Int) (2 ^ i) = ((g + 2 ^ i : Nat) : Int) := by
  have hp : 2 ^ i < 64 := by
    have : 2 ^ i ≤ 2 ^ 5 := Nat.pow_le_pow_right (by omega) (by omega)
    omega
  have e : ((2 : Int) ^ i) = ((2 ^ i : Nat) : Int) := by rw [Int.natCast_pow]; rfl
  rw [e, bits_or_i64 g (2 ^ i) (by omega) (by omega), or_small ⟨g, hg⟩ ⟨i, hi⟩ h0]
theorem add_lt_small : ∀ (n : Fin 7) (g : Fin 64) (i : Fin 6), g.val < 2 ^ n.val → i.val < n.val → bitN g.val i.val = 0 → g.val + 2 ^ i.val < 2 ^ n.val := by decide +kernel
theorem szN_small : ∀ (n : Fin 7) (g : Fin 64) (i : Fin 6), i.val < n.val → bitN g.val i.val = 0 → szN n.val g.val + 1 ≤ n.val := by decide +kernel
theorem szN_le (n g : Nat) : szN n g ≤ n := by
  induction n with
  | zero => simp [szN]
  | succ n ih => have := bit_le g n; simp only [szN]; omega
end Go.Proofs.YtbhlldpmklkeoaaGreatDoor
/- Groups that would pay less alone. -/
namespace Go.Proofs.YtbhlldpmklkeoaaGreatDoor
open Go.RowKit Go.Sort Go.Proofs Go.Shelf

theorem el_S : ElemOf Tryz.prog 49 9 1 16 := ElemOf.mk' (z := .string ByteArray.empty) Tryz.underlying49 (by kernel_rfl) rfl
theorem encS_len (x : ByteArray) : (encS x).length = 1 := rfl
theorem encS_one (x : ByteArray) : ∀ v ∈ encS x, v.oneCell' = true := by
  intro v hv; simp [encS] at hv; subst hv; rfl
theorem sumG_bd (cs : List Int) (hc : ∀ x ∈ cs, -1000000000 ≤ x ∧ x ≤ 1000000000) (g k : Nat) : -(k * 1000000000 : Int) ≤ sumG cs g k ∧ sumG cs g k ≤ k * 1000000000 := by
  induction k with
  | zero => simp [sumG]
  | succ k ih =>
    have h : -1000000000 ≤ cs.getD k 0 ∧ cs.getD k 0 ≤ 1000000000 := by
      rw [List.getD_eq_getElem?_getD]
      cases h : cs[k]? with
      | none => simp
      | some x => exact hc x (List.mem_of_getElem? h)
    have e : ((k + 1 : Nat) : Int) = (k : Int) + 1 := by omega
    simp only [sumG]
    split <;> omega
theorem whoTo_len (rides : List ByteArray) (g k : Nat) : (whoTo rides g k).length ≤ k := by
  induction k with
  | zero => exact Nat.le_refl _
  | succ k ih =>
    simp only [whoTo]
    split
    · rw [List.length_append]; simp; omega
    · omega
theorem gainL_drop (rides : List ByteArray) (ct cs : List Int) (m g : Nat) (hg : g < m) : gainL rides ct cs ((List.range m).drop g) = if cs.getD g 0 < sumG ct g rides.length then whoTo rides g rides.length else gainL rides ct cs ((List.range m).drop (g + 1)) := by
  rw [List.drop_eq_getElem_cons (by simpa using hg)]
  simp [gainL]
/-- The first group that would pay less. -/
def gainV (rides : List ByteArray) (cs : List Int) (ds : List Due) : List ByteArray := gainL rides (ds.map (·.cents)) cs (List.range (2 ^ rides.length))
/-- Keys, or a fault. -/
def KeysU (F : Int) (who : List ByteArray) (w : World) (e : Ending) (w' : World) : Prop :=
  ∃ (A : Option Addr) (c : Nat) (zs : List ByteArray), e = .returned (.tuple #[.slice A zs.length c, .int .i64 F]) ∧ zs = (if F = 0 then who else []) ∧ Rd w' w.heap.size A 1 encS zs ∧ Nx w w'
theorem KeysU.no {F : Int} {who : List ByteArray} {w w' : World} (h : F ≠ 0) (hn : Nx w w') : KeysU F who w (.returned (.tuple #[.slice none 0 0, .int .i64 F])) w' := ⟨none, 0, [], rfl, by rw [if_neg h], Rd.nil, hn⟩

theorem duesF_right {l : List ByteArray} {ds : List Due} (h : duesF l ds = 0) : l = ds.map (·.key) ∧ ds.any badD = false := by
  unfold duesF at h
  by_cases h1 : l = ds.map (·.key)
  · rw [if_pos h1] at h
    cases h2 : ds.any badD
    · exact ⟨h1, rfl⟩
    · rw [show (ds.any fun d => outB d.cents (-maxCt) maxCt) = true from h2] at h; simp at h
  · rw [if_neg h1] at h; omega
theorem fairF_right {l : List ByteArray} {cs : List Int} (h : fairF l cs = 0) : l.length ≤ 10 ∧ cs.length = 2 ^ l.length ∧ cs.getD 0 0 = 0 ∧ ∀ x ∈ cs, 0 ≤ x ∧ x ≤ 1000000000 := by
  unfold fairF at h
  by_cases h1 : keysF l = 0
  · rw [if_pos h1] at h
    by_cases h2 : cs.length = 2 ^ l.length
    · rw [if_pos h2] at h
      by_cases h3 : cs.getD 0 0 ≠ 0 ∨ cs.any centB = true
      · rw [if_pos h3] at h; omega
      · refine ⟨keysF_len h1, h2, Classical.byContradiction fun h4 => h3 (.inl h4), fun x hx => centB_bd ?_⟩
        cases h5 : centB x
        · rfl
        · exact absurd (.inr (List.any_eq_true.2 ⟨x, hx, h5⟩)) h3
    · rw [if_neg h2] at h; omega
  · rw [if_neg h1] at h; exact absurd h h1
theorem badD_bd {ds : List Due} (h : ds.any badD = false) : ∀ x ∈ ds.map (·.cents), -1000000000 ≤ x ∧ x ≤ 1000000000 := by
  intro x hx
  obtain ⟨d, hd, rfl⟩ := List.mem_map.1 hx
  have : badD d = false := by
    cases h1 : badD d
    · rfl
    · exact absurd (List.any_eq_true.2 ⟨d, hd, h1⟩) (by rw [h]; simp)
  have := outB_false.1 this
  unfold maxCt at this
  exact this

theorem bit_zero (i : Nat) : bitN 0 i = 0 := by unfold bitN; simp
theorem sumG_zero (cs : List Int) (k : Nat) : sumG cs 0 k = 0 := by
  induction k with
  | zero => rfl
  | succ k ih => simp only [sumG]; rw [bit_zero, if_neg (by omega), ih]
end Go.Proofs.YtbhlldpmklkeoaaGreatDoor
/- A whole shared fairly: the reference's. -/
namespace Go.Proofs.YtbhlldpmklkeoaaGreatDoor
open Go.RowKit Go.Sort Go.Proofs Go.Shelf

def factL (k : Nat) : List Int := (List.range k).map (fun j => ((factN j : Nat) : Int))
theorem factL_len (k : Nat) : (factL k).length = k := by simp [factL]
theorem factL_snoc (k : Nat) : factL (k + 1) = factL k ++ [((factN k : Nat) : Int)] := by unfold factL; rw [List.range_succ, List.map_append]; rfl
theorem factL_get (k j : Nat) (h : j < (factL k).length) : (factL k)[j] = ((factN j : Nat) : Int) := by simp [factL]
theorem factN_bd : ∀ j : Fin 8, 1 ≤ factN j.val ∧ factN j.val ≤ 5040 := by decide
theorem fact_bd (j : Nat) (h : j ≤ 7) : 1 ≤ factN j ∧ factN j ≤ 5040 := factN_bd ⟨j, by omega⟩
theorem w_small : ∀ (n : Fin 7) (s : Fin 7), s.val + 1 ≤ n.val → factN s.val * factN (n.val - 1 - s.val) ≤ 120 := by decide
theorem wN_bd (n g : Nat) (hn : n ≤ 6) (hs : szN n g + 1 ≤ n) : wN n g ≤ 120 := by
  unfold wN
  exact w_small ⟨n, by omega⟩ ⟨szN n g, by omega⟩ hs
theorem getD_bd {cs : List Int} (h : ∀ x ∈ cs, 0 ≤ x ∧ x ≤ 1000000000) (k : Nat) : 0 ≤ cs.getD k 0 ∧ cs.getD k 0 ≤ 1000000000 := by
  rw [List.getD_eq_getElem?_getD]
  cases h1 : cs[k]? with
  | none => simp
  | some x => exact h x (List.mem_of_getElem? h1)
theorem szN_at (n g i : Nat) (hn : n ≤ 6) (hg : g < 64) (hi : i < n) (h0 : bitN g i = 0) : szN n g + 1 ≤ n := szN_small ⟨n, by omega⟩ ⟨g, hg⟩ ⟨i, by omega⟩ hi h0
theorem term_bd (n : Nat) (hn : n ≤ 6) (cs : List Int) (h : ∀ x ∈ cs, 0 ≤ x ∧ x ≤ 1000000000) (g i : Nat) (hg : g < 64) (hi : i < n) : -120000000000 ≤ term n cs g i ∧ term n cs g i ≤ 120000000000 := by
  unfold term
  by_cases h0 : bitN g i = 0
  · rw [if_pos h0]
    have h1 := wN_bd n g hn (szN_at n g i hn hg hi h0)
    have h2 := getD_bd h (g + 2 ^ i)
    have h3 := getD_bd h g
    generalize cs.getD (g + 2 ^ i) 0 = a at *
    generalize cs.getD g 0 = b at *
    generalize wN n g = W at *
    have h4 : (W : Int) * (a - b) ≤ W * 1000000000 := Int.mul_le_mul_of_nonneg_left (by omega) (by omega)
    have h5 : (W : Int) * (-1000000000) ≤ W * (a - b) := Int.mul_le_mul_of_nonneg_left (by omega) (by omega)
    omega
  · rw [if_neg h0]; omega
theorem numTo_bd (n : Nat) (hn : n ≤ 6) (cs : List Int) (h : ∀ x ∈ cs, 0 ≤ x ∧ x ≤ 1000000000) (g i : Nat) (hg : g ≤ 64) (hi : i < n) : -(g * 120000000000 : Int) ≤ numTo n cs g i ∧ numTo n cs g i ≤ g * 120000000000 := by
  induction g with
  | zero => simp [numTo]
  | succ g ih =>
    have h1 := ih (by omega)
    have h2 := term_bd n hn cs h g i (by omega) hi
    simp only [numTo]
    omega
theorem numsF_len (n : Nat) (cs : List Int) (g : Nat) : (numsF n cs g).length = n := by simp [numsF]
theorem numsF_get (n : Nat) (cs : List Int) (g i : Nat) (h : i < (numsF n cs g).length) : (numsF n cs g)[i] = numTo n cs g i := by simp [numsF]
theorem set_self {L : List Int} {k : Nat} (hk : k < L.length) {x : Int} (h : L[k] = x) : L.set k x = L := by
  apply List.ext_getElem
  · simp
  · intro i h1 h2
    rw [List.getElem_set]
    split
    · rename_i e; subst e; exact h.symm
    · rfl
theorem fillN_at (L : List Int) (k : Nat) (hk : k < L.length) : (fillN L k)[k]'(by rw [fillN_len _ _ (by omega)]; exact hk) = 0 := by
  have hl : (L.take k).length = k := by rw [List.length_take]; omega
  unfold fillN
  rw [List.getElem_append_right (by omega)]
  simp

theorem encDue_len (x : Due) : (encDue x).length = 2 := rfl
theorem encDue_one (x : Due) : ∀ v ∈ encDue x, v.oneCell' = true := by
  intro v hv; simp [encDue] at hv; rcases hv with rfl | rfl <;> rfl
theorem made_dues (n : Nat) : (madeCells #[.string ByteArray.empty, .int .i64 0] (n * 2)).toList = (List.replicate n (⟨ByteArray.empty, 0⟩ : Due)).flatMap encDue := by
  apply List.ext_getElem?
  intro j
  by_cases hj : j < n * 2
  · have h1 : (madeCells #[.string ByteArray.empty, .int .i64 0] (n * 2)).toList[j]? = some (#[Value.string ByteArray.empty, .int .i64 0][j % 2]!) := by
      simp [madeCells, hj]
    have h2 : (List.replicate n (⟨ByteArray.empty, 0⟩ : Due))[j / 2]? = some ⟨ByteArray.empty, 0⟩ := by
      rw [List.getElem?_replicate, if_pos (by omega)]
    have hm : j % 2 = 0 ∨ j % 2 = 1 := by omega
    have e : j / 2 * 2 + j % 2 = j := by omega
    rcases hm with hm | hm
    · have := flat_get (xs := List.replicate n (⟨ByteArray.empty, 0⟩ : Due)) encDue_len (j / 2) _ h2 (j % 2) (.string ByteArray.empty) (by rw [hm]; rfl)
      rw [e] at this
      rw [h1, this, hm]; rfl
    · have := flat_get (xs := List.replicate n (⟨ByteArray.empty, 0⟩ : Due)) encDue_len (j / 2) _ h2 (j % 2) (.int .i64 0) (by rw [hm]; rfl)
      rw [e] at this
      rw [h1, this, hm]; rfl
  · rw [List.getElem?_eq_none (by simp [madeCells]; omega), List.getElem?_eq_none (by rw [flat_len encDue_len]; simp; omega)]
theorem Nx.cellS {a w : World} (h : Nx a w) {p : Addr} {v : Value} (hc : a.cell? p = some v) : w.cell? p = some v :=
  (Below.cell h (World.block_lt_of_cell? a _ hc)).trans hc
section
variable {α : Type}
/-- A list filled up to k, the rest d. -/
def fillG (d : α) (L : List α) (k : Nat) : List α := L.take k ++ List.replicate (L.length - k) d
theorem fillG_len (d : α) (L : List α) (k : Nat) (hk : k ≤ L.length) : (fillG d L k).length = L.length := by unfold fillG; simp; omega
theorem fillG_zero (d : α) (L : List α) : fillG d L 0 = List.replicate L.length d := by simp [fillG]
theorem fillG_all (d : α) (L : List α) : fillG d L L.length = L := by simp [fillG]
theorem fillG_set (d : α) (L : List α) (k : Nat) (hk : k < L.length) : (fillG d L k).set k L[k] = fillG d L (k + 1) := by
  unfold fillG
  obtain ⟨m, hm⟩ : ∃ m, L.length - k = m + 1 := ⟨L.length - k - 1, by omega⟩
  have hm2 : L.length - (k + 1) = m := by omega
  have hl : (L.take k).length = k := by rw [List.length_take]; omega
  rw [hm, hm2, List.replicate_succ, List.set_append_right _ _ (by omega), hl, Nat.sub_self, List.set_cons_zero, List.take_succ_eq_append_getElem hk, List.append_assoc]; rfl
theorem rd_own {w : World} {base g cap n K : Nat} {e : TypeId} {enc : α → List Value} {xs : List α} (hk : ∀ x, (enc x).length = K) (hn : xs.length = n) (h : w.ownsRow base e K (.slice (some ⟨g, 0, none⟩) n cap) n (xs.flatMap enc)) : Rd w base (some ⟨g, 0, none⟩) K enc xs := by
  obtain ⟨A, c, ev, hR, _⟩ := Rd.of_own hk hn.symm h
  injection ev with e1 _ _
  rw [e1]; exact hR
end
end Go.Proofs.YtbhlldpmklkeoaaGreatDoor
