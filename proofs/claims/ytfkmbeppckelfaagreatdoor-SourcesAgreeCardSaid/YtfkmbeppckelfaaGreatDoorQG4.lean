/- slices.ContainsFunc over numbers and dues, slices.EqualFunc of keys and dues: each for every function value that answers plainly. -/
import Derived.Test.YtfkmbeppckelfaaGreatDoorQG1
import Derived.Test.YtfkmbeppckelfaaGreatDoorQG0
import Derived.Laws.OwnMore
import Derived.Laws.Bits64
import Derived.WalkKit
import Derived.IntWalk
import Derived.StillTailTactics
import Derived.Lib.SliceRun
import Derived.Lib.Bytealg
namespace Go.Proofs.YtfkmbeppckelfaaGreatDoor
open Go.RowKit

def Enters (g : Nat) : Prop := ∀ args w, (callFunc g args).run Tryz.prog w = .ok (.enter g args) w

theorem eqS_iff (s t : ByteArray) : (s.toList == t.toList) = decide (s = t) := by
  rw [Bool.eq_iff_iff, beq_iff_eq, decide_eq_true_eq, Lib.toList_data, Lib.toList_data]
  constructor
  · intro h
    rcases s with ⟨⟨s⟩⟩
    rcases t with ⟨⟨t⟩⟩
    simp at h
    rw [h]
  · rintro rfl; rfl

end Go.Proofs.YtfkmbeppckelfaaGreatDoor
/- What is wrong with costs and dues: the program's and the reference's words. -/
namespace Go.Proofs.YtfkmbeppckelfaaGreatDoor
open Go.RowKit

theorem centB_bd {n : Int} (h : centB n = false) : 0 ≤ n ∧ n ≤ 1000000000 := by have := outB_false.1 h; unfold maxCt at this; exact this
end Go.Proofs.YtfkmbeppckelfaaGreatDoor
/- fare.Divide, whatever it is handed; what is wrong with parts; 'priced' answers true. -/
namespace Go.Proofs.YtfkmbeppckelfaaGreatDoor
open Go.RowKit Go.Sort Go.Proofs Go.Shelf

theorem partsF_cents {cents : Int} {parts : List Int} (h : centB cents = true) : partsF cents parts = 1 := by unfold partsF; rw [h]; rfl
theorem partsF_any {cents : Int} {parts : List Int} (h : centB cents = false) (h2 : parts.length < 20) (h3 : parts.any centB = true) : partsF cents parts = 1 := by
  unfold partsF; rw [h, h3]; simp; omega
theorem partsF_sum {cents : Int} {parts : List Int} (h : centB cents = false) (h2 : parts.length < 20) (h3 : parts.any centB = false) : partsF cents parts = if sumL parts = 0 then 8 else 0 := by
  unfold partsF; rw [h, h3]; simp; omega
theorem any_at {l : List Int} {p : Int → Bool} {k : Nat} (hk : k < l.length) (h : p l[k] = true) : l.any p = true := List.any_eq_true.2 ⟨_, List.getElem_mem hk, h⟩
theorem any_step {l : List Int} {p : Int → Bool} {k : Nat} (hk : k < l.length) (h : (l.take k).any p = false) (h2 : p l[k] = false) : (l.take (k + 1)).any p = false := by
  rw [List.take_succ_eq_append_getElem hk, List.any_append, h]; simp [h2]
theorem sum_right {l : List Int} (h : l.any centB = false) : 0 ≤ sumL l ∧ sumL l ≤ l.length * 1000000000 := by
  have := sumL_bd l 0 1000000000 (fun x hx => centB_bd (by
    cases h1 : centB x
    · rfl
    · exact absurd (List.any_eq_true.2 ⟨x, hx, h1⟩) (by rw [h]; simp)))
  omega
/-- Cents given out, or a fault. -/
def DivU (F cents : Int) (parts : List Int) (w : World) (e : Ending) (w' : World) : Prop :=
  ∃ (A : Option Addr) (c : Nat) (zs : List Int), e = .returned (.tuple #[.slice A zs.length c, .int .i64 F]) ∧ (F = 0 → Divided cents parts zs) ∧ (F ≠ 0 → zs = []) ∧ Rd w' w.heap.size A 1 encI zs ∧ Nx w w'
theorem DivU.no {F cents : Int} {parts : List Int} {w w' : World} (h : F ≠ 0) (hn : Nx w w') : DivU F cents parts w (.returned (.tuple #[.slice none 0 0, .int .i64 F])) w' := ⟨none, 0, [], rfl, fun h0 => absurd h0 h, fun _ => rfl, Rd.nil, hn⟩

set_option maxRecDepth 100000 in
set_option maxHeartbeats 1000000 in
theorem w_Divide (lo : Nat) (A : Option Addr) (c : Nat) (cents : Int) (parts : List Int) (w : World) (hR : Rd w lo A 1 encI parts) (hl : parts.length < 20) :
    Calls Tryz.prog 67 #[.int .i64 cents, .slice A parts.length c] w (DivU (partsF cents parts) cents parts w) := by
  cases hd : centB cents
  · have HD := hide hd
    have hcb := centB_bd hd
    have HPO := hide (fun h3 => partsF_sum (parts := parts) hd hl h3)
    have HPA := hide (fun h3 => partsF_any (parts := parts) hd hl h3)
    have HDB := hide (fun h3 h4 => w_DivideB lo A c cents parts w hR hl hcb h3 h4)
    generalize hn : parts.length = n at *
    have HR := hide hR
    have HN := hide hn
    unfold centB at hd
    clear hR hn
    go_enter Tryz.func67, Tryz.ntmps67
    go_wp2_with (go_at_call 85; first | (rw [show (1000000000 : Int) = maxCt from rfl]; refine (w_Out _ _ _ _).mono ?_; rintro e w' ⟨rfl, rfl⟩))
    go_loop [4, 5, 6, 8, 16] (fun _ _ s _ i => ∃ k : Nat, k ≤ n ∧ i = .int .i64 k ∧ s = .int .i64 (sumL (parts.take k)) ∧ (parts.take k).any centB = false) (fun _ _ _ _ i => n - (intOf i).toNat)
    case atStart => exact ⟨0, Nat.zero_le _, rfl, rfl, rfl⟩
    case round =>
      obtain ⟨k, hk, rfl, rfl, hq⟩ := hrel
      have hsb := sum_right hq
      have hkl : (parts.take k).length ≤ k := List.length_take_le _ _
      have HQ := hide hq
      clear hq
      by_cases hlt : k < n
      · have hlt' : k < parts.length := by have := HN.out; omega
        have HT := hide (sumL_take parts k hlt')
        obtain ⟨b, off, rfl, _, hb, _, hc⟩ := HR.out.open_ (Nx.refl w) (by omega)
        have c0 : w.cell? ⟨b, off + k, none⟩ = some (.int .i64 parts[k]) := by have := hc k hlt' 0 _ rfl; simpa using this
        clear hc
        cases hx : centB parts[k]
        · have HX := hide (any_step hlt' HQ.out hx)
          have hxb := centB_bd hx
          unfold centB at hx
          generalize sumL (parts.take k) = s at *
          go_wp2_with (go_at_call 85; first | (rw [show (1000000000 : Int) = maxCt from rfl]; refine (w_Out _ _ _ _).mono ?_; rintro e w' ⟨rfl, rfl⟩))
          go_round
          case rel => exact ⟨k + 1, by omega, by go_num, by rw [HT.out], HX.out⟩
          case measure => simp [intOf]; omega
        · have HF := hide (HPA.out (any_at hlt' hx))
          unfold centB at hx
          go_wp2_with (go_at_call 85; first | (rw [show (1000000000 : Int) = maxCt from rfl]; refine (w_Out _ _ _ _).mono ?_; rintro e w' ⟨rfl, rfl⟩))
          go_ret2
          rw [HF.out]
          exact DivU.no (by omega) (Nx.refl _)
      · have HK := hide (show parts.take k = parts from List.take_of_length_le (by have := HN.out; omega))
        rw [HK.out] at hsb HQ ⊢
        have HF := hide (HPO.out HQ.out)
        by_cases hz : sumL parts = 0
        · have t1 : (sumL parts == 0) = true := by simpa using hz
          have HZ := hide hz
          clear hz
          go_wp2_with fail
          go_ret2
          rw [HF.out, if_pos HZ.out]
          exact DivU.no (by omega) (Nx.refl _)
        · have t1 : (sumL parts == 0) = false := by simpa using hz
          have HZ := hide hz
          clear hz
          go_wp2_with (go_at_call 107; refine (HDB.out (fun p hp => centB_bd (by cases h1 : centB p; rfl; exact absurd (List.any_eq_true.2 ⟨p, hp, h1⟩) (by rw [HQ.out]; simp))) (by have := HZ.out; omega)).mono ?_; rintro e w2 ⟨A', c', zs, rfl, hdv, hR2, hn2⟩)
          go_ret2
          rw [HF.out, if_neg HZ.out]
          exact ⟨A', c', zs, rfl, fun _ => hdv, fun h => absurd rfl h, hR2, hn2⟩
  · have HF := hide (partsF_cents (parts := parts) hd)
    clear hR
    generalize parts.length = n at *
    unfold centB at hd
    go_enter Tryz.func67, Tryz.ntmps67
    go_wp2_with (go_at_call 85; first | (rw [show (1000000000 : Int) = maxCt from rfl]; refine (w_Out _ _ _ _).mono ?_; rintro e w' ⟨rfl, rfl⟩))
    go_ret2
    rw [HF.out]
    exact DivU.no (by omega) (Nx.refl _)

set_option maxRecDepth 100000 in
set_option maxHeartbeats 1000000 in
theorem w_EqualI (lo lo' : Nat) (A B : Option Addr) (c d : Nat) (l : List Int) (w : World) (hA : Rd w lo A 1 encI l) (hB : Rd w lo' B 1 encI l) (hl : l.length ≤ 65536) :
    Calls Tryz.prog 69 #[.slice A l.length c, .slice B l.length d] w fun e w' => e = .returned (.bool true) ∧ Nx w w' := by
  generalize hn : l.length = n at *
  have HA := hide hA
  have HB := hide hB
  have HN := hide hn
  clear hA hB hn
  go_enter Tryz.func69, Tryz.ntmps69
  go_wp2
  go_loopw [5, 13] (fun _ i wr => ∃ k : Nat, k ≤ n ∧ i = .int .i64 k ∧ Nx w wr) (fun _ i _ => n - (intOf i).toNat)
  case atStart => exact ⟨0, Nat.zero_le _, rfl, Nx.refl _⟩
  case round =>
    obtain ⟨k, hk, rfl, hbw⟩ := hrel
    by_cases hlt : k < n
    · have hlt' : k < l.length := by have := HN.out; omega
      obtain ⟨b, off, rfl, _, hb, hbr, hc⟩ := HA.out.open_ hbw (by omega)
      obtain ⟨b', off', rfl, _, hb', hbr', hc'⟩ := HB.out.open_ hbw (by omega)
      have c0 : wr.cell? ⟨b, off + k, none⟩ = some (.int .i64 l[k]) := by have := hc k hlt' 0 _ rfl; simpa using this
      have d0 : wr.cell? ⟨b', off' + k, none⟩ = some (.int .i64 l[k]) := by have := hc' k hlt' 0 _ rfl; simpa using this
      clear hc hc'
      have q1 : (0 : Int) ≤ (k : Int) := by omega
      have q2 : (k : Int) < (n : Int) := by omega
      go_wp2_with fail
      go_quiet (fail)
      go_wp2
      go_roundw
      case rel => exact ⟨k + 1, by omega, by go_num, hbw.drewN _⟩
      case measure => simp [intOf]; omega
    · go_wp2
      go_ret
      exact ⟨rfl, hbw⟩

end Go.Proofs.YtfkmbeppckelfaaGreatDoor
/- More words for memory, of no program: rows out of literals, prefixes of rows, rows that stay while others turn. -/
namespace Go.Proofs.YtfkmbeppckelfaaGreatDoor
open Go.RowKit

section
variable {α : Type} {w w' : World} {lo K : Nat} {A : Option Addr} {enc : α → List Value} {xs : List α}
/-- The first ones of a slice. -/
theorem Rd.take (h : Rd w lo A K enc xs) (n : Nat) : Rd w lo A K enc (xs.take n) := fun hp => by
  have hp' : 0 < xs.length := by rw [List.length_take] at hp; omega
  obtain ⟨b, off, e, h1, hb, hc⟩ := h hp'
  refine ⟨b, off, e, h1, hb, fun i x hx j u hu => hc i x ?_ j u hu⟩
  have hi : i < (xs.take n).length := (List.getElem?_eq_some_iff.1 hx).1
  rw [List.length_take] at hi
  rw [← hx, List.getElem?_take_of_lt (by omega)]
/-- A row of the call's own out of a literal: its first n elements. -/
theorem own_lit {e : TypeId} {g n m : Nat} {cs : Array Value} {base : Nat} (hk : ∀ x, (enc x).length = K) (hg : w.heap[g]? = some (.cells cs e (0, 0))) (hb : base ≤ g) (hcs : cs.toList = xs.flatMap enc) (hm : xs.length = m) (hn : n ≤ m) (hmax : m ≤ maxLen) :
    w.ownsRow base e K (.slice (some ⟨g, 0, none⟩) n m) n ((xs.take n).flatMap enc) := by
  have hl : (xs.take n).length = n := by rw [List.length_take]; omega
  refine ⟨by rw [flat_len hk, hl], .inr ⟨g, m, cs, rfl, hb, hg, hn, hmax, ?_, ?_⟩⟩
  · rw [← Array.length_toList, hcs, flat_len hk, hm]
  · rw [hcs]
    have e1 : xs.flatMap enc = (xs.take n).flatMap enc ++ (xs.drop n).flatMap enc := by rw [← List.flatMap_append, List.take_append_drop]
    rw [e1, List.take_append_of_le_length (by rw [flat_len hk, hl]; exact Nat.le_refl _), List.take_of_length_le (by rw [flat_len hk, hl]; exact Nat.le_refl _)]
end
end Go.Proofs.YtfkmbeppckelfaaGreatDoor
/- What is handed out: the reference's. -/
namespace Go.Proofs.YtfkmbeppckelfaaGreatDoor
open Go.RowKit Go.Sort Go.Proofs Go.Shelf

/-- The first of the greatest of the first k. -/
structure FM (cs : List Int) (k b : Nat) : Prop where
  at_ : b < cs.length
  in_ : b < k ∨ (k = 0 ∧ b = 0)
  up : ∀ j, j < k → cs.getD j 0 < cs.getD b 0 ∨ (cs.getD j 0 = cs.getD b 0 ∧ b ≤ j)
theorem FM.start {cs : List Int} (h : 0 < cs.length) : FM cs 0 0 := ⟨h, .inr ⟨rfl, rfl⟩, fun j hj => by omega⟩
theorem FM.more {cs : List Int} {k b : Nat} (h : FM cs k b) (hk : k < cs.length) (hlt : cs.getD b 0 < cs.getD k 0) : FM cs (k + 1) k :=
  ⟨hk, .inl (by omega), fun j hj => by
    rcases Nat.lt_or_ge j k with h1 | h1
    · have := h.up j h1; omega
    · have e : j = k := by omega
      subst e; exact .inr ⟨rfl, Nat.le_refl _⟩⟩
theorem FM.same {cs : List Int} {k b : Nat} (h : FM cs k b) (hlt : ¬ cs.getD b 0 < cs.getD k 0) : FM cs (k + 1) b :=
  ⟨h.at_, .inl (by have := h.in_; omega), fun j hj => by
    rcases Nat.lt_or_ge j k with h1 | h1
    · exact h.up j h1
    · have e : j = k := by omega
      subst e
      have := h.in_
      omega⟩
end Go.Proofs.YtfkmbeppckelfaaGreatDoor
/- Groups that would pay less alone. -/
namespace Go.Proofs.YtfkmbeppckelfaaGreatDoor
open Go.RowKit Go.Sort Go.Proofs Go.Shelf

theorem el_S : ElemOf Tryz.prog 55 9 1 16 := ElemOf.mk' (z := .string ByteArray.empty) Tryz.underlying55 (by kernel_rfl) rfl
theorem encS_len (x : ByteArray) : (encS x).length = 1 := rfl
theorem encS_one (x : ByteArray) : ∀ v ∈ encS x, v.oneCell' = true := by
  intro v hv; simp [encS] at hv; subst hv; rfl
/-- Keys, or a fault. -/
def KeysU (F : Int) (who : List ByteArray) (w : World) (e : Ending) (w' : World) : Prop :=
  ∃ (A : Option Addr) (c : Nat) (zs : List ByteArray), e = .returned (.tuple #[.slice A zs.length c, .int .i64 F]) ∧ zs = (if F = 0 then who else []) ∧ Rd w' w.heap.size A 1 encS zs ∧ Nx w w'
theorem KeysU.no {F : Int} {who : List ByteArray} {w w' : World} (h : F ≠ 0) (hn : Nx w w') : KeysU F who w (.returned (.tuple #[.slice none 0 0, .int .i64 F])) w' := ⟨none, 0, [], rfl, by rw [if_neg h], Rd.nil, hn⟩

end Go.Proofs.YtfkmbeppckelfaaGreatDoor
/- The stream's strings; clones. -/
namespace Go.Proofs.YtfkmbeppckelfaaGreatDoor
open Go.RowKit Go.Sort Go.Proofs Go.Shelf

/-- A string of some list. -/
def StrSome (zs : List ByteArray) (s k : Nat) (w : World) (e : Ending) (w' : World) : Prop := ∃ r ∈ zs, e = .returned (.string r) ∧ Gr s w w' ∧ Str w' s k
set_option maxRecDepth 100000 in
set_option maxHeartbeats 400000 in
/-- 's.Some(..)' of strings that lie in a block of their own. -/
theorem w_Some (g : Nat) (zs : List ByteArray) (cs : Array Value) (s k : Nat) (w : World) (hS : Str w s k) (hk : k < 1000000) (hg : w.heap[g]? = some (.cells cs 9 (0, 0))) (hne : g ≠ s) (hcs : cs.toList = zs.map Value.string) (h0 : zs ≠ []) (h1 : zs.length < 1000) :
    Calls Tryz.prog 40 #[.pointer (some ⟨s, 0, none⟩), .slice (some ⟨g, 0, none⟩) zs.length zs.length] w (StrSome zs s (k + 1) w) := by
  have hl : cs.size = zs.length := by rw [← Array.length_toList, hcs, List.length_map]
  have hp := List.length_pos_iff.2 h0
  generalize hm : zs.length = m at *
  have HM := hide hm
  clear hm h0
  go_enter Tryz.func40, Tryz.ntmps40
  go_wp2_with (go_at_call 11; refine (w_Next _ _ _ _ hS hk (by omega)).mono ?_; rintro e w' ⟨r, hr1, hr2, rfl, hgr, hS'⟩; (obtain ⟨q, rfl⟩ := Int.eq_ofNat_of_zero_le hr1); (have hq : q < zs.length := by have := HM.out; omega); (have hcell : w'.cell? ⟨g, q, none⟩ = some (.string zs[q]) := World.grownBy.cell hgr ((cell_of_row w g q _ _ _ hg).trans (by rw [← Array.getElem?_toList, hcs, List.getElem?_map, List.getElem?_eq_getElem hq]; rfl)) (by simp; omega)))
  go_ret
  exact ⟨_, List.getElem_mem hq, rfl, hgr, hS'⟩

end Go.Proofs.YtfkmbeppckelfaaGreatDoor
/- What the slots of a stream's statement hold, said by shape alone. -/
namespace Go.Proofs.YtfkmbeppckelfaaGreatDoor
open Go.RowKit

/-- A step of a stream's statement: block s (the stream) may turn, block b (what is made) may turn, all else stays. -/
def Two (s b : Nat) (w w' : World) : Prop :=
  w'.os = w.os ∧ w'.tape = w.tape ∧ w'.output = w.output ∧ w.heap.size ≤ w'.heap.size ∧ ∀ i, i < w.heap.size → i ≠ s → i ≠ b → w'.heap[i]? = w.heap[i]?
theorem Two.refl (s b : Nat) (w : World) : Two s b w w := ⟨rfl, rfl, rfl, Nat.le_refl _, fun _ _ _ _ => rfl⟩
theorem Two.of_gr {s b : Nat} {w w' : World} (h : Gr s w w') : Two s b w w' :=
  ⟨h.os, h.tape, h.output, h.sz, fun i hi hs _ => h.block i hi (by intro e; injection e with e; exact hs e)⟩
theorem Two.trans {s b : Nat} {w w' w'' : World} (h : Two s b w w') (k : Two s b w' w'') : Two s b w w'' :=
  ⟨k.1.trans h.1, k.2.1.trans h.2.1, k.2.2.1.trans h.2.2.1, Nat.le_trans h.2.2.2.1 k.2.2.2.1, fun i hi hs hb => (k.2.2.2.2 i (Nat.lt_of_lt_of_le hi h.2.2.2.1) hs hb).trans (h.2.2.2.2 i hi hs hb)⟩

def ShPtr (b o : Nat) (v : Value) (_w : World) : Prop := v = .pointer (some ⟨b, o, none⟩)
/-- A literal of n small strings in a block of its own. -/
def ShLitS (s b n : Nat) (v : Value) (w : World) : Prop :=
  ∃ (g : Nat) (zs : List ByteArray), v = .slice (some ⟨g, 0, none⟩) n n ∧ zs.length = n ∧ (∀ z ∈ zs, z.size ≤ 1000000) ∧ g ≠ s ∧ g ≠ b ∧ w.heap[g]? = some (.cells (zs.map Value.string).toArray 9 (0, 0))
/-- A literal of n numbers in a block of its own. -/
def ShLitI (s b n : Nat) (v : Value) (w : World) : Prop :=
  ∃ (g : Nat) (zs : List Int), v = .slice (some ⟨g, 0, none⟩) n n ∧ zs.length = n ∧ g ≠ s ∧ g ≠ b ∧ w.heap[g]? = some (.cells (zs.map (Value.int .i64)).toArray 3 (0, 0))
theorem ShLitS.keep {s b n : Nat} {v : Value} {w w' : World} (h : ShLitS s b n v w) (k : Two s b w w') : ShLitS s b n v w' := by
  obtain ⟨g, zs, h1, h2, h3, h4, h5, h6⟩ := h
  exact ⟨g, zs, h1, h2, h3, h4, h5, (k.2.2.2.2 g (Array.getElem?_eq_some_iff.1 h6).1 h4 h5).trans h6⟩
theorem ShLitI.keep {s b n : Nat} {v : Value} {w w' : World} (h : ShLitI s b n v w) (k : Two s b w w') : ShLitI s b n v w' := by
  obtain ⟨g, zs, h1, h2, h3, h4, h5⟩ := h
  exact ⟨g, zs, h1, h2, h3, h4, (k.2.2.2.2 g (Array.getElem?_eq_some_iff.1 h5).1 h3 h4).trans h5⟩

section
variable {ops : Array Oper} {Q : Exit → Act → World → Prop} {i : Nat} {o : Oper} {a : Act} {w : World} {K : Act → World → Prop}
theorem run_call {f : FuncId} {xs : Array Operand} {ts : Array TypeId} (hop : o.op = .call { callee := .value (.func f), args := xs, argTypes := ts }) (he : ∀ args w, (callFunc f args).run Tryz.prog w = .ok (.enter f args) w) : (execOp a.eval o).run Tryz.prog w = .ok (.enter f (xs.map a.eval)) w := by
  unfold execOp
  rw [hop]
  have e : a.eval (.func f) = .func (.func f) #[] #[] := rfl
  simp [resolve, e, Deferred.ofValue, invoke, he]
end
end Go.Proofs.YtfkmbeppckelfaaGreatDoor
/- Plain: the order of strings by their bytes. -/
namespace Go.Proofs.YtfkmbeppckelfaaGreatDoor
open Go.Proofs

theorem cmpB_zero : ∀ a b : List UInt8, Lib.compareBytes a b = 0 ↔ a = b
  | [], [] => by simp [Lib.compareBytes]
  | [], _ :: _ => by simp [Lib.compareBytes]
  | _ :: _, [] => by simp [Lib.compareBytes]
  | a :: x, b :: y => by
    unfold Lib.compareBytes
    by_cases h1 : a < b
    · have : a ≠ b := fun e => by subst e; exact UInt8.lt_irrefl a h1
      simp [h1, this]
    · by_cases h2 : b < a
      · have : a ≠ b := fun e => by subst e; exact UInt8.lt_irrefl a h2
        simp [h1, h2, this]
      · have e : a = b := UInt8.le_antisymm (UInt8.not_lt.1 h2) (UInt8.not_lt.1 h1)
        subst e
        simp [h1, cmpB_zero x y]
theorem cmpB_neg : ∀ a b : List UInt8, Lib.compareBytes a b < 0 ↔ a < b
  | [], [] => by simp [Lib.compareBytes]
  | [], _ :: _ => by simp [Lib.compareBytes]
  | _ :: _, [] => by simp [Lib.compareBytes]
  | a :: x, b :: y => by
    unfold Lib.compareBytes
    rw [List.cons_lt_cons_iff]
    by_cases h1 : a < b
    · simp [h1]
    · by_cases h2 : b < a
      · have : a ≠ b := fun e => by subst e; exact UInt8.lt_irrefl a h2
        simp [h1, h2, this]
      · have e : a = b := UInt8.le_antisymm (UInt8.not_lt.1 h2) (UInt8.not_lt.1 h1)
        subst e
        simp [h1, cmpB_neg x y]
def cmpS (a b : ByteArray) : Int := Lib.compareBytes a.data.toList b.data.toList
def ltS (a b : ByteArray) : Prop := a.data.toList < b.data.toList
theorem data_inj {a b : ByteArray} (h : a.data.toList = b.data.toList) : a = b := by
  obtain ⟨⟨a⟩⟩ := a
  obtain ⟨⟨b⟩⟩ := b
  simp at h
  rw [h]
theorem cmpS_zero {a b : ByteArray} : cmpS a b = 0 ↔ a = b := by
  unfold cmpS
  rw [cmpB_zero]
  exact ⟨data_inj, fun h => by rw [h]⟩
theorem cmpS_neg {a b : ByteArray} : cmpS a b < 0 ↔ ltS a b := cmpB_neg _ _
theorem ltS_trans {a b c : ByteArray} (h : ltS a b) (h' : ltS b c) : ltS a c := List.lt_trans h h'
theorem ltS_irrefl (a : ByteArray) : ¬ ltS a a := List.lt_irrefl _
theorem ltS_tri (a b : ByteArray) (h : ¬ ltS a b) (h' : ¬ ltS b a) : a = b := data_inj (List.le_antisymm (List.not_lt.1 h') (List.not_lt.1 h))
end Go.Proofs.YtfkmbeppckelfaaGreatDoor
/- Plain: events, and what is wrong with them. -/
namespace Go.Proofs.YtfkmbeppckelfaaGreatDoor

/-- An event. -/
structure Ev where
  source : ByteArray
  no : Int
  at_ : Int
  kind : Int
  ride : ByteArray
  car : ByteArray
  node : ByteArray
  up : Int
  down : Int
  from_ : ByteArray
  number : Int
deriving DecidableEq

def eB : ByteArray := ⟨#[]⟩
def uRide (k : Int) : Bool := k == 1 || k == 2 || k == 3 || k == 4 || k == 5 || k == 6
def uCar (k : Int) : Bool := k == 2 || k == 3 || k == 4 || k == 7 || k == 8
def uNode (k : Int) : Bool := k == 3 || k == 4 || k == 7
def uBook (k : Int) : Bool := k == 1
def uUndo (k : Int) : Bool := k == 9
/-- An event without what its kind does not use. -/
def leanE (x : Ev) : Ev :=
  { source := x.source, no := x.no, at_ := x.at_, kind := x.kind, ride := if uRide x.kind then x.ride else eB, car := if uCar x.kind then x.car else eB, node := if uNode x.kind then x.node else eB,
    up := if uBook x.kind then x.up else 0, down := if uBook x.kind then x.down else 0, from_ := if uUndo x.kind then x.from_ else eB, number := if uUndo x.kind then x.number else 0 }
/-- What is wrong with an event by itself. -/
def evF (x : Ev) : Int :=
  if keyB x.source = false then 5
  else if outB x.no 1 3000 || !momB x.at_ then 1
  else if outB x.kind 1 9 then 4
  else if (uRide x.kind && !keyB x.ride) || (uCar x.kind && !keyB x.car) || (uNode x.kind && !keyB x.node) || (uUndo x.kind && !keyB x.from_) then 5
  else if (uBook x.kind && (outB x.up x.at_ lastMo || outB x.down x.up lastMo)) || (uUndo x.kind && outB x.number 1 3000) then 1
  else if x ≠ leanE x then 3 else 0
def evOrd (a b : Ev) : Int := orI [cmpI a.at_ b.at_, cmpS a.source b.source, cmpI a.no b.no]
/-- An event does not come behind the one ahead of it. -/
def lateB : Option Ev → Ev → Bool
  | none, _ => false
  | some q, x => decide (evOrd x q ≤ 0)
/-- The events' order among themselves, behind one and behind numbers of sources. -/
def evsGo : Option Ev → (ByteArray → Int) → List Ev → Int
  | _, _, [] => 0
  | p, f, x :: l =>
    if evF x ≠ 0 then evF x
    else if lateB p x then 7
    else if x.no ≠ f x.source + 1 then 16
    else evsGo (some x) (fun s => if s = x.source then x.no else f s) l
/-- What is wrong with events (50 of them at most). -/
def evsF (l : List Ev) : Int := evsGo none (fun _ => 0) l

theorem cmpI_swap (a b : Int) : cmpI b a = -cmpI a b := by unfold cmpI; split <;> split <;> omega
theorem cmpS_swap (a b : ByteArray) : cmpS b a = -cmpS a b := by
  have h : ∀ x y : List UInt8, Lib.compareBytes y x = -Lib.compareBytes x y := by
    intro x
    induction x with
    | nil => intro y; cases y <;> simp [Lib.compareBytes]
    | cons a x ih =>
      intro y
      cases y with
      | nil => simp [Lib.compareBytes]
      | cons b y =>
        unfold Lib.compareBytes
        by_cases h1 : a < b
        · have h2 : ¬ b < a := fun h => UInt8.lt_irrefl a (UInt8.lt_trans h1 h)
          simp [h1, h2]
        · by_cases h2 : b < a
          · simp [h1, h2]
          · simp [h1, h2, ih y]
  exact h _ _
theorem evOrd_neg {a b : Ev} : evOrd a b < 0 ↔ a.at_ < b.at_ ∨ (a.at_ = b.at_ ∧ (ltS a.source b.source ∨ (a.source = b.source ∧ a.no < b.no))) := by
  unfold evOrd
  simp only [orI]
  have e1 := @cmpI_zero a.at_ b.at_
  have e2 := @cmpI_neg a.at_ b.at_
  have e3 := @cmpS_zero a.source b.source
  have e4 := @cmpS_neg a.source b.source
  have e5 := @cmpI_zero a.no b.no
  have e6 := @cmpI_neg a.no b.no
  by_cases h1 : a.at_ = b.at_
  · rw [if_pos (e1.2 h1)]
    by_cases h2 : a.source = b.source
    · rw [if_pos (e3.2 h2)]
      have h3 : ¬ ltS a.source b.source := by rw [h2]; exact ltS_irrefl _
      by_cases h4 : a.no = b.no
      · rw [if_pos (e5.2 h4)]; simp [h1, h2, h4, ltS_irrefl]
      · rw [if_neg (fun h => h4 (e5.1 h)), e6]; simp [h1, h2, ltS_irrefl]
    · rw [if_neg (fun h => h2 (e3.1 h)), e4]; simp [h1, h2]
  · rw [if_neg (fun h => h1 (e1.1 h)), e2]; simp [h1]
theorem evOrd_swap (a b : Ev) : evOrd b a = -evOrd a b := by
  unfold evOrd
  simp only [orI]
  rw [cmpI_swap a.at_ b.at_, cmpS_swap a.source b.source, cmpI_swap a.no b.no]
  split <;> split <;> (try split) <;> (try split) <;> (try split) <;> (try split) <;> omega
theorem evOrd_trans {a b c : Ev} (h : evOrd a b < 0) (h' : evOrd b c < 0) : evOrd a c < 0 := by
  rw [evOrd_neg] at *
  rcases h with h | ⟨h1, h | ⟨h2, h⟩⟩ <;> rcases h' with h' | ⟨h1', h' | ⟨h2', h'⟩⟩
  · left; omega
  · left; omega
  · left; omega
  · left; omega
  · right; exact ⟨h1.trans h1', .inl (ltS_trans h h')⟩
  · right; exact ⟨h1.trans h1', .inl (by rw [← h2']; exact h)⟩
  · left; omega
  · right; exact ⟨h1.trans h1', .inl (by rw [h2]; exact h')⟩
  · right; exact ⟨h1.trans h1', .inr ⟨h2.trans h2', by omega⟩⟩

/-- What right events are. -/
theorem evsGo_right : ∀ (l : List Ev) (p : Option Ev) (f : ByteArray → Int), evsGo p f l = 0 →
    (∀ x ∈ l, evF x = 0) ∧ l.Pairwise (fun a b => evOrd a b < 0) ∧ (∀ q, p = some q → ∀ x ∈ l, evOrd q x < 0) ∧ l.Pairwise (fun a b => a.source = b.source → a.no < b.no) ∧ (∀ x ∈ l, f x.source < x.no)
  | [], _, _, _ => by simp
  | x :: l, p, f, h => by
    unfold evsGo at h
    by_cases h1 : evF x ≠ 0
    · rw [if_pos h1] at h; exact absurd h h1
    rw [if_neg h1] at h
    have h1 : evF x = 0 := by simpa using h1
    by_cases h2 : lateB p x = true
    · rw [if_pos h2] at h; cases h
    rw [if_neg h2] at h
    by_cases h3 : x.no ≠ f x.source + 1
    · rw [if_pos h3] at h; cases h
    rw [if_neg h3] at h
    have h3 : x.no = f x.source + 1 := by simpa using h3
    obtain ⟨a1, a2, a3, a4, a5⟩ := evsGo_right l _ _ h
    have hq : ∀ q, p = some q → evOrd q x < 0 := by
      intro q hp
      subst hp
      simp [lateB] at h2
      rw [evOrd_swap x q]; omega
    refine ⟨?_, ?_, ?_, ?_, ?_⟩
    · intro y hy
      rcases List.mem_cons.1 hy with rfl | hy
      · exact h1
      · exact a1 y hy
    · exact List.pairwise_cons.2 ⟨a3 x rfl, a2⟩
    · intro q hp y hy
      rcases List.mem_cons.1 hy with rfl | hy
      · exact hq q hp
      · exact evOrd_trans (hq q hp) (a3 x rfl y hy)
    · refine List.pairwise_cons.2 ⟨?_, a4⟩
      intro y hy e
      have := a5 y hy
      simp only [e.symm, if_true] at this
      exact this
    · intro y hy
      rcases List.mem_cons.1 hy with rfl | hy
      · omega
      · have := a5 y hy
        by_cases e : y.source = x.source
        · rw [if_pos e] at this; rw [e]; omega
        · rw [if_neg e] at this; exact this
/-- No two right events have one name. -/
theorem evs_names {l : List Ev} (h : evsF l = 0) {i j : Nat} {x y : Ev} (hx : l[i]? = some x) (hy : l[j]? = some y) (hs : x.source = y.source) (hn : x.no = y.no) : i = j := by
  obtain ⟨_, _, _, a4, _⟩ := evsGo_right l _ _ h
  obtain ⟨hi, ex⟩ := List.getElem?_eq_some_iff.1 hx
  obtain ⟨hj, ey⟩ := List.getElem?_eq_some_iff.1 hy
  rw [List.pairwise_iff_getElem] at a4
  rcases Nat.lt_trichotomy i j with hlt | he | hlt
  · have := a4 i j hi hj hlt (by rw [ex, ey]; exact hs)
    rw [ex, ey] at this; omega
  · exact he
  · have := a4 j i hj hi hlt (by rw [ex, ey]; exact hs.symm)
    rw [ex, ey] at this; omega
theorem evs_right {l : List Ev} (h : evsF l = 0) {x : Ev} (hx : x ∈ l) : evF x = 0 := (evsGo_right l _ _ h).1 x hx
end Go.Proofs.YtfkmbeppckelfaaGreatDoor
/- Plain: what comes of events: by the program's steps, and by the reference's. -/
namespace Go.Proofs.YtfkmbeppckelfaaGreatDoor

/-- How a ride is. -/
structure St where
  ride : ByteArray
  car : ByteArray
  how : Int
  up : Int
  down : Int
  on : Int
  off : Int
deriving DecidableEq
def st0 : St := ⟨eB, eB, 0, 0, 0, 0, 0⟩
/-- How a car is, and who is on board. -/
structure Crew where
  node : ByteArray
  at_ : Int
  broken : Bool
  on : ByteArray → Option Bool
def crew0 : Crew := ⟨eB, 0, false, fun _ => none⟩
/-- The program's day. -/
structure DayP where
  rides : ByteArray → Option St
  cars : ByteArray → Option Crew
/-- The reference's day. -/
structure DayR where
  rides : ByteArray → Option St
  cars : ByteArray → Option (ByteArray × Int)
  broken : ByteArray → Option Bool
def updF {α β : Type} [DecidableEq α] (f : α → Option β) (k : α) (v : β) : α → Option β := fun j => if j = k then some v else f j
theorem updF_same {α β : Type} [DecidableEq α] (f : α → Option β) (k : α) (v : β) : updF f k v k = some v := if_pos rfl
theorem updF_other {α β : Type} [DecidableEq α] (f : α → Option β) {k j : α} (v : β) (h : j ≠ k) : updF f k v j = f j := if_neg h
def dayP0 : DayP := ⟨fun _ => none, fun _ => none⟩
def dayR0 : DayR := ⟨fun _ => none, fun _ => none, fun _ => none⟩
def carP (d : DayP) (k : ByteArray) : Crew := (d.cars k).getD crew0
def brokenP (d : DayP) (k : ByteArray) : Bool := (carP d k).broken
def setC (d : DayP) (k : ByteArray) (c : Crew) : DayP := ⟨d.rides, updF d.cars k c⟩
def setR (d : DayP) (k : ByteArray) (s : St) : DayP := ⟨updF d.rides k s, d.cars⟩
def wasP (d : DayP) (x : Ev) : DayP := setC d x.car { carP d x.car with node := x.node, at_ := x.at_ }
/-- A ride whose car drives no more. -/
def freed (c : ByteArray) (s : St) : St := if s.how = 2 ∧ s.car = c then { s with how := 1, car := eB } else s
def breaksP (d : DayP) (x : Ev) : DayP × Int :=
  if brokenP d x.car then (d, 6) else (⟨fun k => (d.rides k).map (freed x.car), updF d.cars x.car { carP d x.car with broken := true }⟩, 0)
def rideP (d : DayP) (s : St) (x : Ev) : DayP × Int :=
  if x.kind = 2 then
    if ¬ (s.how = 1 ∨ s.how = 2) then (d, 11) else if brokenP d x.car then (d, 16) else (setC (setR d x.ride { s with how := 2, car := x.car }) x.car (carP d x.car), 0)
  else if x.kind = 3 then
    if s.how ≠ 2 then (d, 11) else if s.car ≠ x.car then (d, 13) else if brokenP d x.car then (d, 16)
    else (setC (setR d x.ride { s with how := 3, on := x.at_ }) x.car { carP d x.car with node := x.node, at_ := x.at_, on := updF (carP d x.car).on x.ride true }, 0)
  else if x.kind = 4 then
    if s.how ≠ 3 then (d, 11) else if s.car ≠ x.car then (d, 13)
    else (setC (setR d x.ride { s with how := 4, off := x.at_ }) x.car { carP d x.car with node := x.node, at_ := x.at_, on := fun id => if id = x.ride then none else (carP d x.car).on id }, 0)
  else if x.kind = 5 then
    if ¬ (s.how = 1 ∨ s.how = 2) then (d, 11) else (setR d x.ride { s with how := 5 }, 0)
  else if x.kind = 6 then
    if s.how ≠ 2 then (d, 11) else (setR d x.ride { s with how := 6 }, 0)
  else (d, 0)
/-- The program's step at an event that is no undo. -/
def stepP (d : DayP) (x : Ev) : DayP × Int :=
  if x.kind = 7 then (if brokenP d x.car then (d, 16) else (wasP d x, 0))
  else if x.kind = 8 then breaksP d x
  else if x.kind = 1 then (if (d.rides x.ride).isSome then (d, 6) else (setR d x.ride ⟨x.ride, eB, 1, x.up, x.down, 0, 0⟩, 0))
  else match d.rides x.ride with
    | none => (d, 8)
    | some s => rideP d s x

def brokenR (d : DayR) (k : ByteArray) : Bool := (d.broken k).getD false
def mustR (k : Int) : Int := if k = 3 then 2 else if k = 4 then 3 else if k = 6 then 2 else 0
/-- Why the reference refuses an event that is no undo. -/
def whyR (d : DayR) (e : Ev) : Int :=
  if (e.kind = 1 ∧ (d.rides e.ride).isSome = true) ∨ (e.kind = 8 ∧ brokenR d e.car = true) then 6
  else if e.kind ≠ 1 ∧ uRide e.kind = true ∧ (d.rides e.ride).isSome = false then 8
  else if ((e.kind = 2 ∨ e.kind = 5) ∧ ¬ (((d.rides e.ride).getD st0).how = 1 ∨ ((d.rides e.ride).getD st0).how = 2)) ∨ (mustR e.kind ≠ 0 ∧ ((d.rides e.ride).getD st0).how ≠ mustR e.kind) then 11
  else if (e.kind = 3 ∨ e.kind = 4) ∧ ((d.rides e.ride).getD st0).car ≠ e.car then 13
  else if brokenR d e.car = true ∧ (e.kind = 2 ∨ e.kind = 3 ∨ e.kind = 7) then 16
  else 0
/-- How a ride is behind an event. -/
def rideR (x : St) (e : Ev) : St :=
  if e.kind = 1 then ⟨e.ride, eB, 1, e.up, e.down, 0, 0⟩
  else if e.kind = 2 then { x with how := 2, car := e.car }
  else if e.kind = 3 then { x with how := 3, on := e.at_ }
  else if e.kind = 4 then { x with how := 4, off := e.at_ }
  else if e.kind = 5 then { x with how := 5 }
  else if e.kind = 6 then { x with how := 6 }
  else x
/-- The reference's day behind an event. -/
def doR (d : DayR) (e : Ev) : DayR :=
  { rides := let r := if e.kind = 8 then (fun k => (d.rides k).map (freed e.car)) else d.rides
             if e.ride = eB then r else updF r e.ride (rideR ((d.rides e.ride).getD st0) e),
    cars := if e.car = eB then d.cars else updF d.cars e.car (if e.node = eB then (d.cars e.car).getD (eB, 0) else (e.node, e.at_)),
    broken := if e.kind = 8 then updF d.broken e.car true else d.broken }

/-- The two days say the same. -/
structure Sim (p : DayP) (r : DayR) : Prop where
  rides : ∀ k, p.rides k = r.rides k
  cars : ∀ k, (p.cars k).map (fun c => (c.node, c.at_)) = r.cars k
  broken : ∀ k, brokenP p k = brokenR r k
  key : ∀ k s, r.rides k = some s → s.ride = k
  on : ∀ k c id, p.cars k = some c → (c.on id = some true ∨ c.on id = none) ∧ (c.on id = some true ↔ ∃ s, r.rides id = some s ∧ s.how = 3 ∧ s.car = k)
  onc : ∀ id s, r.rides id = some s → s.how = 2 ∨ s.how = 3 → (p.cars s.car).isSome = true
theorem sim0 : Sim dayP0 dayR0 := ⟨fun _ => rfl, fun _ => rfl, fun _ => rfl, fun _ _ h => (by cases h), fun _ _ _ h => (by cases h), fun _ _ h => (by cases h)⟩
theorem key_ne {s : ByteArray} (h : keyB s = true) : s ≠ eB := by
  intro e; subst e; revert h; decide
/-- What is known of a right event. -/
theorem evF_zero {x : Ev} (h : evF x = 0) : keyB x.source = true ∧ (1 ≤ x.no ∧ x.no ≤ 3000) ∧ (0 ≤ x.at_ ∧ x.at_ ≤ 345686399999) ∧ (1 ≤ x.kind ∧ x.kind ≤ 9) ∧ (uRide x.kind = true → keyB x.ride = true) ∧ (uCar x.kind = true → keyB x.car = true) ∧ (uNode x.kind = true → keyB x.node = true) ∧
    (uUndo x.kind = true → keyB x.from_ = true) ∧ (uRide x.kind = false → x.ride = eB) ∧ (uCar x.kind = false → x.car = eB) ∧ (uNode x.kind = false → x.node = eB) ∧ (uBook x.kind = true → (x.at_ ≤ x.up ∧ x.up ≤ 345686399999) ∧ (x.up ≤ x.down ∧ x.down ≤ 345686399999)) ∧
    (uUndo x.kind = true → 1 ≤ x.number ∧ x.number ≤ 3000) ∧ (uBook x.kind = false → x.up = 0 ∧ x.down = 0) ∧ (uUndo x.kind = false → x.from_ = eB ∧ x.number = 0) := by
  unfold evF at h
  split at h
  · cases h
  rename_i h1
  split at h
  · cases h
  rename_i h2
  split at h
  · cases h
  rename_i h3
  split at h
  · cases h
  rename_i h4
  split at h
  · cases h
  rename_i h5
  split at h
  · cases h
  rename_i h6
  have h6 : x = leanE x := by simpa using h6
  simp only [Bool.or_eq_true, Bool.and_eq_true, Bool.not_eq_true', not_or, Bool.not_eq_true, outB_false] at h1 h2 h3 h4 h5
  simp only [not_and, Bool.not_eq_false, Bool.not_eq_true, outB_false] at h4 h5
  have e1 : x.ride = (leanE x).ride := by rw [← h6]
  have e2 : x.car = (leanE x).car := by rw [← h6]
  have e3 : x.node = (leanE x).node := by rw [← h6]
  have e4 : x.up = (leanE x).up := by rw [← h6]
  have e5 : x.down = (leanE x).down := by rw [← h6]
  have e6 : x.from_ = (leanE x).from_ := by rw [← h6]
  have e7 : x.number = (leanE x).number := by rw [← h6]
  unfold leanE at e1 e2 e3 e4 e5 e6 e7
  simp only at e1 e2 e3 e4 e5 e6 e7
  refine ⟨by simpa using h1, h2.1, ?_, h3, h4.1.1.1, h4.1.1.2, h4.1.2, h4.2, ?_, ?_, ?_, ?_, h5.2, ?_, ?_⟩
  · have := h2.2; simpa [momB_true] using this
  · intro u; rw [u] at e1; simpa using e1
  · intro u; rw [u] at e2; simpa using e2
  · intro u; rw [u] at e3; simpa using e3
  · intro u; have := h5.1 u; simpa [outB_false, lastMo] using this
  · intro u; rw [u] at e4 e5; simp at e4 e5; exact ⟨e4, e5⟩
  · intro u; rw [u] at e6 e7; simp at e6 e7; exact ⟨e6, e7⟩
theorem carP_cars {p : DayP} {r : DayR} (hs : Sim p r) (k : ByteArray) : ((carP p k).node, (carP p k).at_) = (r.cars k).getD (eB, 0) := by
  rw [← hs.cars k]
  unfold carP
  cases p.cars k <;> rfl
/-- No ride is on board of a car that is not told of. -/
theorem carP_on {p : DayP} {r : DayR} (hs : Sim p r) (k id : ByteArray) : ((carP p k).on id = some true ∨ (carP p k).on id = none) ∧ ((carP p k).on id = some true ↔ ∃ s, r.rides id = some s ∧ s.how = 3 ∧ s.car = k) := by
  unfold carP
  cases hc : p.cars k with
  | some c => exact hs.on k c id hc
  | none =>
    refine ⟨.inr rfl, ⟨fun h => (by cases h), ?_⟩⟩
    rintro ⟨s, h1, h2, h3⟩
    have := hs.onc id s h1 (.inr h2)
    rw [h3, hc] at this; cases this
/-- A ride is booked, or leaves; no car is told of. -/
theorem sim_ride {p : DayP} {r : DayR} (hs : Sim p r) {id : ByteArray} {s' : St} (hid : s'.ride = id) (h2 : s'.how ≠ 2) (h3 : s'.how ≠ 3) (ho : ∀ s, r.rides id = some s → s.how ≠ 3) :
    Sim (setR p id s') { r with rides := updF r.rides id s' } where
  rides k := by
    show updF p.rides id s' k = updF r.rides id s' k
    unfold updF; split
    · rfl
    · exact hs.rides k
  cars := hs.cars
  broken := hs.broken
  key k s h := by
    have h : updF r.rides id s' k = some s := h
    by_cases e : k = id
    · subst e
      rw [updF_same] at h
      injection h with h; subst h; exact hid
    · rw [updF_other _ _ e] at h
      exact hs.key k s h
  on k c i hc := by
    have h0 := hs.on k c i hc
    show _ ∧ (_ ↔ ∃ s, updF r.rides id s' i = some s ∧ _)
    by_cases e : i = id
    · subst e
      refine ⟨h0.1, ?_⟩
      rw [updF_same]
      constructor
      · intro h; obtain ⟨s, a, b, _⟩ := h0.2.1 h; exact absurd b (ho s a)
      · rintro ⟨s, a, b, _⟩; injection a with a; subst a; exact absurd b h3
    · rw [updF_other _ _ e]
      exact h0
  onc i s h hw := by
    have h : updF r.rides id s' i = some s := h
    by_cases e : i = id
    · subst e
      rw [updF_same] at h
      injection h with h; subst h
      rcases hw with hw | hw
      · exact absurd hw h2
      · exact absurd hw h3
    · rw [updF_other _ _ e] at h
      exact hs.onc i s h hw
/-- A ride and a car. -/
theorem sim_both {p : DayP} {r : DayR} (hs : Sim p r) {id kc : ByteArray} {s' : St} {c' : Crew} (hid : s'.ride = id) (hb : c'.broken = (carP p kc).broken) (h3 : s'.how = 2 ∨ s'.how = 3 → s'.car = kc)
    (hoth : ∀ i, i ≠ id → c'.on i = (carP p kc).on i) (ht : c'.on id = some true ∨ c'.on id = none) (ht2 : c'.on id = some true ↔ s'.how = 3) (hk3 : s'.how = 3 → s'.car = kc)
    (ho : ∀ s, r.rides id = some s → s.how = 3 → s.car = kc) :
    Sim (setC (setR p id s') kc c') { rides := updF r.rides id s', cars := updF r.cars kc (c'.node, c'.at_), broken := r.broken } where
  rides k := by
    show updF p.rides id s' k = updF r.rides id s' k
    unfold updF; split
    · rfl
    · exact hs.rides k
  cars k := by
    show (updF p.cars kc c' k).map _ = updF r.cars kc _ k
    unfold updF; split
    · rfl
    · exact hs.cars k
  broken k := by
    have h := hs.broken k
    show ((updF p.cars kc c' k).getD crew0).broken = brokenR r k
    by_cases e : k = kc
    · subst e
      rw [updF_same, ← h]; exact hb
    · rw [updF_other _ _ e]; exact h
  key k s h := by
    have h : updF r.rides id s' k = some s := h
    by_cases e : k = id
    · subst e
      rw [updF_same] at h
      injection h with h; subst h; exact hid
    · rw [updF_other _ _ e] at h
      exact hs.key k s h
  on k c i hc := by
    have hc : updF p.cars kc c' k = some c := hc
    show _ ∧ (_ ↔ ∃ s, updF r.rides id s' i = some s ∧ _)
    by_cases ek : k = kc
    · subst ek
      rw [updF_same] at hc
      injection hc with hc; subst hc
      by_cases e : i = id
      · subst e
        refine ⟨ht, ?_⟩
        rw [updF_same, ht2]
        constructor
        · intro h; exact ⟨s', rfl, h, hk3 h⟩
        · rintro ⟨s, a, b, _⟩; injection a with a; subst a; exact b
      · rw [updF_other _ _ e, hoth i e]
        exact carP_on hs k i
    · rw [updF_other _ _ ek] at hc
      have h0 := hs.on k c i hc
      by_cases e : i = id
      · subst e
        refine ⟨h0.1, ?_⟩
        rw [updF_same]
        constructor
        · intro h; obtain ⟨s, a, b, d⟩ := h0.2.1 h; exact absurd ((d.symm.trans (ho s a b))) ek
        · rintro ⟨s, a, b, d⟩; injection a with a; subst a; exact absurd (d.symm.trans (hk3 b)) ek
      · rw [updF_other _ _ e]; exact h0
  onc i s h hw := by
    have h : updF r.rides id s' i = some s := h
    show (updF p.cars kc c' s.car).isSome = true
    by_cases ek : s.car = kc
    · rw [ek, updF_same]; rfl
    · rw [updF_other _ _ ek]
      by_cases e : i = id
      · subst e
        rw [updF_same] at h
        injection h with h; subst h
        exact absurd (h3 hw) ek
      · rw [updF_other _ _ e] at h
        exact hs.onc i s h hw
/-- A car alone. -/
theorem sim_car {p : DayP} {r : DayR} (hs : Sim p r) {kc : ByteArray} {c' : Crew} (hb : c'.broken = (carP p kc).broken) (ho : ∀ i, c'.on i = (carP p kc).on i) :
    Sim (setC p kc c') { r with cars := updF r.cars kc (c'.node, c'.at_) } where
  rides := hs.rides
  cars k := by
    show (updF p.cars kc c' k).map _ = updF r.cars kc _ k
    unfold updF; split
    · rfl
    · exact hs.cars k
  broken k := by
    have h := hs.broken k
    show ((updF p.cars kc c' k).getD crew0).broken = brokenR r k
    by_cases e : k = kc
    · subst e
      rw [updF_same, ← h]; exact hb
    · rw [updF_other _ _ e]; exact h
  key := hs.key
  on k c i hc := by
    have hc : updF p.cars kc c' k = some c := hc
    by_cases ek : k = kc
    · subst ek
      rw [updF_same] at hc
      injection hc with hc; subst hc
      rw [ho i]; exact carP_on hs k i
    · rw [updF_other _ _ ek] at hc; exact hs.on k c i hc
  onc i s h hw := by
    show (updF p.cars kc c' s.car).isSome = true
    by_cases ek : s.car = kc
    · rw [ek, updF_same]; rfl
    · rw [updF_other _ _ ek]; exact hs.onc i s h hw
theorem freed_on (c : ByteArray) (s : St) : ((freed c s).how = 3 ↔ s.how = 3) ∧ (s.how = 3 → (freed c s).car = s.car) ∧ (freed c s).ride = s.ride ∧ ((freed c s).how = 2 → s.how = 2 ∧ (freed c s).car = s.car) := by
  unfold freed
  split
  · rename_i h; simp [h.1]
  · exact ⟨Iff.rfl, fun _ => rfl, rfl, fun h => ⟨h, rfl⟩⟩
/-- A car breaks. -/
theorem sim_breaks {p : DayP} {r : DayR} (hs : Sim p r) (kc : ByteArray) :
    Sim ⟨fun k => (p.rides k).map (freed kc), updF p.cars kc { carP p kc with broken := true }⟩ { rides := fun k => (r.rides k).map (freed kc), cars := updF r.cars kc ((r.cars kc).getD (eB, 0)), broken := updF r.broken kc true } where
  rides k := by show (p.rides k).map _ = (r.rides k).map _; rw [hs.rides k]
  cars k := by
    show (updF p.cars kc { carP p kc with broken := true } k).map _ = updF r.cars kc _ k
    by_cases e : k = kc
    · subst e
      rw [updF_same, updF_same, ← carP_cars hs k]; rfl
    · rw [updF_other _ _ e, updF_other _ _ e]; exact hs.cars k
  broken k := by
    have h := hs.broken k
    show ((updF p.cars kc _ k).getD crew0).broken = (updF r.broken kc true k).getD false
    by_cases e : k = kc
    · subst e
      rw [updF_same, updF_same]; rfl
    · rw [updF_other _ _ e, updF_other _ _ e]; exact h
  key k s h := by
    have h : (r.rides k).map (freed kc) = some s := h
    cases hr : r.rides k with
    | none => rw [hr] at h; cases h
    | some s0 =>
      rw [hr] at h; injection h with h; subst h
      rw [(freed_on kc s0).2.2.1]; exact hs.key k s0 hr
  on k c i hc := by
    have hc : updF p.cars kc { carP p kc with broken := true } k = some c := hc
    show _ ∧ (_ ↔ ∃ s, (r.rides i).map (freed kc) = some s ∧ _)
    have hcon : c.on i = (carP p k).on i := by
      by_cases ek : k = kc
      · subst ek
        rw [updF_same] at hc
        injection hc with hc; subst hc; rfl
      · rw [updF_other _ _ ek] at hc
        unfold carP; rw [hc]; rfl
    rw [hcon]
    have h0 := carP_on hs k i
    refine ⟨h0.1, ?_⟩
    rw [h0.2]
    constructor
    · rintro ⟨s, a, b, d⟩
      exact ⟨freed kc s, by rw [a]; rfl, (freed_on kc s).1.2 b, by rw [(freed_on kc s).2.1 b]; exact d⟩
    · rintro ⟨s, a, b, d⟩
      cases hr : r.rides i with
      | none => rw [hr] at a; cases a
      | some s0 =>
        rw [hr] at a; injection a with a; subst a
        have b0 := (freed_on kc s0).1.1 b
        exact ⟨s0, rfl, b0, by rw [← (freed_on kc s0).2.1 b0]; exact d⟩
  onc i s h hw := by
    have h : (r.rides i).map (freed kc) = some s := h
    show (updF p.cars kc _ s.car).isSome = true
    by_cases ek : s.car = kc
    · rw [ek, updF_same]; rfl
    · rw [updF_other _ _ ek]
      cases hr : r.rides i with
      | none => rw [hr] at h; cases h
      | some s0 =>
        rw [hr] at h; injection h with h; subst h
        rcases hw with hw | hw
        · obtain ⟨a, b⟩ := (freed_on kc s0).2.2.2 hw
          rw [b]; exact hs.onc i s0 hr (.inl a)
        · have a := (freed_on kc s0).1.1 hw
          rw [(freed_on kc s0).2.1 a]; exact hs.onc i s0 hr (.inr a)
/-- A step of the program's day is a step of the reference's. -/
theorem step_sim {p : DayP} {r : DayR} {x : Ev} (hx : evF x = 0) (h9 : x.kind ≠ 9) (hs : Sim p r) :
    (stepP p x).2 = whyR r x ∧ Sim (stepP p x).1 (if whyR r x = 0 then doR r x else r) := by
  obtain ⟨_, _, _, ⟨hk1, hk9⟩, kr, kc, kn, _, nr, nc, nn, _, _, _, _⟩ := evF_zero hx
  have hk : x.kind = 1 ∨ x.kind = 2 ∨ x.kind = 3 ∨ x.kind = 4 ∨ x.kind = 5 ∨ x.kind = 6 ∨ x.kind = 7 ∨ x.kind = 8 := by omega
  have hB : brokenP p x.car = brokenR r x.car := hs.broken _
  rcases hk with hk | hk | hk | hk | hk | hk | hk | hk
  · have er : x.ride ≠ eB := key_ne (kr (by rw [hk]; rfl))
    have ec : x.car = eB := nc (by rw [hk]; rfl)
    cases hr : r.rides x.ride with
    | some s =>
      have hw : whyR r x = 6 := by simp [whyR, hk, hr]
      have hst : stepP p x = (p, 6) := by simp [stepP, hk, hs.rides, hr]
      rw [hw, hst]; exact ⟨rfl, hs⟩
    | none =>
      have hw : whyR r x = 0 := by simp [whyR, hk, hr, mustR]
      have hst : stepP p x = (setR p x.ride ⟨x.ride, eB, 1, x.up, x.down, 0, 0⟩, 0) := by simp [stepP, hk, hs.rides, hr]
      rw [hw, hst, if_pos rfl]
      refine ⟨rfl, ?_⟩
      have := sim_ride hs (id := x.ride) (s' := ⟨x.ride, eB, 1, x.up, x.down, 0, 0⟩) rfl (by simp) (by simp) (by rw [hr]; simp)
      rw [show doR r x = { r with rides := updF r.rides x.ride ⟨x.ride, eB, 1, x.up, x.down, 0, 0⟩ } by simp [doR, hk, er, ec, rideR]]
      exact this
  · have er : x.ride ≠ eB := key_ne (kr (by rw [hk]; rfl))
    have ec : x.car ≠ eB := key_ne (kc (by rw [hk]; rfl))
    have en : x.node = eB := nn (by rw [hk]; rfl)
    cases hr : r.rides x.ride with
    | none =>
      have hw : whyR r x = 8 := by simp [whyR, hk, hr, uRide]
      have hst : stepP p x = (p, 8) := by simp [stepP, hk, hs.rides, hr]
      rw [hw, hst]; exact ⟨rfl, hs⟩
    | some s =>
      by_cases h1 : s.how = 1 ∨ s.how = 2
      · cases hb : brokenR r x.car with
        | true =>
          have hw : whyR r x = 16 := by simp [whyR, hk, hr, mustR, hb, h1]
          have hst : stepP p x = (p, 16) := by simp [stepP, hk, hs.rides, hr, rideP, hB, hb, h1]
          rw [hw, hst]; exact ⟨rfl, hs⟩
        | false =>
          have hw : whyR r x = 0 := by simp [whyR, hk, hr, mustR, hb, h1]
          have hst : stepP p x = (setC (setR p x.ride { s with how := 2, car := x.car }) x.car (carP p x.car), 0) := by simp [stepP, hk, hs.rides, hr, rideP, hB, hb, h1]
          rw [hw, hst, if_pos rfl]
          refine ⟨rfl, ?_⟩
          have hno : (carP p x.car).on x.ride ≠ some true := by
            intro h
            obtain ⟨s2, a, b, _⟩ := (carP_on hs x.car x.ride).2.1 h
            rw [hr] at a; injection a with a; subst a; omega
          have := sim_both hs (id := x.ride) (kc := x.car) (s' := { s with how := 2, car := x.car }) (c' := carP p x.car) (show s.ride = x.ride from hs.key _ _ hr) rfl (fun _ => rfl) (fun _ _ => rfl) (carP_on hs _ _).1 ⟨fun h => absurd h hno, fun h => (by simp at h)⟩ (fun _ => rfl) (by intro s2 a b; rw [hr] at a; injection a with a; subst a; omega)
          rw [show doR r x = { rides := updF r.rides x.ride { s with how := 2, car := x.car }, cars := updF r.cars x.car ((carP p x.car).node, (carP p x.car).at_), broken := r.broken } by simp [doR, hk, er, ec, en, rideR, hr, carP_cars hs]]
          exact this
      · have hw : whyR r x = 11 := by simp [whyR, hk, hr, uRide]; omega
        have hst : stepP p x = (p, 11) := by simp [stepP, hk, hs.rides, hr, rideP]; omega
        rw [hw, hst]; exact ⟨rfl, hs⟩
  · have er : x.ride ≠ eB := key_ne (kr (by rw [hk]; rfl))
    have ec : x.car ≠ eB := key_ne (kc (by rw [hk]; rfl))
    have en : x.node ≠ eB := key_ne (kn (by rw [hk]; rfl))
    cases hr : r.rides x.ride with
    | none =>
      have hw : whyR r x = 8 := by simp [whyR, hk, hr, uRide]
      have hst : stepP p x = (p, 8) := by simp [stepP, hk, hs.rides, hr]
      rw [hw, hst]; exact ⟨rfl, hs⟩
    | some s =>
      by_cases h1 : s.how = 2
      · by_cases h2 : s.car = x.car
        · cases hb : brokenR r x.car with
          | true =>
            have hw : whyR r x = 16 := by simp [whyR, hk, hr, mustR, hb, h1, h2]
            have hst : stepP p x = (p, 16) := by simp [stepP, hk, hs.rides, hr, rideP, hB, hb, h1, h2]
            rw [hw, hst]; exact ⟨rfl, hs⟩
          | false =>
            have hw : whyR r x = 0 := by simp [whyR, hk, hr, mustR, hb, h1, h2]
            have hst : stepP p x = (setC (setR p x.ride { s with how := 3, on := x.at_ }) x.car { carP p x.car with node := x.node, at_ := x.at_, on := updF (carP p x.car).on x.ride true }, 0) := by simp [stepP, hk, hs.rides, hr, rideP, hB, hb, h1, h2]
            rw [hw, hst, if_pos rfl]
            refine ⟨rfl, ?_⟩
            have := sim_both hs (id := x.ride) (kc := x.car) (s' := { s with how := 3, on := x.at_ }) (c' := { carP p x.car with node := x.node, at_ := x.at_, on := updF (carP p x.car).on x.ride true }) (show s.ride = x.ride from hs.key _ _ hr) rfl (fun _ => h2) (fun i hi => updF_other _ _ hi) (.inl (updF_same _ _ _)) ⟨fun _ => rfl, fun _ => updF_same _ _ _⟩ (fun _ => h2) (by intro s2 a b; rw [hr] at a; injection a with a; subst a; omega)
            rw [show doR r x = { rides := updF r.rides x.ride { s with how := 3, on := x.at_ }, cars := updF r.cars x.car (x.node, x.at_), broken := r.broken } by simp [doR, hk, er, ec, en, rideR, hr]]
            exact this
        · have hw : whyR r x = 13 := by simp [whyR, hk, hr, mustR, h1, h2]
          have hst : stepP p x = (p, 13) := by simp [stepP, hk, hs.rides, hr, rideP, h1, h2]
          rw [hw, hst]; exact ⟨rfl, hs⟩
      · have hw : whyR r x = 11 := by simp [whyR, hk, hr, uRide, mustR, h1]
        have hst : stepP p x = (p, 11) := by simp [stepP, hk, hs.rides, hr, rideP, h1]
        rw [hw, hst]; exact ⟨rfl, hs⟩
  · have er : x.ride ≠ eB := key_ne (kr (by rw [hk]; rfl))
    have ec : x.car ≠ eB := key_ne (kc (by rw [hk]; rfl))
    have en : x.node ≠ eB := key_ne (kn (by rw [hk]; rfl))
    cases hr : r.rides x.ride with
    | none =>
      have hw : whyR r x = 8 := by simp [whyR, hk, hr, uRide]
      have hst : stepP p x = (p, 8) := by simp [stepP, hk, hs.rides, hr]
      rw [hw, hst]; exact ⟨rfl, hs⟩
    | some s =>
      by_cases h1 : s.how = 3
      · by_cases h2 : s.car = x.car
        · have hw : whyR r x = 0 := by simp [whyR, hk, hr, mustR, h1, h2]
          have hst : stepP p x = (setC (setR p x.ride { s with how := 4, off := x.at_ }) x.car { carP p x.car with node := x.node, at_ := x.at_, on := fun id => if id = x.ride then none else (carP p x.car).on id }, 0) := by simp [stepP, hk, hs.rides, hr, rideP, h1, h2]
          rw [hw, hst, if_pos rfl]
          refine ⟨rfl, ?_⟩
          have := sim_both hs (id := x.ride) (kc := x.car) (s' := { s with how := 4, off := x.at_ }) (c' := { carP p x.car with node := x.node, at_ := x.at_, on := fun id => if id = x.ride then none else (carP p x.car).on id }) (show s.ride = x.ride from hs.key _ _ hr) rfl (fun _ => h2) (fun i hi => if_neg hi) (.inr (if_pos rfl)) ⟨fun h => (by simp at h), fun h => (by simp at h)⟩ (fun h => (by simp at h)) (by intro s2 a b; rw [hr] at a; injection a with a; subst a; exact h2)
          rw [show doR r x = { rides := updF r.rides x.ride { s with how := 4, off := x.at_ }, cars := updF r.cars x.car (x.node, x.at_), broken := r.broken } by simp [doR, hk, er, ec, en, rideR, hr]]
          exact this
        · have hw : whyR r x = 13 := by simp [whyR, hk, hr, mustR, h1, h2]
          have hst : stepP p x = (p, 13) := by simp [stepP, hk, hs.rides, hr, rideP, h1, h2]
          rw [hw, hst]; exact ⟨rfl, hs⟩
      · have hw : whyR r x = 11 := by simp [whyR, hk, hr, uRide, mustR, h1]
        have hst : stepP p x = (p, 11) := by simp [stepP, hk, hs.rides, hr, rideP, h1]
        rw [hw, hst]; exact ⟨rfl, hs⟩
  · have er : x.ride ≠ eB := key_ne (kr (by rw [hk]; rfl))
    have ec : x.car = eB := nc (by rw [hk]; rfl)
    cases hr : r.rides x.ride with
    | none =>
      have hw : whyR r x = 8 := by simp [whyR, hk, hr, uRide]
      have hst : stepP p x = (p, 8) := by simp [stepP, hk, hs.rides, hr]
      rw [hw, hst]; exact ⟨rfl, hs⟩
    | some s =>
      by_cases h1 : s.how = 1 ∨ s.how = 2
      · have hw : whyR r x = 0 := by simp [whyR, hk, hr, mustR, h1]
        have hst : stepP p x = (setR p x.ride { s with how := 5 }, 0) := by simp [stepP, hk, hs.rides, hr, rideP, h1]
        rw [hw, hst, if_pos rfl]
        refine ⟨rfl, ?_⟩
        have := sim_ride hs (id := x.ride) (s' := { s with how := 5 }) (show s.ride = x.ride from hs.key _ _ hr) (by simp) (by simp) (by intro s2 a; rw [hr] at a; injection a with a; subst a; omega)
        rw [show doR r x = { r with rides := updF r.rides x.ride { s with how := 5 } } by simp [doR, hk, er, ec, rideR, hr]]
        exact this
      · have hw : whyR r x = 11 := by simp [whyR, hk, hr, uRide]; omega
        have hst : stepP p x = (p, 11) := by simp [stepP, hk, hs.rides, hr, rideP]; omega
        rw [hw, hst]; exact ⟨rfl, hs⟩
  · have er : x.ride ≠ eB := key_ne (kr (by rw [hk]; rfl))
    have ec : x.car = eB := nc (by rw [hk]; rfl)
    cases hr : r.rides x.ride with
    | none =>
      have hw : whyR r x = 8 := by simp [whyR, hk, hr, uRide]
      have hst : stepP p x = (p, 8) := by simp [stepP, hk, hs.rides, hr]
      rw [hw, hst]; exact ⟨rfl, hs⟩
    | some s =>
      by_cases h1 : s.how = 2
      · have hw : whyR r x = 0 := by simp [whyR, hk, hr, mustR, h1]
        have hst : stepP p x = (setR p x.ride { s with how := 6 }, 0) := by simp [stepP, hk, hs.rides, hr, rideP, h1]
        rw [hw, hst, if_pos rfl]
        refine ⟨rfl, ?_⟩
        have := sim_ride hs (id := x.ride) (s' := { s with how := 6 }) (show s.ride = x.ride from hs.key _ _ hr) (by simp) (by simp) (by intro s2 a; rw [hr] at a; injection a with a; subst a; omega)
        rw [show doR r x = { r with rides := updF r.rides x.ride { s with how := 6 } } by simp [doR, hk, er, ec, rideR, hr]]
        exact this
      · have hw : whyR r x = 11 := by simp [whyR, hk, hr, uRide, mustR, h1]
        have hst : stepP p x = (p, 11) := by simp [stepP, hk, hs.rides, hr, rideP, h1]
        rw [hw, hst]; exact ⟨rfl, hs⟩
  · have er : x.ride = eB := nr (by rw [hk]; rfl)
    have ec : x.car ≠ eB := key_ne (kc (by rw [hk]; rfl))
    have en : x.node ≠ eB := key_ne (kn (by rw [hk]; rfl))
    cases hb : brokenR r x.car with
    | true =>
      have hw : whyR r x = 16 := by simp [whyR, hk, mustR, hb, uRide]
      have hst : stepP p x = (p, 16) := by simp [stepP, hk, hB, hb]
      rw [hw, hst]; exact ⟨rfl, hs⟩
    | false =>
      have hw : whyR r x = 0 := by simp [whyR, hk, mustR, hb, uRide]
      have hst : stepP p x = (wasP p x, 0) := by simp [stepP, hk, hB, hb]
      rw [hw, hst, if_pos rfl]
      refine ⟨rfl, ?_⟩
      have := sim_car hs (kc := x.car) (c' := { carP p x.car with node := x.node, at_ := x.at_ }) rfl (fun _ => rfl)
      rw [show doR r x = { r with cars := updF r.cars x.car (x.node, x.at_) } by simp [doR, hk, er, ec, en]]
      exact this
  · have er : x.ride = eB := nr (by rw [hk]; rfl)
    have ec : x.car ≠ eB := key_ne (kc (by rw [hk]; rfl))
    have en : x.node = eB := nn (by rw [hk]; rfl)
    cases hb : brokenR r x.car with
    | true =>
      have hw : whyR r x = 6 := by simp [whyR, hk, hb]
      have hst : stepP p x = (p, 6) := by simp [stepP, hk, breaksP, hB, hb]
      rw [hw, hst]; exact ⟨rfl, hs⟩
    | false =>
      have hw : whyR r x = 0 := by simp [whyR, hk, mustR, hb, uRide]
      have hst : stepP p x = (⟨fun k => (p.rides k).map (freed x.car), updF p.cars x.car { carP p x.car with broken := true }⟩, 0) := by simp [stepP, hk, breaksP, hB, hb]
      rw [hw, hst, if_pos rfl]
      refine ⟨rfl, ?_⟩
      have := sim_breaks hs x.car
      rw [show doR r x = { rides := fun k => (r.rides k).map (freed x.car), cars := updF r.cars x.car ((r.cars x.car).getD (eB, 0)), broken := updF r.broken x.car true } by simp [doR, hk, er, ec, en]]
      exact this
end Go.Proofs.YtfkmbeppckelfaaGreatDoor
/- cmp.Compare of numbers. -/
namespace Go.Proofs.YtfkmbeppckelfaaGreatDoor
open Go.RowKit

theorem w_isNaN (a : Int) (w : World) : Calls Tryz.prog 117 #[.int .i64 a] w fun e w' => e = .returned (.bool false) ∧ w = w' := by
  go_enter Tryz.func117, Tryz.ntmps117
  go_wp2
  go_ret
  exact ⟨rfl, rfl⟩

theorem w_Compare (a b : Int) (w : World) : Calls Tryz.prog 83 #[.int .i64 a, .int .i64 b] w fun e w' => e = .returned (.int .i64 (cmpI a b)) ∧ w = w' := by
  by_cases h1 : a < b
  · go_enter Tryz.func83, Tryz.ntmps83
    go_wp2_with (go_at_call 117; refine (w_isNaN _ _).mono ?_; rintro e w' ⟨rfl, rfl⟩)
    go_ret
    exact ⟨ret_int (by unfold cmpI; simp [h1]), rfl⟩
  · by_cases h2 : b < a
    · go_enter Tryz.func83, Tryz.ntmps83
      go_wp2_with (go_at_call 117; refine (w_isNaN _ _).mono ?_; rintro e w' ⟨rfl, rfl⟩)
      go_ret
      exact ⟨ret_int (by unfold cmpI; simp [h1, h2]), rfl⟩
    · go_enter Tryz.func83, Tryz.ntmps83
      go_wp2_with (go_at_call 117; refine (w_isNaN _ _).mono ?_; rintro e w' ⟨rfl, rfl⟩)
      go_ret
      exact ⟨ret_int (by unfold cmpI; rw [if_neg (by omega), if_neg (by omega)]), rfl⟩

end Go.Proofs.YtfkmbeppckelfaaGreatDoor
