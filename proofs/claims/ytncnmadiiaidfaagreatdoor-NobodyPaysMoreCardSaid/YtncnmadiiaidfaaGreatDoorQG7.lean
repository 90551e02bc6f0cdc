/- fare.Divide, whatever it is handed; what is wrong with parts; 'priced' answers true. -/
import Derived.Test.YtncnmadiiaidfaaGreatDoorQDivB
import Derived.Test.YtncnmadiiaidfaaGreatDoorQG2
import Derived.Test.YtncnmadiiaidfaaGreatDoorQG1
import Derived.Laws.OwnMore
import Derived.Laws.Bits64
import Derived.WalkKit
import Derived.IntWalk
import Derived.Test.YtncnmadiiaidfaaGreatDoorQG0
import Derived.StillTailTactics
import Derived.Lib.SliceRun
import Derived.Maps.Own
import Derived.Maps.OwnOps
import Derived.Maps.Views
import Derived.Maps.RangeWalk
namespace Go.Proofs.YtncnmadiiaidfaaGreatDoor
open Go.RowKit Go.Sort Go.Proofs Go.Shelf

theorem partsF_cents {cents : Int} {parts : List Int} (h : centB cents = true) : partsF cents parts = 1 := by unfold partsF; rw [h]; rfl
theorem partsF_any {cents : Int} {parts : List Int} (h : centB cents = false) (h2 : parts.length < 20) (h3 : parts.any centB = true) : partsF cents parts = 1 := by
  unfold partsF; rw [h, h3]; simp; omega
theorem partsF_sum {cents : Int} {parts : List Int} (h : centB cents = false) (h2 : parts.length < 20) (h3 : parts.any centB = false) : partsF cents parts = if sumL parts = 0 then 8 else 0 := by
  unfold partsF; rw [h, h3]; simp; omega
theorem any_at {l : List Int} {p : Int → Bool} {k : Nat} (hk : k < l.length) (h : p l[k] = true) : l.any p = true := List.any_eq_true.2 ⟨_, List.getElem_mem hk, h⟩
theorem any_step {l : List Int} {p : Int → Bool} {k : Nat} (hk : k < l.length) (h : (l.take k).any p = false) (h2 : p l[k] = false) : (l.take (k + 1)).any p = false := by
  rw [List.take_succ_eq_append_getElem hk, List.any_append, h]; simp [h2]
theorem sum_right {l : List Int} (h : l.any centB = false) : 0 ≤ sumL l ∧ sumL l ≤ l.length * 1000000000 := by
  have := sumL_bd l 0 1000000000 (fun x hx => centB_bd (by
    cases h1 : centB x
    · rfl
    · exact absurd (List.any_eq_true.2 ⟨x, hx, h1⟩) (by rw [h]; simp)))
  omega
/-- Cents given out, or a fault. -/
def DivU (F cents : Int) (parts : List Int) (w : World) (e : Ending) (w' : World) : Prop :=
  ∃ (A : Option Addr) (c : Nat) (zs : List Int), e = .returned (.tuple #[.slice A zs.length c, .int .i64 F]) ∧ (F = 0 → Divided cents parts zs) ∧ (F ≠ 0 → zs = []) ∧ Rd w' w.heap.size A 1 encI zs ∧ Nx w w'
theorem DivU.no {F cents : Int} {parts : List Int} {w w' : World} (h : F ≠ 0) (hn : Nx w w') : DivU F cents parts w (.returned (.tuple #[.slice none 0 0, .int .i64 F])) w' := ⟨none, 0, [], rfl, fun h0 => absurd h0 h, fun _ => rfl, Rd.nil, hn⟩

set_option maxRecDepth 100000 in
set_option maxHeartbeats 1000000 in
theorem w_Divide (lo : Nat) (A : Option Addr) (c : Nat) (cents : Int) (parts : List Int) (w : World) (hR : Rd w lo A 1 encI parts) (hl : parts.length < 20) :
    Calls Tryz.prog 34 #[.int .i64 cents, .slice A parts.length c] w (DivU (partsF cents parts) cents parts w) := by
  cases hd : centB cents
  · have HD := hide hd
    have hcb := centB_bd hd
    have HPO := hide (fun h3 => partsF_sum (parts := parts) hd hl h3)
    have HPA := hide (fun h3 => partsF_any (parts := parts) hd hl h3)
    have HDB := hide (fun h3 h4 => w_DivideB lo A c cents parts w hR hl hcb h3 h4)
    generalize hn : parts.length = n at *
    have HR := hide hR
    have HN := hide hn
    unfold centB at hd
    clear hR hn
    go_enter Tryz.func34, Tryz.ntmps34
    go_wp2_with (go_at_call 40; first | (rw [show (1000000000 : Int) = maxCt from rfl]; refine (w_Out _ _ _ _).mono ?_; rintro e w' ⟨rfl, rfl⟩))
    go_loop [4, 5, 6, 8, 16] (fun _ _ s _ i => ∃ k : Nat, k ≤ n ∧ i = .int .i64 k ∧ s = .int .i64 (sumL (parts.take k)) ∧ (parts.take k).any centB = false) (fun _ _ _ _ i => n - (intOf i).toNat)
    case atStart => exact ⟨0, Nat.zero_le _, rfl, rfl, rfl⟩
    case round =>
      obtain ⟨k, hk, rfl, rfl, hq⟩ := hrel
      have hsb := sum_right hq
      have hkl : (parts.take k).length ≤ k := List.length_take_le _ _
      have HQ := hide hq
      clear hq
      by_cases hlt : k < n
      · have hlt' : k < parts.length := by have := HN.out; omega
        have HT := hide (sumL_take parts k hlt')
        obtain ⟨b, off, rfl, _, hb, _, hc⟩ := HR.out.open_ (Nx.refl w) (by omega)
        have c0 : w.cell? ⟨b, off + k, none⟩ = some (.int .i64 parts[k]) := by have := hc k hlt' 0 _ rfl; simpa using this
        clear hc
        cases hx : centB parts[k]
        · have HX := hide (any_step hlt' HQ.out hx)
          have hxb := centB_bd hx
          unfold centB at hx
          generalize sumL (parts.take k) = s at *
          go_wp2_with (go_at_call 40; first | (rw [show (1000000000 : Int) = maxCt from rfl]; refine (w_Out _ _ _ _).mono ?_; rintro e w' ⟨rfl, rfl⟩))
          go_round
          case rel => exact ⟨k + 1, by omega, by go_num, by rw [HT.out], HX.out⟩
          case measure => simp [intOf]; omega
        · have HF := hide (HPA.out (any_at hlt' hx))
          unfold centB at hx
          go_wp2_with (go_at_call 40; first | (rw [show (1000000000 : Int) = maxCt from rfl]; refine (w_Out _ _ _ _).mono ?_; rintro e w' ⟨rfl, rfl⟩))
          go_ret2
          rw [HF.out]
          exact DivU.no (by omega) (Nx.refl _)
      · have HK := hide (show parts.take k = parts from List.take_of_length_le (by have := HN.out; omega))
        rw [HK.out] at hsb HQ ⊢
        have HF := hide (HPO.out HQ.out)
        by_cases hz : sumL parts = 0
        · have t1 : (sumL parts == 0) = true := by simpa using hz
          have HZ := hide hz
          clear hz
          go_wp2_with fail
          go_ret2
          rw [HF.out, if_pos HZ.out]
          exact DivU.no (by omega) (Nx.refl _)
        · have t1 : (sumL parts == 0) = false := by simpa using hz
          have HZ := hide hz
          clear hz
          go_wp2_with (go_at_call 56; refine (HDB.out (fun p hp => centB_bd (by cases h1 : centB p; rfl; exact absurd (List.any_eq_true.2 ⟨p, hp, h1⟩) (by rw [HQ.out]; simp))) (by have := HZ.out; omega)).mono ?_; rintro e w2 ⟨A', c', zs, rfl, hdv, hR2, hn2⟩)
          go_ret2
          rw [HF.out, if_neg HZ.out]
          exact ⟨A', c', zs, rfl, fun _ => hdv, fun h => absurd rfl h, hR2, hn2⟩
  · have HF := hide (partsF_cents (parts := parts) hd)
    clear hR
    generalize parts.length = n at *
    unfold centB at hd
    go_enter Tryz.func34, Tryz.ntmps34
    go_wp2_with (go_at_call 40; first | (rw [show (1000000000 : Int) = maxCt from rfl]; refine (w_Out _ _ _ _).mono ?_; rintro e w' ⟨rfl, rfl⟩))
    go_ret2
    rw [HF.out]
    exact DivU.no (by omega) (Nx.refl _)

set_option maxRecDepth 100000 in
set_option maxHeartbeats 1000000 in
theorem w_EqualI (lo lo' : Nat) (A B : Option Addr) (c d : Nat) (l : List Int) (w : World) (hA : Rd w lo A 1 encI l) (hB : Rd w lo' B 1 encI l) (hl : l.length ≤ 65536) :
    Calls Tryz.prog 37 #[.slice A l.length c, .slice B l.length d] w fun e w' => e = .returned (.bool true) ∧ Nx w w' := by
  generalize hn : l.length = n at *
  have HA := hide hA
  have HB := hide hB
  have HN := hide hn
  clear hA hB hn
  go_enter Tryz.func37, Tryz.ntmps37
  go_wp2
  go_loopw [5, 13] (fun _ i wr => ∃ k : Nat, k ≤ n ∧ i = .int .i64 k ∧ Nx w wr) (fun _ i _ => n - (intOf i).toNat)
  case atStart => exact ⟨0, Nat.zero_le _, rfl, Nx.refl _⟩
  case round =>
    obtain ⟨k, hk, rfl, hbw⟩ := hrel
    by_cases hlt : k < n
    · have hlt' : k < l.length := by have := HN.out; omega
      obtain ⟨b, off, rfl, _, hb, hbr, hc⟩ := HA.out.open_ hbw (by omega)
      obtain ⟨b', off', rfl, _, hb', hbr', hc'⟩ := HB.out.open_ hbw (by omega)
      have c0 : wr.cell? ⟨b, off + k, none⟩ = some (.int .i64 l[k]) := by have := hc k hlt' 0 _ rfl; simpa using this
      have d0 : wr.cell? ⟨b', off' + k, none⟩ = some (.int .i64 l[k]) := by have := hc' k hlt' 0 _ rfl; simpa using this
      clear hc hc'
      have q1 : (0 : Int) ≤ (k : Int) := by omega
      have q2 : (k : Int) < (n : Int) := by omega
      go_wp2_with fail
      go_quiet (fail)
      go_wp2
      go_roundw
      case rel => exact ⟨k + 1, by omega, by go_num, hbw.drewN _⟩
      case measure => simp [intOf]; omega
    · go_wp2
      go_ret
      exact ⟨rfl, hbw⟩

end Go.Proofs.YtncnmadiiaidfaaGreatDoor
/- More words for memory, of no program: rows out of literals, prefixes of rows, rows that stay while others turn. -/
namespace Go.Proofs.YtncnmadiiaidfaaGreatDoor
open Go.RowKit

section
variable {α : Type} {w w' : World} {lo K : Nat} {A : Option Addr} {enc : α → List Value} {xs : List α}
/-- The first ones of a slice. -/
theorem Rd.take (h : Rd w lo A K enc xs) (n : Nat) : Rd w lo A K enc (xs.take n) := fun hp => by
  have hp' : 0 < xs.length := by rw [List.length_take] at hp; omega
  obtain ⟨b, off, e, h1, hb, hc⟩ := h hp'
  refine ⟨b, off, e, h1, hb, fun i x hx j u hu => hc i x ?_ j u hu⟩
  have hi : i < (xs.take n).length := (List.getElem?_eq_some_iff.1 hx).1
  rw [List.length_take] at hi
  rw [← hx, List.getElem?_take_of_lt (by omega)]
/-- A row of the call's own out of a literal: its first n elements. -/
theorem own_lit {e : TypeId} {g n m : Nat} {cs : Array Value} {base : Nat} (hk : ∀ x, (enc x).length = K) (hg : w.heap[g]? = some (.cells cs e (0, 0))) (hb : base ≤ g) (hcs : cs.toList = xs.flatMap enc) (hm : xs.length = m) (hn : n ≤ m) (hmax : m ≤ maxLen) :
    w.ownsRow base e K (.slice (some ⟨g, 0, none⟩) n m) n ((xs.take n).flatMap enc) := by
  have hl : (xs.take n).length = n := by rw [List.length_take]; omega
  refine ⟨by rw [flat_len hk, hl], .inr ⟨g, m, cs, rfl, hb, hg, hn, hmax, ?_, ?_⟩⟩
  · rw [← Array.length_toList, hcs, flat_len hk, hm]
  · rw [hcs]
    have e1 : xs.flatMap enc = (xs.take n).flatMap enc ++ (xs.drop n).flatMap enc := by rw [← List.flatMap_append, List.take_append_drop]
    rw [e1, List.take_append_of_le_length (by rw [flat_len hk, hl]; exact Nat.le_refl _), List.take_of_length_le (by rw [flat_len hk, hl]; exact Nat.le_refl _)]
end
end Go.Proofs.YtncnmadiiaidfaaGreatDoor
/- What is handed out: the reference's. -/
namespace Go.Proofs.YtncnmadiiaidfaaGreatDoor
open Go.RowKit Go.Sort Go.Proofs Go.Shelf

theorem run_make_ints (n : Nat) (hn : n ≤ 100000) (w : World) : (Instr.makeSlice 22 (.int .i64 (n : Int)) (.int .i64 (n : Int))).run Tryz.prog w = .ok (.slice (some ⟨w.heap.size, 0, none⟩) n n) (w.alloc (.cells (madeCells #[.int .i64 0] n) 3)) := by
  obtain ⟨i, h1, h2, h3, h4⟩ := info_parts (show (Tryz.prog.info? 3).map (fun i => (i.zero, i.size, i.bytes)) = some (some (.int .i64 0), 1, 8) by kernel_rfl)
  have h := run_make (P := Tryz.prog) w 22 3 i (.int .i64 0) Tryz.underlying22 h1 h2 .i64 .i64 (n : Int) (n : Int) (by omega) (by omega) (by rw [h4]; omega) (by omega)
  rw [h]
  simp [h3, Value.cells]
theorem made_ints (n : Nat) : (madeCells #[.int .i64 0] n).toList = (List.replicate n (0 : Int)).flatMap encI := by
  rw [toList_madeCells_one]
  induction n with
  | zero => rfl
  | succ n ih => rw [List.replicate_succ, List.replicate_succ, List.flatMap_cons, ih]; rfl
theorem own_made (w : World) (n base : Nat) (hn : n ≤ 100000) (hb : base ≤ w.heap.size) {Z : Array Value} (hZ : Z.toList = (List.replicate n (0 : Int)).flatMap encI) : (w.alloc (.cells Z 3)).ownsRow base 3 1 (.slice (some ⟨w.heap.size, 0, none⟩) n n) n ((List.replicate n (0 : Int)).flatMap encI) := by
  have := own_lit (w := w.alloc (.cells Z 3)) (e := 3) (g := w.heap.size) (n := n) (m := n) (base := base) (xs := List.replicate n (0 : Int)) encI_len (hnew rfl) hb hZ (by simp) (Nat.le_refl _) (by unfold maxLen; omega)
  rwa [List.take_of_length_le (by simp)] at this
/-- A list filled up to k, the rest 0. -/
def fillN (L : List Int) (k : Nat) : List Int := L.take k ++ List.replicate (L.length - k) 0
theorem fillN_len (L : List Int) (k : Nat) (hk : k ≤ L.length) : (fillN L k).length = L.length := by unfold fillN; simp; omega
theorem fillN_zero (L : List Int) : fillN L 0 = List.replicate L.length 0 := by simp [fillN]
theorem fillN_all (L : List Int) : fillN L L.length = L := by simp [fillN]
theorem fillN_set (L : List Int) (k : Nat) (hk : k < L.length) : (fillN L k).set k L[k] = fillN L (k + 1) := by
  unfold fillN
  obtain ⟨m, hm⟩ : ∃ m, L.length - k = m + 1 := ⟨L.length - k - 1, by omega⟩
  have hm2 : L.length - (k + 1) = m := by omega
  have hl : (L.take k).length = k := by rw [List.length_take]; omega
  rw [hm, hm2, List.replicate_succ, List.set_append_right _ _ (by omega), hl, Nat.sub_self, List.set_cons_zero, List.take_succ_eq_append_getElem hk, List.append_assoc]; rfl
/-- The first of the greatest of the first k. -/
structure FM (cs : List Int) (k b : Nat) : Prop where
  at_ : b < cs.length
  in_ : b < k ∨ (k = 0 ∧ b = 0)
  up : ∀ j, j < k → cs.getD j 0 < cs.getD b 0 ∨ (cs.getD j 0 = cs.getD b 0 ∧ b ≤ j)
theorem FM.more {cs : List Int} {k b : Nat} (h : FM cs k b) (hk : k < cs.length) (hlt : cs.getD b 0 < cs.getD k 0) : FM cs (k + 1) k :=
  ⟨hk, .inl (by omega), fun j hj => by
    rcases Nat.lt_or_ge j k with h1 | h1
    · have := h.up j h1; omega
    · have e : j = k := by omega
      subst e; exact .inr ⟨rfl, Nat.le_refl _⟩⟩
theorem FM.same {cs : List Int} {k b : Nat} (h : FM cs k b) (hlt : ¬ cs.getD b 0 < cs.getD k 0) : FM cs (k + 1) b :=
  ⟨h.at_, .inl (by have := h.in_; omega), fun j hj => by
    rcases Nat.lt_or_ge j k with h1 | h1
    · exact h.up j h1
    · have e : j = k := by omega
      subst e
      have := h.in_
      omega⟩
end Go.Proofs.YtncnmadiiaidfaaGreatDoor
/- Groups that would pay less alone. -/
namespace Go.Proofs.YtncnmadiiaidfaaGreatDoor
open Go.RowKit Go.Sort Go.Proofs Go.Shelf

theorem el_S : ElemOf Tryz.prog 48 9 1 16 := ElemOf.mk' (z := .string ByteArray.empty) Tryz.underlying48 (by kernel_rfl) rfl
theorem encS_len (x : ByteArray) : (encS x).length = 1 := rfl
theorem encS_one (x : ByteArray) : ∀ v ∈ encS x, v.oneCell' = true := by
  intro v hv; simp [encS] at hv; subst hv; rfl
/-- Keys, or a fault. -/
def KeysU (F : Int) (who : List ByteArray) (w : World) (e : Ending) (w' : World) : Prop :=
  ∃ (A : Option Addr) (c : Nat) (zs : List ByteArray), e = .returned (.tuple #[.slice A zs.length c, .int .i64 F]) ∧ zs = (if F = 0 then who else []) ∧ Rd w' w.heap.size A 1 encS zs ∧ Nx w w'
theorem KeysU.no {F : Int} {who : List ByteArray} {w w' : World} (h : F ≠ 0) (hn : Nx w w') : KeysU F who w (.returned (.tuple #[.slice none 0 0, .int .i64 F])) w' := ⟨none, 0, [], rfl, by rw [if_neg h], Rd.nil, hn⟩

end Go.Proofs.YtncnmadiiaidfaaGreatDoor
/- A whole shared fairly: the reference's. -/
namespace Go.Proofs.YtncnmadiiaidfaaGreatDoor
open Go.RowKit Go.Sort Go.Proofs Go.Shelf

theorem el_Due : ElemOf Tryz.prog 43 47 2 24 := ElemOf.mk' (z := .agg #[.string ByteArray.empty, .int .i64 0]) Tryz.underlying43 (by kernel_rfl) rfl
theorem encDue_len (x : Due) : (encDue x).length = 2 := rfl
theorem encDue_one (x : Due) : ∀ v ∈ encDue x, v.oneCell' = true := by
  intro v hv; simp [encDue] at hv; rcases hv with rfl | rfl <;> rfl
end Go.Proofs.YtncnmadiiaidfaaGreatDoor
/- The stream's strings; clones. -/
namespace Go.Proofs.YtncnmadiiaidfaaGreatDoor
open Go.RowKit Go.Sort Go.Proofs Go.Shelf

/-- A string of some list. -/
def StrSome (zs : List ByteArray) (s k : Nat) (w : World) (e : Ending) (w' : World) : Prop := ∃ r ∈ zs, e = .returned (.string r) ∧ Gr s w w' ∧ Str w' s k
set_option maxRecDepth 100000 in
set_option maxHeartbeats 400000 in
/-- 's.Some(..)' of strings that lie in a block of their own. -/
theorem w_Some (g : Nat) (zs : List ByteArray) (cs : Array Value) (s k : Nat) (w : World) (hS : Str w s k) (hk : k < 1000000) (hg : w.heap[g]? = some (.cells cs 9 (0, 0))) (hne : g ≠ s) (hcs : cs.toList = zs.map Value.string) (h0 : zs ≠ []) (h1 : zs.length < 1000) :
    Calls Tryz.prog 21 #[.pointer (some ⟨s, 0, none⟩), .slice (some ⟨g, 0, none⟩) zs.length zs.length] w (StrSome zs s (k + 1) w) := by
  have hl : cs.size = zs.length := by rw [← Array.length_toList, hcs, List.length_map]
  have hp := List.length_pos_iff.2 h0
  generalize hm : zs.length = m at *
  have HM := hide hm
  clear hm h0
  go_enter Tryz.func21, Tryz.ntmps21
  go_wp2_with (go_at_call 19; refine (w_Next _ _ _ _ hS hk (by omega)).mono ?_; rintro e w' ⟨r, hr1, hr2, rfl, hgr, hS'⟩; (obtain ⟨q, rfl⟩ := Int.eq_ofNat_of_zero_le hr1); (have hq : q < zs.length := by have := HM.out; omega); (have hcell : w'.cell? ⟨g, q, none⟩ = some (.string zs[q]) := World.grownBy.cell hgr ((cell_of_row w g q _ _ _ hg).trans (by rw [← Array.getElem?_toList, hcs, List.getElem?_map, List.getElem?_eq_getElem hq]; rfl)) (by simp; omega)))
  go_ret
  exact ⟨_, List.getElem_mem hq, rfl, hgr, hS'⟩

set_option maxRecDepth 100000 in
set_option maxHeartbeats 400000 in
theorem w_CloneS (lo : Nat) (A : Option Addr) (c : Nat) (l : List ByteArray) (w : World) (hR : Rd w lo A 1 encS l) (hl : l.length ≤ 100000) :
    Calls Tryz.prog 22 #[.slice A l.length c] w fun e w' => ∃ v, e = .returned v ∧ w'.ownsRow w.heap.size 9 1 v l.length (l.flatMap encS) ∧ Nx w w' := by
  have q22 : ∀ (w : World) (a : Option Addr) (n c n' c' : Nat), (binOp .eql 48 (.slice a n c) (.slice none n' c')).run Tryz.prog w = .ok (.bool a.isNone) w := fun w a n c n' c' => Lib.run_eql_slice_nil w _ _ a n c n' c' Tryz.underlying48
  cases A with
  | none =>
    have hy : l = [] := by
      rcases l with _ | ⟨y, l⟩
      · rfl
      · obtain ⟨b, off, e, _⟩ := hR (by simp); cases e
    subst hy
    go_enter Tryz.func22, Tryz.ntmps22
    go_wp2
    go_ret
    exact ⟨_, rfl, World.ownsRow_nil _ _ _ _, Nx.refl _⟩
  | some a =>
    have hst := own_lit (w := w.alloc (.cells #[] 9)) (e := 9) (g := w.heap.size) (n := 0) (m := 0) (base := w.heap.size) (xs := ([] : List ByteArray)) encS_len (hnew rfl) (Nat.le_refl _) rfl rfl (Nat.le_refl _) (by unfold maxLen; omega)
    have HST := hide hst
    have HR := hide hR
    clear hst hR
    generalize hn : l.length = n at *
    have HN := hide hn
    clear hn
    go_enter Tryz.func22, Tryz.ntmps22
    go_wp2_with (at_builtin; refine wpAppL rfl _ _ _ rfl el_S encS encS_len encS_one (by omega) (by omega) w.heap.size _ [] rfl HST.out (some a) c l (by rw [HN.out]; rfl) (HR.out.nx ((Nx.refl _).alloc _)) (by have := HN.out; simp; omega) (by simp) ?_; intro v2 w2 hown2 hg2)
    go_ret
    rw [List.nil_append, HN.out] at hown2
    refine ⟨_, rfl, hown2, ?_⟩
    exact ((Nx.refl w).alloc _).grown hg2 (own_blk_lt HST.out)

end Go.Proofs.YtncnmadiiaidfaaGreatDoor
/- What the slots of a stream's statement hold, said by shape alone. -/
namespace Go.Proofs.YtncnmadiiaidfaaGreatDoor
open Go.RowKit

/-- A step of a stream's statement: block s (the stream) may turn, block b (what is made) may turn, all else stays. -/
def Two (s b : Nat) (w w' : World) : Prop :=
  w'.os = w.os ∧ w'.tape = w.tape ∧ w'.output = w.output ∧ w.heap.size ≤ w'.heap.size ∧ ∀ i, i < w.heap.size → i ≠ s → i ≠ b → w'.heap[i]? = w.heap[i]?
theorem Two.refl (s b : Nat) (w : World) : Two s b w w := ⟨rfl, rfl, rfl, Nat.le_refl _, fun _ _ _ _ => rfl⟩
theorem Two.of_gr {s b : Nat} {w w' : World} (h : Gr s w w') : Two s b w w' :=
  ⟨h.os, h.tape, h.output, h.sz, fun i hi hs _ => h.block i hi (by intro e; injection e with e; exact hs e)⟩
theorem Two.trans {s b : Nat} {w w' w'' : World} (h : Two s b w w') (k : Two s b w' w'') : Two s b w w'' :=
  ⟨k.1.trans h.1, k.2.1.trans h.2.1, k.2.2.1.trans h.2.2.1, Nat.le_trans h.2.2.2.1 k.2.2.2.1, fun i hi hs hb => (k.2.2.2.2 i (Nat.lt_of_lt_of_le hi h.2.2.2.1) hs hb).trans (h.2.2.2.2 i hi hs hb)⟩

def ShPtr (b o : Nat) (v : Value) (_w : World) : Prop := v = .pointer (some ⟨b, o, none⟩)
/-- A literal of n small strings in a block of its own. -/
def ShLitS (s b n : Nat) (v : Value) (w : World) : Prop :=
  ∃ (g : Nat) (zs : List ByteArray), v = .slice (some ⟨g, 0, none⟩) n n ∧ zs.length = n ∧ (∀ z ∈ zs, z.size ≤ 1000000) ∧ g ≠ s ∧ g ≠ b ∧ w.heap[g]? = some (.cells (zs.map Value.string).toArray 9 (0, 0))
/-- A literal of n numbers in a block of its own. -/
def ShLitI (s b n : Nat) (v : Value) (w : World) : Prop :=
  ∃ (g : Nat) (zs : List Int), v = .slice (some ⟨g, 0, none⟩) n n ∧ zs.length = n ∧ g ≠ s ∧ g ≠ b ∧ w.heap[g]? = some (.cells (zs.map (Value.int .i64)).toArray 3 (0, 0))
theorem ShLitS.keep {s b n : Nat} {v : Value} {w w' : World} (h : ShLitS s b n v w) (k : Two s b w w') : ShLitS s b n v w' := by
  obtain ⟨g, zs, h1, h2, h3, h4, h5, h6⟩ := h
  exact ⟨g, zs, h1, h2, h3, h4, h5, (k.2.2.2.2 g (Array.getElem?_eq_some_iff.1 h6).1 h4 h5).trans h6⟩
theorem ShLitI.keep {s b n : Nat} {v : Value} {w w' : World} (h : ShLitI s b n v w) (k : Two s b w w') : ShLitI s b n v w' := by
  obtain ⟨g, zs, h1, h2, h3, h4, h5⟩ := h
  exact ⟨g, zs, h1, h2, h3, h4, (k.2.2.2.2 g (Array.getElem?_eq_some_iff.1 h5).1 h3 h4).trans h5⟩

section
variable {ops : Array Oper} {Q : Exit → Act → World → Prop} {i : Nat} {o : Oper} {a : Act} {w : World} {K : Act → World → Prop}
theorem run_call {f : FuncId} {xs : Array Operand} {ts : Array TypeId} (hop : o.op = .call { callee := .value (.func f), args := xs, argTypes := ts }) (he : ∀ args w, (callFunc f args).run Tryz.prog w = .ok (.enter f args) w) : (execOp a.eval o).run Tryz.prog w = .ok (.enter f (xs.map a.eval)) w := by
  unfold execOp
  rw [hop]
  have e : a.eval (.func f) = .func (.func f) #[] #[] := rfl
  simp [resolve, e, Deferred.ofValue, invoke, he]
end
end Go.Proofs.YtncnmadiiaidfaaGreatDoor
/- Cells behind calls that make memory alone. Of no program. -/
namespace Go.Proofs.YtncnmadiiaidfaaGreatDoor
open Go.RowKit

theorem nx_cell {w w' : World} {b o : Nat} {v : Value} (hn : Nx w w') (hb : b < w.heap.size) (h : w.cell? ⟨b, o, none⟩ = some v) : w'.cell? ⟨b, o, none⟩ = some v := (Below.cell hn (p := ⟨b, _, none⟩) hb).trans h
theorem nx_rules {W w1 : World} (hb : Nx W w1) : (∀ b o, b < W.heap.size → w1.cell? ⟨b, o, none⟩ = W.cell? ⟨b, o, none⟩) ∧ (∀ b o, b < W.heap.size → w1.frozen? ⟨b, o, none⟩ = W.frozen? ⟨b, o, none⟩) :=
  ⟨fun b o h => Below.cell hb (p := ⟨b, o, none⟩) h, fun b o h => Below.frozen hb (p := ⟨b, o, none⟩) h⟩
end Go.Proofs.YtncnmadiiaidfaaGreatDoor
/- A drawn statement over a stream and a price's cells: what the world holds, and each operation's step. -/
namespace Go.Proofs.YtncnmadiiaidfaaGreatDoor
open Go.RowKit

section
variable {P : Program} {ops : Array Oper} {Q : Exit → Act → World → Prop}
/-- The frame behind a drawn statement: the old one, with what was written. -/
theorem known_frame {W : Nat → World → Prop} {Sh : Nat → Value → World → Prop} {a0 a : Act} {listed : Array Bool} {w : World} (h : Known ops W Sh a0 listed a w) (_ : dstsB ops a0.tmps.size = true) :
    ∃ f : Tmp → Value, a = ⟨(dstsOf ops).foldl (fun t d => t.setIfInBounds d (f d)) a0.tmps, a0.defers⟩ := by
  refine ⟨fun d => a.tmps.getD d undef, ?_⟩
  obtain ⟨ts, df⟩ := a
  have hs := h.frame.1
  have hd := h.frame.2
  simp only at hs hd
  subst hd
  congr 1
  have gen : ∀ (l : List Tmp) (t0 : Array Value), t0.size = ts.size → (∀ t, t ∉ l → ts.getD t undef = t0.getD t undef) → ts = l.foldl (fun t d => t.setIfInBounds d (ts.getD d undef)) t0 := by
    intro l
    induction l with
    | nil =>
      intro t0 h1 h2
      apply Array.ext
      · exact h1.symm
      · intro i hi hj
        have := h2 i (by simp)
        have hj' : i < t0.size := by simpa using hj
        simp [Array.getD, hi, hj'] at this
        exact this
    | cons d l ih =>
      intro t0 h1 h2
      refine ih _ (by simpa using h1) (fun t ht => ?_)
      by_cases e : t = d
      · subst e
        by_cases hb : t < t0.size
        · simp [Array.getD, hb]
        · have hb2 : ¬ t < ts.size := by rw [← h1]; exact hb
          simp [Array.getD, hb, hb2]
      · rw [h2 t (by simp [e, ht])]
        simp [Array.getElem?_setIfInBounds_ne (fun e2 : d = t => e e2.symm)]
  exact gen _ _ hs.symm (fun t ht => h.old t ht)
end

/-- A price with no giants. -/
def okP (x : Price) : Prop := x.key.size ≤ 1000 ∧ ∀ z ∈ [x.base, x.metre, x.minute, x.cross, x.from_, x.to_, x.peak, x.least, x.most], -1000000000000000 ≤ z ∧ z ≤ 1000000000000000
/-- What is known of a price's cells from off on in block b. -/
structure PrBox (b off : Nat) (B : World → Prop) : Prop where
  get : ∀ w, B w → ∃ x : Price, okP x ∧ ∀ j u, (encP x)[j]? = some u → w.cell? ⟨b, off + j, none⟩ = some u
  frz : ∀ w j, B w → w.frozen? ⟨b, j, none⟩ = false
  lt : ∀ w, B w → b < w.heap.size
  setS : ∀ w j (t : ByteArray), B w → (j = 0) → t.size ≤ 1000 → B (w.setCell ⟨b, off + j, none⟩ (.string t))
  setI : ∀ w j (z : Int), B w → (1 ≤ j ∧ j ≤ 9) → -1000000000000000 ≤ z ∧ z ≤ 1000000000000000 → B (w.setCell ⟨b, off + j, none⟩ (.int .i64 z))
  same : ∀ w w', B w → w'.heap[b]? = w.heap[b]? → w.heap.size ≤ w'.heap.size → B w'
def ShT (v : Value) (_w : World) : Prop := ∃ t : ByteArray, v = .string t ∧ t.size ≤ 1000
def ShZ (v : Value) (_w : World) : Prop := ∃ z : Int, v = .int .i64 z ∧ -1000000000000000 ≤ z ∧ z ≤ 1000000000000000
/-- A literal of n small strings in a block of its own. -/
def ShLT (s b n : Nat) (v : Value) (w : World) : Prop :=
  ∃ (g : Nat) (zs : List ByteArray), v = .slice (some ⟨g, 0, none⟩) n n ∧ zs.length = n ∧ (∀ z ∈ zs, z.size ≤ 1000) ∧ g ≠ s ∧ g ≠ b ∧ w.heap[g]? = some (.cells (zs.map Value.string).toArray 9 (0, 0))
def ShLZ (s b n : Nat) (v : Value) (w : World) : Prop :=
  ∃ (g : Nat) (zs : List Int), v = .slice (some ⟨g, 0, none⟩) n n ∧ zs.length = n ∧ (∀ z ∈ zs, -1000000000000000 ≤ z ∧ z ≤ 1000000000000000) ∧ g ≠ s ∧ g ≠ b ∧ w.heap[g]? = some (.cells (zs.map (Value.int .i64)).toArray 3 (0, 0))
theorem ShLT.keep {s b n : Nat} {v : Value} {w w' : World} (h : ShLT s b n v w) (k : Two s b w w') : ShLT s b n v w' := by
  obtain ⟨g, zs, h1, h2, h3, h4, h5, h6⟩ := h
  exact ⟨g, zs, h1, h2, h3, h4, h5, (k.2.2.2.2 g (Array.getElem?_eq_some_iff.1 h6).1 h4 h5).trans h6⟩
theorem ShLZ.keep {s b n : Nat} {v : Value} {w w' : World} (h : ShLZ s b n v w) (k : Two s b w w') : ShLZ s b n v w' := by
  obtain ⟨g, zs, h1, h2, h3, h4, h5, h6⟩ := h
  exact ⟨g, zs, h1, h2, h3, h4, h5, (k.2.2.2.2 g (Array.getElem?_eq_some_iff.1 h6).1 h4 h5).trans h6⟩
/-- What the world holds when m operations have come up. -/
structure TyW (s b k : Nat) (B : World → Prop) (w0 : World) (m : Nat) (w : World) : Prop where
  two : Two s b w0 w
  str : Str w s (k + 2 * m)
  box : B w
theorem Two.alloc {s b : Nat} (w : World) (o : Obj) : Two s b w (w.alloc o) := Two.of_gr ((Gr.refl s w).alloc o)
theorem Two.set {s b j : Nat} {w : World} (u : Value) : Two s b w (w.setCell ⟨b, j, none⟩ u) := by
  have h := (Gr.refl b w).setS (p := ⟨b, j, none⟩) (.inl rfl) u
  exact ⟨h.os, h.tape, h.output, h.sz, fun i hi _ hb => h.block i hi (by intro e; injection e with e; exact hb e)⟩
section
variable {s b off k m : Nat} {B : World → Prop} {w0 w : World}
theorem TyW.pass (h : TyW s b k B w0 m w) : TyW s b k B w0 (m + 1) w := ⟨h.two, h.str.more (by omega), h.box⟩
theorem TyW.alloc (h : TyW s b k B w0 m w) (E : PrBox b off B) (o : Obj) : TyW s b k B w0 (m + 1) (w.alloc o) :=
  ⟨h.two.trans (Two.alloc w o), (h.str.nx ((Nx.refl w).alloc o)).more (by omega), E.same _ _ h.box (((Nx.refl w).alloc o).block b (E.lt _ h.box)) ((Nx.refl w).alloc o).sz⟩
theorem TyW.gr (h : TyW s b k B w0 m w) (E : PrBox b off B) (hb : b ≠ s) {w' : World} (hg : Gr s w w') (hS : Str w' s (k + 2 * (m + 1))) : TyW s b k B w0 (m + 1) w' :=
  ⟨h.two.trans (Two.of_gr hg), hS, E.same _ _ h.box (hg.block b (E.lt _ h.box) (by intro e; injection e with e; exact hb e)) hg.sz⟩
theorem TyW.setS (h : TyW s b k B w0 m w) (E : PrBox b off B) (hb : s < b) {j : Nat} {t : ByteArray} (hj : j = 0) (ht : t.size ≤ 1000) : TyW s b k B w0 (m + 1) (w.setCell ⟨b, off + j, none⟩ (.string t)) :=
  ⟨h.two.trans (Two.set _), (h.str.row (row := some b) ((Gr.refl b w).setS (p := ⟨b, off + j, none⟩) (.inl rfl) _) (fun j h => by injection h with h; omega)).more (by omega), E.setS _ _ _ h.box hj ht⟩
theorem TyW.setI (h : TyW s b k B w0 m w) (E : PrBox b off B) (hb : s < b) {j : Nat} {z : Int} (hj : 1 ≤ j ∧ j ≤ 9) (hz : -1000000000000000 ≤ z ∧ z ≤ 1000000000000000) : TyW s b k B w0 (m + 1) (w.setCell ⟨b, off + j, none⟩ (.int .i64 z)) :=
  ⟨h.two.trans (Two.set _), (h.str.row (row := some b) ((Gr.refl b w).setS (p := ⟨b, off + j, none⟩) (.inl rfl) _) (fun j h => by injection h with h; omega)).more (by omega), E.setI _ _ _ h.box hj hz⟩
end
section
variable {ops : Array Oper} {Q : Exit → Act → World → Prop} {i : Nat} {o : Oper} {a : Act} {w : World} {K : Act → World → Prop}
theorem ty_some (hi : ops[i]? = some o) (hg : o.guard = none) {x y : Operand} {ts : Array TypeId} {s b n k : Nat} (hop : o.op = .call { callee := .value (.func 21), args := #[x, y], argTypes := ts })
    (hx : ShPtr s 0 (a.eval x) w) (hy : ShLT s b n (a.eval y) w) (hn : 0 < n ∧ n < 1000) (hS : Str w s k) (hk : k < 1000000)
    (hK : ∀ (t : ByteArray) (w' : World), t.size ≤ 1000 → Gr s w w' → Str w' s (k + 1) → K (a.put o.dst (.string t)) w') : wpOp Tryz.prog ops Q i K a w := by
  obtain ⟨g, zs, h1, h2, h3, h4, h5, h6⟩ := hy
  have hc := w_Some g zs _ s k w hS hk h6 h4 (by simp) (by intro e; rw [e] at h2; simp at h2; omega) (by omega)
  rw [h2] at hc
  have hr := run_call (a := a) (w := w) hop (enters_of Tryz.func21 (by kernel_rfl) rfl)
  unfold ShPtr at hx
  have e : (#[x, y] : Array Operand).map a.eval = #[.pointer (some ⟨s, 0, none⟩), .slice (some ⟨g, 0, none⟩) n n] := by simp [hx, h1]
  rw [e] at hr
  refine wpOp_call hi hg hr hc ?_
  rintro e w' ⟨t, ht, rfl, hgr, hS'⟩
  exact ⟨_, rfl, hK t w' (h3 t ht) hgr hS'⟩
theorem ty_pick (hi : ops[i]? = some o) (hg : o.guard = none) {x y : Operand} {ts : Array TypeId} {s b n k : Nat} (hop : o.op = .call { callee := .value (.func 15), args := #[x, y], argTypes := ts })
    (hx : ShPtr s 0 (a.eval x) w) (hy : ShLZ s b n (a.eval y) w) (hn : 0 < n ∧ n < 1000) (hS : Str w s k) (hk : k < 1000000)
    (hK : ∀ (z : Int) (w' : World), (-1000000000000000 ≤ z ∧ z ≤ 1000000000000000) → Gr s w w' → Str w' s (k + 1) → K (a.put o.dst (.int .i64 z)) w') : wpOp Tryz.prog ops Q i K a w := by
  obtain ⟨g, zs, h1, h2, h3, h4, h5, h6⟩ := hy
  have hc := w_PickI g zs _ s k w hS hk h6 h4 (by simp) (by intro e; rw [e] at h2; simp at h2; omega) (by omega)
  rw [h2] at hc
  have hr := run_call (a := a) (w := w) hop (enters_of Tryz.func15 (by kernel_rfl) rfl)
  unfold ShPtr at hx
  have e : (#[x, y] : Array Operand).map a.eval = #[.pointer (some ⟨s, 0, none⟩), .slice (some ⟨g, 0, none⟩) n n] := by simp [hx, h1]
  rw [e] at hr
  refine wpOp_call hi hg hr hc ?_
  rintro e w' ⟨t, ht, rfl, hgr, hS'⟩
  exact ⟨_, rfl, hK t w' (h3 t ht) hgr hS'⟩
theorem ty_odd (hi : ops[i]? = some o) (hg : o.guard = none) {x : Operand} {l h : Int} {ts : Array TypeId} {s k : Nat} (hop : o.op = .call { callee := .value (.func 23), args := #[x, .const (.int .i64 l), .const (.int .i64 h)], argTypes := ts })
    (hx : ShPtr s 0 (a.eval x) w) (hl : -4294967296 ≤ l ∧ l ≤ h ∧ h < 4294967296) (hn : h - l < 4294967296) (hS : Str w s k) (hk : k < 900000)
    (hK : ∀ (z : Int) (w' : World), (-1000000000000000 ≤ z ∧ z ≤ 1000000000000000) → Gr s w w' → Str w' s (k + 2) → K (a.put o.dst (.int .i64 z)) w') : wpOp Tryz.prog ops Q i K a w := by
  have hc := w_Odd l h s k w hS hk hl hn
  have hr := run_call (a := a) (w := w) hop (enters_of Tryz.func23 (by kernel_rfl) rfl)
  unfold ShPtr at hx
  have e : (#[x, .const (.int .i64 l), .const (.int .i64 h)] : Array Operand).map a.eval = #[.pointer (some ⟨s, 0, none⟩), .int .i64 l, .int .i64 h] := by simp only [List.map_toArray, List.map_cons, List.map_nil, hx]; rfl
  rw [e] at hr
  refine wpOp_call hi hg hr hc ?_
  rintro e w' ⟨z, hz1, hz2, rfl, hgr, hS'⟩
  exact ⟨_, rfl, hK z w' ⟨by omega, by omega⟩ hgr hS'⟩
end
end Go.Proofs.YtncnmadiiaidfaaGreatDoor
/- Plain: what a trip costs, within 64 bits. -/
namespace Go.Proofs.YtncnmadiiaidfaaGreatDoor

theorem compact_len {α : Type} [Inhabited α] [DecidableEq α] (l : List α) : (Lib.compact l).length ≤ l.length := by
  unfold Lib.compact Lib.compactUpTo
  rw [List.length_map]
  exact Nat.le_trans (List.length_filter_le _ _) (by simp)
theorem filtO_len (zs : List Zone) (l : List ByteArray) : (filtO zs l).length ≤ l.length := by
  unfold filtO
  exact Nat.le_trans (List.length_filter_le _ _) (by simp)
theorem crossO_len (zs : List Zone) (l : List ByteArray) : (crossO zs l).length ≤ l.length := Nat.le_trans (compact_len _) (filtO_len zs l)
/-- The sum as the program makes it. -/
theorem cost_wrap {p : Price} {t : Jour} (hp : PriceOk p) (ht : JourOk t) {L : Nat} (hL : L ≤ 2000) :
    IntKind.i64.wrap (IntKind.i64.wrap (IntKind.i64.wrap (p.base + IntKind.i64.wrap (p.metre * begI t.metres 100)) + IntKind.i64.wrap (p.minute * begI (t.to_ - t.from_) 60000)) + IntKind.i64.wrap (p.cross * max 0 (IntKind.i64.wrap ((L : Int) - 1)))) = costN p t L := by
  obtain ⟨h1, h2, h3⟩ := cost_parts hp ht hL
  have hb := hp.base
  rw [show IntKind.i64.wrap ((L : Int) - 1) = (L : Int) - 1 from IntWalk.i64_in _ (by omega)]
  unfold costN
  generalize p.metre * begI t.metres 100 = x1 at *
  generalize p.minute * begI (t.to_ - t.from_) 60000 = x2 at *
  generalize p.cross * max 0 ((L : Int) - 1) = x3 at *
  rw [show IntKind.i64.wrap x1 = x1 from IntWalk.i64_in _ (by omega), show IntKind.i64.wrap x2 = x2 from IntWalk.i64_in _ (by omega), show IntKind.i64.wrap x3 = x3 from IntWalk.i64_in _ (by omega),
    show IntKind.i64.wrap (p.base + x1) = p.base + x1 from IntWalk.i64_in _ (by omega), show IntKind.i64.wrap (p.base + x1 + x2) = p.base + x1 + x2 from IntWalk.i64_in _ (by omega),
    show IntKind.i64.wrap (p.base + x1 + x2 + x3) = p.base + x1 + x2 + x3 from IntWalk.i64_in _ (by omega)]
theorem begs_wrap {t : Jour} (ht : JourOk t) : IntKind.i64.wrap (begI t.metres 100) = begI t.metres 100 ∧ IntKind.i64.wrap (begI (t.to_ - t.from_) 60000) = begI (t.to_ - t.from_) 60000 := by
  have h1 := ht.metres
  have h2 := ht.time
  have b1 := begI_bd (n := t.metres) (part := 100) (B := 1000000) (by omega) h1.1 (by omega)
  have b2 := begI_bd (n := t.to_ - t.from_) (part := 60000) (B := 5761440) (by omega) (by omega) (by omega)
  exact ⟨IntWalk.i64_in _ (by omega), IntWalk.i64_in _ (by omega)⟩
theorem hourJ_bd {t : Jour} (ht : JourOk t) : 0 ≤ hourJ t ∧ hourJ t ≤ 23 := by
  unfold hourJ
  have h2 := ht.time
  omega
theorem peak_bd {p : Price} {t : Jour} (hp : PriceOk p) (ht : JourOk t) {L : Nat} (hL : L ≤ 2000) : 0 ≤ costN p t L * p.peak ∧ costN p t L * p.peak ≤ 6763441000000000000 := by
  have h := mul_bd (costN_bd hp ht hL) hp.peak
  exact ⟨h.1, by omega⟩
theorem costH_in {p : Price} {t : Jour} {n : Int} (h : p.from_ ≤ hourJ t) (h2 : hourJ t < p.to_) : costH p t n = begI (n * p.peak) 100 := by unfold costH; rw [if_pos ⟨h, h2⟩]
theorem costH_low {p : Price} {t : Jour} {n : Int} (h : ¬ p.from_ ≤ hourJ t) : costH p t n = n := by unfold costH; rw [if_neg (fun hc => h hc.1)]
theorem costH_high {p : Price} {t : Jour} {n : Int} (h : ¬ hourJ t < p.to_) : costH p t n = n := by unfold costH; rw [if_neg (fun hc => h hc.2)]
end Go.Proofs.YtncnmadiiaidfaaGreatDoor
/- A map of integers in which it counts whether a key is there, said of a plain function. Of no program. -/
namespace Go.Proofs.YtncnmadiiaidfaaGreatDoor
open Go.RowKit Go.Maps

section
variable {κ : Type} {P : Program} {K E : TypeId} {ek : κ → Value} {dom : κ → Prop}

/-- The map's datum D holds f k at key k, if it has the key at all; its keys lie in dom. -/
structure MoD (P : Program) (K : TypeId) (ek : κ → Value) (dom : κ → Prop) (D : DataW Unit) (f : κ → Option Int) : Prop where
  isMap : IsMap D
  at_ : ∀ k l, dom k → keyOf P K (ek k) = some l → ∀ z, D.atKey l z = (match f k with | some v => .lit (.int .i64 v) | none => z)
  keys : ∀ l, has D l = true → ∃ k, dom k ∧ keyOf P K (ek k) = some l
  dm : ∀ k, (f k).isSome = true → dom k

/-- Block b is such a map. -/
def MoI (P : Program) (K E : TypeId) (ek : κ → Value) (dom : κ → Prop) (w : World) (b n : Nat) (f : κ → Option Int) : Prop :=
  ∃ D : DataW Unit, w.ownsMap P K (plainElem P E) b n D ∧ MoD P K ek dom D f

theorem MoI.lt {w : World} {b n : Nat} {f : κ → Option Int} (h : MoI P K E ek dom w b n f) : b < w.heap.size := by
  obtain ⟨D, h1, _⟩ := h; exact h1.lt
theorem MoI.nx {w w' : World} {b n : Nat} {f : κ → Option Int} (h : MoI P K E ek dom w b n f) (hn : Nx w w') : MoI P K E ek dom w' b n f := by
  obtain ⟨D, h1, h2⟩ := h
  exact ⟨D, h1.kept (hn.gr none) (by simp), h2⟩
theorem MoI.gr {w w' : World} {b n s : Nat} {f : κ → Option Int} (h : MoI P K E ek dom w b n f) (hn : Gr s w w') (hs : b ≠ s) : MoI P K E ek dom w' b n f := by
  obtain ⟨D, h1, h2⟩ := h
  exact ⟨D, h1.kept (row := some s) hn (by simpa using hs), h2⟩
theorem MoI.mono {w : World} {b n n' : Nat} {f : κ → Option Int} (h : MoI P K E ek dom w b n f) (hn : n ≤ n') : MoI P K E ek dom w b n' f := by
  obtain ⟨D, h1, h2⟩ := h; exact ⟨D, h1.mono hn, h2⟩
theorem MoI.made (w : World) : MoI P K E ek dom (w.alloc (.map #[] 0)) w.heap.size 0 (fun _ => none) :=
  ⟨.map [], World.ownsMap_made w P K _, isMap_empty, fun _ _ _ _ _ => rfl, fun l h => (by simp [has_eq] at h), fun k h => by cases h⟩
theorem wf_i64o {n : Int} : (Lit.int .i64 n).wf = true ↔ -9223372036854775808 ≤ n ∧ n ≤ 9223372036854775807 := by
  simp [Lit.wf, IntKind.min, IntKind.max, IntKind.signed, IntKind.bits]
theorem MoD.has_ {D : DataW Unit} {f : κ → Option Int} (h : MoD P K ek dom D f) {k : κ} (hd : dom k) {l : Lit} (hkey : keyOf P K (ek k) = some l) : has D l = (f k).isSome := by
  have e := h.at_ k l hd hkey
  cases hf : f k with
  | none => rw [hf] at e; exact has_false_of_atKey e
  | some v => rw [hf] at e; exact has_true_of_atKey e

theorem MoI.look {w : World} {b n : Nat} {f : κ → Option Int} {t : TypeId} (h : MoI P K E ek dom w b n f) (KL : Keyed P K) (ht : P.underlying t = some (.map K E)) (he : P.underlying E = some (.int .i64)) (hz : (zeroValue E).run P w = .ok (.int .i64 0) w)
    {k : κ} (hd : dom k) {l : Lit} (hkey : keyOf P K (ek k) = some l) : (Instr.lookup t (.map (some b)) (ek k) false).run P w = .ok (.int .i64 ((f k).getD 0)) w ∧ (Lit.int .i64 ((f k).getD 0)).wf = true := by
  obtain ⟨D, h1, h2⟩ := h
  obtain ⟨c, hrun, hat, hwf⟩ := h1.lookup_int KL ht he hz hkey
  have e := h2.at_ k l hd hkey (.lit (.int .i64 0))
  rw [hat] at e
  have e' : c = (f k).getD 0 := by
    cases hf : f k with
    | none => rw [hf] at e; injection e with e; injection e
    | some v => rw [hf] at e; injection e with e; injection e
  subst e'
  exact ⟨hrun, hwf⟩

theorem MoD.put {D : DataW Unit} {f : κ → Option Int} [DecidableEq κ] (h : MoD P K ek dom D f) (KL : Keyed P K) (hinj : ∀ a b : κ, ek a = ek b → a = b) {k : κ} (hd : dom k) {l : Lit} (hkey : keyOf P K (ek k) = some l) (v : Int) :
    MoD P K ek dom (D.put l (.lit (.int .i64 v))) (fun k' => if k' = k then some v else f k') where
  isMap := h.isMap.put _ _
  at_ k' l' hd' hk' z := by
    by_cases e : k' = k
    · subst e
      rw [hkey] at hk'; injection hk' with hk'; subst hk'
      rw [if_pos rfl]
      exact atKey_put_same h.isMap (KL.key hkey) _ _
    · rw [if_neg e]
      have hne : l' ≠ l := fun e1 => by subst e1; exact e (hinj _ _ (KL.inj hk' hkey))
      rw [atKey_put_other hne]
      exact h.at_ k' l' hd' hk' z
  keys l' hl' := by
    by_cases e : l' = l
    · subst e; exact ⟨k, hd, hkey⟩
    · rw [has_put_other e] at hl'; exact h.keys l' hl'
  dm k' hk' := by
    by_cases e : k' = k
    · subst e; exact hd
    · rw [if_neg e] at hk'; exact h.dm k' hk'

/-- 'm[k] = v'. -/
theorem MoI.upd {w : World} {b n : Nat} {f : κ → Option Int} [DecidableEq κ] {t : TypeId} (h : MoI P K E ek dom w b n f) (KL : Keyed P K) (hinj : ∀ a b : κ, ek a = ek b → a = b) (ht : P.underlying t = some (.map K E)) (he : P.underlying E = some (.int .i64)) (hn : n < maxLen)
    {k : κ} (hd : dom k) {l : Lit} (hkey : keyOf P K (ek k) = some l) (v : Int) (hv : (Lit.int .i64 v).wf = true) :
    ∃ w', (Instr.mapUpdate t (.map (some b)) (ek k) (.int .i64 v)).run P w = .ok () w' ∧ MoI P K E ek dom w' b (n + 1) (fun k' => if k' = k then some v else f k') ∧ Gr b w w' := by
  obtain ⟨D, h1, h2⟩ := h
  obtain ⟨w', hr, ho, hg⟩ := h1.update KL ht hn hkey (plainElem_int (H := Unit) he hv)
  exact ⟨w', hr, ⟨_, ho, h2.put KL hinj hd hkey v⟩, hg⟩

/-- 'm[k] = v' at the operation. -/
theorem wpMoPut [DecidableEq κ] (w : World) {ops : Array Oper} {rest : List Oper} {o : Oper} {a : Act} {Q : Exit → Act → World → Prop}
    (hg : o.guard = none) (m x v : Operand) (t : TypeId) (hop : o.op = Op.mapUpdate t m x v)
    (KL : Keyed P K) (hinj : ∀ a b : κ, ek a = ek b → a = b) (ht : P.underlying t = some (.map K E)) (he : P.underlying E = some (.int .i64)) (b n : Nat) (f : κ → Option Int)
    (hm : a.eval m = .map (some b)) (hown : MoI P K E ek dom w b n f) (hn : n < maxLen) (k : κ) (hx : a.eval x = ek k) (hd : dom k) (l : Lit) (hkey : keyOf P K (ek k) = some l)
    (z : Int) (hz : a.eval v = .int .i64 z) (hwf : (Lit.int .i64 z).wf = true)
    (hK : ∀ w', MoI P K E ek dom w' b (n + 1) (fun k' => if k' = k then some z else f k') → Gr b w w' → wpList P ops Q rest (a.put o.dst undef) w') :
    wpList P ops Q (o :: rest) a w := by
  refine wpList_plain hg fun K' hK' => ?_
  obtain ⟨w', hrun, r1, r2⟩ := hown.upd KL hinj ht he hn hd hkey z hwf
  unfold Oper.wp
  simp [execOp, hop, hm, hx, hz, hrun, Result.andThen]
  exact hK' _ _ (hK w' r1 r2)
end
end Go.Proofs.YtncnmadiiaidfaaGreatDoor
/- Sums by key that a loop over a map collects. Of no program. -/
namespace Go.Proofs.YtncnmadiiaidfaaGreatDoor
open Go.RowKit Go.Sort Go.Maps Go.Proofs Go.Shelf

def domS (k : ByteArray) : Prop := k.size ≤ maxLen
def litS (k : ByteArray) : Lit := .string k.data.toList
theorem litS_inj {a b : ByteArray} (h : litS a = litS b) : a = b := data_inj (by unfold litS at h; injection h)
theorem keyS_mk {P : Program} {k : TypeId} (hk : P.underlying k = some .string) {s : ByteArray} (hs : domS s) : keyOf P k (.string s) = some (litS s) := by
  unfold domS at hs
  simp [keyOf, hk, mapKey, hs, litS]
theorem keyS_inv {P : Program} {k : TypeId} (hk : P.underlying k = some .string) {key : Value} {kl : Lit} (h : keyOf P k key = some kl) : ∃ s, key = .string s ∧ domS s ∧ kl = litS s := by
  cases key <;> simp [keyOf, hk, mapKey] at h
  obtain ⟨h1, rfl⟩ := h
  exact ⟨_, rfl, h1, rfl⟩
theorem strV_inj (a b : ByteArray) (h : Value.string a = Value.string b) : a = b := by injection h
theorem sameS_self (s : ByteArray) : (litS s).sameKey (litS s) = true := by simp [litS, Lit.sameKey]

/-- What has been collected while some entries are still to come. -/
structure CollK (f : ByteArray → Option Int) (zero : Bool) (left : Lit → Bool) (L : List Due) : Prop where
  val : ∀ d ∈ L, f d.key = some d.cents ∧ (d.cents ≠ 0 ∨ zero = true)
  gone : ∀ d ∈ L, left (litS d.key) = false
  all_ : ∀ k v, f k = some v → (v ≠ 0 ∨ zero = true) → left (litS k) = false → (⟨k, v⟩ : Due) ∈ L
  nodup : (L.map Due.key).Nodup

theorem collK_start {f : ByteArray → Option Int} {zero : Bool} {left : Lit → Bool} (h : ∀ k, (f k).isSome = true → left (litS k) = true) : CollK f zero left [] :=
  ⟨by simp, by simp, fun k v h1 _ h2 => (by rw [h k (by rw [h1]; rfl)] at h2; cases h2), by simp⟩
theorem collK_step {f : ByteArray → Option Int} {zero : Bool} {left : Lit → Bool} {L : List Due} (h : CollK f zero left L) {k : ByteArray} {v : Int} (hv : f k = some v) (hl : left (litS k) = true)
    (L' : List Due) (hL : L' = if v ≠ 0 ∨ zero = true then L ++ [⟨k, v⟩] else L) : CollK f zero (fun z => left z && !z.sameKey (litS k)) L' := by
  have hself := sameS_self k
  refine ⟨?_, ?_, ?_, ?_⟩
  · intro t ht
    rw [hL] at ht
    split at ht
    · rcases List.mem_append.1 ht with ht | ht
      · exact h.val t ht
      · simp at ht; subst ht; exact ⟨hv, by assumption⟩
    · exact h.val t ht
  · intro t ht
    rw [hL] at ht
    have old : t ∈ L → (left (litS t.key) && !(litS t.key).sameKey (litS k)) = false := fun ht => by rw [h.gone t ht]; rfl
    split at ht
    · rcases List.mem_append.1 ht with ht | ht
      · exact old ht
      · simp at ht; subst ht
        show (left (litS k) && !(litS k).sameKey (litS k)) = false
        rw [hself]; simp
    · exact old ht
  · intro k' v' hv' hz hlf
    by_cases e : k' = k
    · subst e
      rw [hv] at hv'; injection hv' with hv'; subst hv'
      rw [hL, if_pos hz]; simp
    · have hs : (litS k').sameKey (litS k) = false := sameKey_ne (fun e1 => e (litS_inj e1))
      rw [hs] at hlf
      have := h.all_ k' v' hv' hz (by simpa using hlf)
      rw [hL]; split
      · exact List.mem_append_left _ this
      · exact this
  · rw [hL]; split
    · rw [List.map_append, List.nodup_append]
      refine ⟨h.nodup, by simp, fun a ha b hb e => ?_⟩
      simp at hb; subst hb; subst e
      obtain ⟨t, ht, e2⟩ := List.mem_map.1 ha
      have := h.gone t ht
      rw [show t.key = a from e2, hl] at this; cases this
    · exact h.nodup
theorem collK_end {f : ByteArray → Option Int} {zero : Bool} {left : Lit → Bool} {L : List Due} (h : CollK f zero left L) (hl : ∀ kl, left kl = false) {ys : List Due} (hp : ys.Perm L)
    (hs : ∀ i j (hi : i < j) (hj : j < ys.length), ltOf dueC ys[j] (ys[i]'(by omega)) = false) : DuesOf f zero ys := by
  refine ⟨?_, fun d => ?_⟩
  · have hnd : (ys.map Due.key).Nodup := (hp.map Due.key).nodup_iff.2 h.nodup
    rw [List.pairwise_iff_getElem]
    intro i j hi hj hij
    have h1 := hs i j hij hj
    have h2 : ys[i].key ≠ ys[j].key := fun e => by
      have := (List.nodup_iff_pairwise_ne.1 hnd)
      rw [List.pairwise_iff_getElem] at this
      exact this i j (by simpa using hi) (by simpa using hj) hij (by simpa using e)
    rw [due_nlt] at h1
    refine Classical.byContradiction fun hn => h2 (ltS_tri _ _ hn h1)
  · rw [hp.mem_iff]
    constructor
    · intro hd; exact h.val d hd
    · rintro ⟨h1, h2⟩
      exact h.all_ d.key d.cents h1 h2 (hl _)
end Go.Proofs.YtncnmadiiaidfaaGreatDoor
/- A map to bools that is a set. Of no program. -/
namespace Go.Proofs.YtncnmadiiaidfaaGreatDoor
open Go.RowKit Go.Maps

section
variable {κ : Type} {P : Program} {K E : TypeId} {ek : κ → Value} {dom : κ → Prop}
/-- The map's datum D says of each key whether it is in the set. -/
structure MbD (P : Program) (K : TypeId) (ek : κ → Value) (dom : κ → Prop) (D : DataW Unit) (f : κ → Bool) : Prop where
  isMap : IsMap D
  at_ : ∀ k l, dom k → keyOf P K (ek k) = some l → D.atKey l (.lit (.bool false)) = .lit (.bool (f k))
def MbI (P : Program) (K E : TypeId) (ek : κ → Value) (dom : κ → Prop) (w : World) (b n : Nat) (f : κ → Bool) : Prop :=
  ∃ D : DataW Unit, w.ownsMap P K (plainElem P E) b n D ∧ MbD P K ek dom D f
theorem MbI.lt {w : World} {b n : Nat} {f : κ → Bool} (h : MbI P K E ek dom w b n f) : b < w.heap.size := by
  obtain ⟨D, h1, _⟩ := h; exact h1.lt
theorem MbI.nx {w w' : World} {b n : Nat} {f : κ → Bool} (h : MbI P K E ek dom w b n f) (hn : Nx w w') : MbI P K E ek dom w' b n f := by
  obtain ⟨D, h1, h2⟩ := h
  exact ⟨D, h1.kept (hn.gr none) (by simp), h2⟩
theorem MbI.gr {w w' : World} {b n s : Nat} {f : κ → Bool} (h : MbI P K E ek dom w b n f) (hn : Gr s w w') (hs : b ≠ s) : MbI P K E ek dom w' b n f := by
  obtain ⟨D, h1, h2⟩ := h
  exact ⟨D, h1.kept (row := some s) hn (by simpa using hs), h2⟩
theorem MbI.mono {w : World} {b n n' : Nat} {f : κ → Bool} (h : MbI P K E ek dom w b n f) (hn : n ≤ n') : MbI P K E ek dom w b n' f := by
  obtain ⟨D, h1, h2⟩ := h; exact ⟨D, h1.mono hn, h2⟩
theorem MbI.made (w : World) : MbI P K E ek dom (w.alloc (.map #[] 0)) w.heap.size 0 (fun _ => false) :=
  ⟨.map [], World.ownsMap_made w P K _, isMap_empty, fun _ _ _ _ => rfl⟩
theorem MbI.look {w : World} {b n : Nat} {f : κ → Bool} {t : TypeId} (h : MbI P K E ek dom w b n f) (KL : Keyed P K) (ht : P.underlying t = some (.map K E)) (he : P.underlying E = some .bool) (hz : (zeroValue E).run P w = .ok (.bool false) w)
    {k : κ} (hd : dom k) {l : Lit} (hkey : keyOf P K (ek k) = some l) : (Instr.lookup t (.map (some b)) (ek k) false).run P w = .ok (.bool (f k)) w := by
  obtain ⟨D, h1, h2⟩ := h
  obtain ⟨v, ps, hrun, hv⟩ := h1.lookup KL ht hz (plainElem_bool (H := Unit) he false) hkey
  rw [h2.at_ k l hd hkey] at hv
  rw [hrun]
  unfold plainElem at hv
  rw [he] at hv
  cases v <;> simp at hv
  rw [hv.1]
theorem MbI.upd {w : World} {b n : Nat} {f : κ → Bool} [DecidableEq κ] {t : TypeId} (h : MbI P K E ek dom w b n f) (KL : Keyed P K) (hinj : ∀ a b : κ, ek a = ek b → a = b) (ht : P.underlying t = some (.map K E)) (he : P.underlying E = some .bool) (hn : n < maxLen)
    {k : κ} {l : Lit} (hkey : keyOf P K (ek k) = some l) (v : Bool) :
    ∃ w', (Instr.mapUpdate t (.map (some b)) (ek k) (.bool v)).run P w = .ok () w' ∧ MbI P K E ek dom w' b (n + 1) (fun k' => if k' = k then v else f k') ∧ Gr b w w' := by
  obtain ⟨D, h1, h2⟩ := h
  obtain ⟨w', hr, ho, hg⟩ := h1.update KL ht hn hkey (plainElem_bool (H := Unit) he v)
  refine ⟨w', hr, ⟨_, ho, h2.isMap.put _ _, fun k' l' hd' hk' => ?_⟩, hg⟩
  by_cases e : k' = k
  · subst e
    rw [hkey] at hk'; injection hk' with hk'; subst hk'
    rw [if_pos rfl]
    exact atKey_put_same h2.isMap (KL.key hkey) _ _
  · rw [if_neg e]
    have hne : l' ≠ l := fun e1 => by subst e1; exact e (hinj _ _ (KL.inj hk' hkey))
    rw [atKey_put_other hne]
    exact h2.at_ k' l' hd' hk'
/-- 'm[k] = v' at the operation. -/
theorem wpMbPut [DecidableEq κ] (w : World) {ops : Array Oper} {rest : List Oper} {o : Oper} {a : Act} {Q : Exit → Act → World → Prop}
    (hg : o.guard = none) (m x v : Operand) (t : TypeId) (hop : o.op = Op.mapUpdate t m x v)
    (KL : Keyed P K) (hinj : ∀ a b : κ, ek a = ek b → a = b) (ht : P.underlying t = some (.map K E)) (he : P.underlying E = some .bool) (b n : Nat) (f : κ → Bool)
    (hm : a.eval m = .map (some b)) (hown : MbI P K E ek dom w b n f) (hn : n < maxLen) (k : κ) (hx : a.eval x = ek k) (l : Lit) (hkey : keyOf P K (ek k) = some l)
    (z : Bool) (hz : a.eval v = .bool z)
    (hK : ∀ w', MbI P K E ek dom w' b (n + 1) (fun k' => if k' = k then z else f k') → Gr b w w' → wpList P ops Q rest (a.put o.dst undef) w') :
    wpList P ops Q (o :: rest) a w := by
  refine wpList_plain hg fun K' hK' => ?_
  obtain ⟨w', hrun, r1, r2⟩ := hown.upd KL hinj ht he hn hkey z
  unfold Oper.wp
  simp [execOp, hop, hm, hx, hz, hrun, Result.andThen]
  exact hK' _ _ (hK w' r1 r2)
end
end Go.Proofs.YtncnmadiiaidfaaGreatDoor
/- Lists of names: the program's check and the reference's. -/
namespace Go.Proofs.YtncnmadiiaidfaaGreatDoor
open Go.RowKit

set_option maxHeartbeats 1000000 in
theorem w_IndexFS (g : Nat) (p : ByteArray → Bool) (eg : Enters g) (hcl : ∀ (s : ByteArray) W, s.size ≤ 1000000 → Calls Tryz.prog g #[.string s] W fun e w' => e = .returned (.bool (p s)) ∧ Nx W w')
    (lo : Nat) (A : Option Addr) (c : Nat) (l : List ByteArray) (w : World) (hR : Rd w lo A 1 encS l) (hS : Small l) (hl : l.length ≤ 65536) :
    Calls Tryz.prog 86 #[.slice A l.length c, .func (.func g) #[] #[]] w fun e w' => ∃ r : Int, e = .returned (.int .i64 r) ∧ decide (0 ≤ r) = l.any p ∧ Nx w w' := by
  generalize hn : l.length = n at *
  have HR := hide hR
  have HN := hide hn
  have HC0 := hide hcl
  have HS := hide hS
  clear hR hn hcl hS
  unfold Enters at eg
  go_enter Tryz.func86, Tryz.ntmps86
  go_wp2
  go_loopw [5, 8] (fun _ i wr => ∃ k : Nat, k ≤ n ∧ i = .int .i64 k ∧ Nx w wr ∧ (l.take k).any p = false) (fun _ i _ => n - (intOf i).toNat)
  case atStart => exact ⟨0, Nat.zero_le _, rfl, Nx.refl _, rfl⟩
  case round =>
    obtain ⟨k, hk, rfl, hbw, hq⟩ := hrel
    have HQ := hide hq
    clear hq
    by_cases hlt : k < n
    · have hlt' : k < l.length := by have := HN.out; omega
      obtain ⟨b, off, rfl, _, hb, hbr, hc⟩ := HR.out.open_ hbw (by omega)
      have c0 : wr.cell? ⟨b, off + k, none⟩ = some (.string l[k]) := by have := hc k hlt' 0 _ rfl; simpa using this
      have hsz := HS.out.at k hlt'
      clear hc
      cases hbig : p l[k]
      · have HB := hide hbig
        have hcl := fun W => HC0.out l[k] W hsz
        rw [hbig] at hcl
        have HCL := hide hcl
        clear hbig hcl
        go_wp2_with (go_at_fn g; refine (HCL.out _).mono ?_; rintro e w2 ⟨rfl, hn2⟩)
        go_roundw
        case rel => exact ⟨k + 1, by omega, by go_num, hbw.trans hn2, by rw [List.take_succ_eq_append_getElem hlt', List.any_append, HQ.out]; simp [HB.out]⟩
        case measure => simp [intOf]; omega
      · have HB := hide hbig
        have hcl := fun W => HC0.out l[k] W hsz
        rw [hbig] at hcl
        have HCL := hide hcl
        clear hbig hcl
        go_wp2_with (go_at_fn g; refine (HCL.out _).mono ?_; rintro e w2 ⟨rfl, hn2⟩)
        go_ret
        refine ⟨_, rfl, ?_, hbw.trans hn2⟩
        rw [show l.any p = true from List.any_eq_true.2 ⟨l[k], List.getElem_mem hlt', HB.out⟩]
        simp
    · go_wp2
      go_ret
      refine ⟨_, rfl, ?_, hbw⟩
      have := HQ.out
      rw [List.take_of_length_le (by have := HN.out; omega)] at this
      rw [this]; rfl
theorem w_ContFS (g : Nat) (p : ByteArray → Bool) (eg : Enters g) (hcl : ∀ (s : ByteArray) W, s.size ≤ 1000000 → Calls Tryz.prog g #[.string s] W fun e w' => e = .returned (.bool (p s)) ∧ Nx W w')
    (lo : Nat) (A : Option Addr) (c : Nat) (l : List ByteArray) (w : World) (hR : Rd w lo A 1 encS l) (hS : Small l) (hl : l.length ≤ 65536) :
    Calls Tryz.prog 49 #[.slice A l.length c, .func (.func g) #[] #[]] w fun e w' => e = .returned (.bool (l.any p)) ∧ Nx w w' := by
  have hcon := fun W => w_IndexFS g p eg hcl lo A c l W
  clear hcl eg
  go_enter Tryz.func49, Tryz.ntmps49
  go_wp2_with (go_at_call 86; refine (hcon _ hR hS hl).mono ?_; rintro e w2 ⟨r, rfl, hr, hn2⟩)
  go_ret
  exact ⟨rfl, hn2⟩
def notKey (s : ByteArray) : Bool := !keyB s
theorem w_nodesF1 (s : ByteArray) (w : World) (hs : s.size ≤ 1000000) : Calls Tryz.prog 162 #[.string s] w fun e w' => e = .returned (.bool (notKey s)) ∧ Nx w w' := by
  unfold notKey
  go_enter Tryz.func162, Tryz.ntmps162
  go_wp2_with (go_at_call 90; refine (w_Key _ _ hs).mono ?_; rintro e w' ⟨rfl, rfl⟩)
  go_ret
  exact ⟨rfl, Nx.refl _⟩
theorem w_NamesF1 (s : ByteArray) (w : World) (hs : s.size ≤ 1000000) : Calls Tryz.prog 50 #[.string s] w fun e w' => e = .returned (.bool (notKey s)) ∧ Nx w w' := by
  unfold notKey
  go_enter Tryz.func50, Tryz.ntmps50
  go_wp2_with (go_at_call 25; refine (w_KeyR _ _ hs).mono ?_; rintro e w1 ⟨rfl, hn1⟩)
  go_ret
  exact ⟨rfl, hn1⟩
theorem any_notKey (l : List ByteArray) : l.any notKey = !l.all keyB := by
  induction l with
  | nil => rfl
  | cons x l ih => rw [List.any_cons, List.all_cons, ih]; unfold notKey; cases keyB x <;> simp
theorem w_nodesFault (lo : Nat) (A : Option Addr) (c : Nat) (l : List ByteArray) (w : World) (hR : Rd w lo A 1 encS l) (hS : Small l) (hl : l.length ≤ 65536) :
    Calls Tryz.prog 112 #[.slice A l.length c] w fun e w' => e = .returned (.int .i64 (namesF l 2000)) ∧ Nx w w' := by
  have hcon := w_ContFS 162 notKey (enters_of Tryz.func162 (by kernel_rfl) rfl) (fun s W hs => w_nodesF1 s W hs) lo A c l w hR hS hl
  rw [any_notKey] at hcon
  unfold namesF
  by_cases hb : 2000 < l.length
  · rw [if_pos hb]
    clear hcon
    go_enter Tryz.func112, Tryz.ntmps112
    go_wp2
    go_ret
    exact ⟨rfl, Nx.refl _⟩
  · rw [if_neg hb]
    cases hk : l.all keyB
    all_goals
      rw [hk] at hcon
      go_enter Tryz.func112, Tryz.ntmps112
      go_wp2_with (go_at_call 49; refine hcon.mono ?_; rintro e w2 ⟨rfl, hn2⟩)
      go_ret
      exact ⟨rfl, hn2⟩
theorem w_NamesFault (lo : Nat) (A : Option Addr) (c most : Nat) (l : List ByteArray) (w : World) (hR : Rd w lo A 1 encS l) (hS : Small l) (hl : l.length ≤ 65536) :
    Calls Tryz.prog 32 #[.slice A l.length c, .int .i64 (most : Int)] w fun e w' => e = .returned (.int .i64 (namesF l most)) ∧ Nx w w' := by
  have hcon := w_ContFS 50 notKey (enters_of Tryz.func50 (by kernel_rfl) rfl) (fun s W hs => w_NamesF1 s W hs) lo A c l w hR hS hl
  rw [any_notKey] at hcon
  unfold namesF
  by_cases hb : most < l.length
  · rw [if_pos hb]
    have t1 : decide ((l.length : Int) > (most : Int)) = true := decide_eq_true (by omega)
    clear hcon
    go_enter Tryz.func32, Tryz.ntmps32
    go_wp2
    go_ret
    exact ⟨rfl, Nx.refl _⟩
  · rw [if_neg hb]
    have t1 : decide ((l.length : Int) > (most : Int)) = false := decide_eq_false (by omega)
    cases hk : l.all keyB
    all_goals
      rw [hk] at hcon
      go_enter Tryz.func32, Tryz.ntmps32
      go_wp2_with (go_at_call 49; refine hcon.mono ?_; rintro e w2 ⟨rfl, hn2⟩)
      go_ret
      exact ⟨rfl, hn2⟩
end Go.Proofs.YtncnmadiiaidfaaGreatDoor
