/- fare.Divide, whatever it is handed; what is wrong with parts; 'priced' answers true. -/
import Derived.Test.YtemaiikgnogfhaaGreatDoorQDivB
import Derived.Test.YtemaiikgnogfhaaGreatDoorQG4
import Derived.Test.YtemaiikgnogfhaaGreatDoorQG1
import Derived.Laws.OwnMore
import Derived.Laws.Bits64
import Derived.WalkKit
import Derived.IntWalk
import Derived.Test.YtemaiikgnogfhaaGreatDoorQG0
import Derived.StillTailTactics
import Derived.Test.YtemaiikgnogfhaaGreatDoorQZoneF
import Derived.Shelf.Slices.CompactS
import Derived.Deep.DeepCutAuto
import Derived.Test.YtemaiikgnogfhaaGreatDoorRows
import Derived.Deep.QuietTactic
import Derived.BigQuiet
import Derived.Outline
import Derived.Lib.SliceRun
import Derived.Test.YtemaiikgnogfhaaGreatDoorQShelfZ
import Derived.Shelf.Slices.Cells
import Derived.Lib.LazyBuf
namespace Go.Proofs.YtemaiikgnogfhaaGreatDoor
open Go.RowKit Go.Sort Go.Proofs Go.Shelf

theorem partsF_cents {cents : Int} {parts : List Int} (h : centB cents = true) : partsF cents parts = 1 := by unfold partsF; rw [h]; rfl
theorem partsF_any {cents : Int} {parts : List Int} (h : centB cents = false) (h2 : parts.length < 20) (h3 : parts.any centB = true) : partsF cents parts = 1 := by
  unfold partsF; rw [h, h3]; simp; omega
theorem partsF_sum {cents : Int} {parts : List Int} (h : centB cents = false) (h2 : parts.length < 20) (h3 : parts.any centB = false) : partsF cents parts = if sumL parts = 0 then 8 else 0 := by
  unfold partsF; rw [h, h3]; simp; omega
theorem any_at {l : List Int} {p : Int → Bool} {k : Nat} (hk : k < l.length) (h : p l[k] = true) : l.any p = true := List.any_eq_true.2 ⟨_, List.getElem_mem hk, h⟩
theorem any_step {l : List Int} {p : Int → Bool} {k : Nat} (hk : k < l.length) (h : (l.take k).any p = false) (h2 : p l[k] = false) : (l.take (k + 1)).any p = false := by
  rw [List.take_succ_eq_append_getElem hk, List.any_append, h]; simp [h2]
theorem sum_right {l : List Int} (h : l.any centB = false) : 0 ≤ sumL l ∧ sumL l ≤ l.length * 1000000000 := by
  have := sumL_bd l 0 1000000000 (fun x hx => centB_bd (by
    cases h1 : centB x
    · rfl
    · exact absurd (List.any_eq_true.2 ⟨x, hx, h1⟩) (by rw [h]; simp)))
  omega
/-- Cents given out, or a fault. -/
def DivU (F cents : Int) (parts : List Int) (w : World) (e : Ending) (w' : World) : Prop :=
  ∃ (A : Option Addr) (c : Nat) (zs : List Int), e = .returned (.tuple #[.slice A zs.length c, .int .i64 F]) ∧ (F = 0 → Divided cents parts zs) ∧ (F ≠ 0 → zs = []) ∧ Rd w' w.heap.size A 1 encI zs ∧ Nx w w'
theorem DivU.no {F cents : Int} {parts : List Int} {w w' : World} (h : F ≠ 0) (hn : Nx w w') : DivU F cents parts w (.returned (.tuple #[.slice none 0 0, .int .i64 F])) w' := ⟨none, 0, [], rfl, fun h0 => absurd h0 h, fun _ => rfl, Rd.nil, hn⟩

set_option maxRecDepth 100000 in
set_option maxHeartbeats 1000000 in
theorem w_Divide (lo : Nat) (A : Option Addr) (c : Nat) (cents : Int) (parts : List Int) (w : World) (hR : Rd w lo A 1 encI parts) (hl : parts.length < 20) :
    Calls Tryz.prog 58 #[.int .i64 cents, .slice A parts.length c] w (DivU (partsF cents parts) cents parts w) := by
  cases hd : centB cents
  · have HD := hide hd
    have hcb := centB_bd hd
    have HPO := hide (fun h3 => partsF_sum (parts := parts) hd hl h3)
    have HPA := hide (fun h3 => partsF_any (parts := parts) hd hl h3)
    have HDB := hide (fun h3 h4 => w_DivideB lo A c cents parts w hR hl hcb h3 h4)
    generalize hn : parts.length = n at *
    have HR := hide hR
    have HN := hide hn
    unfold centB at hd
    clear hR hn
    go_enter Tryz.func58, Tryz.ntmps58
    go_wp2_with (go_at_call 40; first | (rw [show (1000000000 : Int) = maxCt from rfl]; refine (w_Out _ _ _ _).mono ?_; rintro e w' ⟨rfl, rfl⟩))
    go_loop [4, 5, 6, 8, 16] (fun _ _ s _ i => ∃ k : Nat, k ≤ n ∧ i = .int .i64 k ∧ s = .int .i64 (sumL (parts.take k)) ∧ (parts.take k).any centB = false) (fun _ _ _ _ i => n - (intOf i).toNat)
    case atStart => exact ⟨0, Nat.zero_le _, rfl, rfl, rfl⟩
    case round =>
      obtain ⟨k, hk, rfl, rfl, hq⟩ := hrel
      have hsb := sum_right hq
      have hkl : (parts.take k).length ≤ k := List.length_take_le _ _
      have HQ := hide hq
      clear hq
      by_cases hlt : k < n
      · have hlt' : k < parts.length := by have := HN.out; omega
        have HT := hide (sumL_take parts k hlt')
        obtain ⟨b, off, rfl, _, hb, _, hc⟩ := HR.out.open_ (Nx.refl w) (by omega)
        have c0 : w.cell? ⟨b, off + k, none⟩ = some (.int .i64 parts[k]) := by have := hc k hlt' 0 _ rfl; simpa using this
        clear hc
        cases hx : centB parts[k]
        · have HX := hide (any_step hlt' HQ.out hx)
          have hxb := centB_bd hx
          unfold centB at hx
          generalize sumL (parts.take k) = s at *
          go_wp2_with (go_at_call 40; first | (rw [show (1000000000 : Int) = maxCt from rfl]; refine (w_Out _ _ _ _).mono ?_; rintro e w' ⟨rfl, rfl⟩))
          go_round
          case rel => exact ⟨k + 1, by omega, by go_num, by rw [HT.out], HX.out⟩
          case measure => simp [intOf]; omega
        · have HF := hide (HPA.out (any_at hlt' hx))
          unfold centB at hx
          go_wp2_with (go_at_call 40; first | (rw [show (1000000000 : Int) = maxCt from rfl]; refine (w_Out _ _ _ _).mono ?_; rintro e w' ⟨rfl, rfl⟩))
          go_ret2
          rw [HF.out]
          exact DivU.no (by omega) (Nx.refl _)
      · have HK := hide (show parts.take k = parts from List.take_of_length_le (by have := HN.out; omega))
        rw [HK.out] at hsb HQ ⊢
        have HF := hide (HPO.out HQ.out)
        by_cases hz : sumL parts = 0
        · have t1 : (sumL parts == 0) = true := by simpa using hz
          have HZ := hide hz
          clear hz
          go_wp2_with fail
          go_ret2
          rw [HF.out, if_pos HZ.out]
          exact DivU.no (by omega) (Nx.refl _)
        · have t1 : (sumL parts == 0) = false := by simpa using hz
          have HZ := hide hz
          clear hz
          go_wp2_with (go_at_call 90; refine (HDB.out (fun p hp => centB_bd (by cases h1 : centB p; rfl; exact absurd (List.any_eq_true.2 ⟨p, hp, h1⟩) (by rw [HQ.out]; simp))) (by have := HZ.out; omega)).mono ?_; rintro e w2 ⟨A', c', zs, rfl, hdv, hR2, hn2⟩)
          go_ret2
          rw [HF.out, if_neg HZ.out]
          exact ⟨A', c', zs, rfl, fun _ => hdv, fun h => absurd rfl h, hR2, hn2⟩
  · have HF := hide (partsF_cents (parts := parts) hd)
    clear hR
    generalize parts.length = n at *
    unfold centB at hd
    go_enter Tryz.func58, Tryz.ntmps58
    go_wp2_with (go_at_call 40; first | (rw [show (1000000000 : Int) = maxCt from rfl]; refine (w_Out _ _ _ _).mono ?_; rintro e w' ⟨rfl, rfl⟩))
    go_ret2
    rw [HF.out]
    exact DivU.no (by omega) (Nx.refl _)

set_option maxRecDepth 100000 in
set_option maxHeartbeats 1000000 in
theorem w_EqualI (lo lo' : Nat) (A B : Option Addr) (c d : Nat) (l : List Int) (w : World) (hA : Rd w lo A 1 encI l) (hB : Rd w lo' B 1 encI l) (hl : l.length ≤ 65536) :
    Calls Tryz.prog 59 #[.slice A l.length c, .slice B l.length d] w fun e w' => e = .returned (.bool true) ∧ Nx w w' := by
  generalize hn : l.length = n at *
  have HA := hide hA
  have HB := hide hB
  have HN := hide hn
  clear hA hB hn
  go_enter Tryz.func59, Tryz.ntmps59
  go_wp2
  go_loopw [5, 13] (fun _ i wr => ∃ k : Nat, k ≤ n ∧ i = .int .i64 k ∧ Nx w wr) (fun _ i _ => n - (intOf i).toNat)
  case atStart => exact ⟨0, Nat.zero_le _, rfl, Nx.refl _⟩
  case round =>
    obtain ⟨k, hk, rfl, hbw⟩ := hrel
    by_cases hlt : k < n
    · have hlt' : k < l.length := by have := HN.out; omega
      obtain ⟨b, off, rfl, _, hb, hbr, hc⟩ := HA.out.open_ hbw (by omega)
      obtain ⟨b', off', rfl, _, hb', hbr', hc'⟩ := HB.out.open_ hbw (by omega)
      have c0 : wr.cell? ⟨b, off + k, none⟩ = some (.int .i64 l[k]) := by have := hc k hlt' 0 _ rfl; simpa using this
      have d0 : wr.cell? ⟨b', off' + k, none⟩ = some (.int .i64 l[k]) := by have := hc' k hlt' 0 _ rfl; simpa using this
      clear hc hc'
      have q1 : (0 : Int) ≤ (k : Int) := by omega
      have q2 : (k : Int) < (n : Int) := by omega
      go_wp2_with fail
      go_quiet (fail)
      go_wp2
      go_roundw
      case rel => exact ⟨k + 1, by omega, by go_num, hbw.drewN _⟩
      case measure => simp [intOf]; omega
    · go_wp2
      go_ret
      exact ⟨rfl, hbw⟩

set_option maxRecDepth 100000 in
theorem w_priced (w : World) : Calls Tryz.prog 23 #[] w fun e w' => e = .returned (.bool true) ∧ Nx w w' := by
  have hF : partsF 10 [1, 1, 1] = 0 := by decide
  go_enter Tryz.func23, Tryz.ntmps23
  go_wp2_with fail
  have hR1 : Rd (w.alloc (.cells #[.int .i64 1, .int .i64 1, .int .i64 1] 3)) 0 (some ⟨w.heap.size, 0, none⟩) 1 encI [1, 1, 1] := Rd.lit (hnew rfl) (Nat.zero_le _) (fun _ => rfl) rfl
  refine (w_Divide _ _ _ 10 [1, 1, 1] _ hR1 (by decide)).mono ?_
  rintro e w2 ⟨A, c, zs, rfl, hdv, _, hR2, hn2⟩
  have hz := divided_433 (hdv hF)
  subst hz
  rw [hF]
  clear hdv hR1
  go_wp2_with fail
  have hR3 : Rd (w2.alloc (.cells #[.int .i64 4, .int .i64 3, .int .i64 3] 3)) 0 (some ⟨w2.heap.size, 0, none⟩) 1 encI [4, 3, 3] := Rd.lit (hnew rfl) (Nat.zero_le _) (fun _ => rfl) rfl
  refine (w_EqualI _ _ _ _ _ _ [4, 3, 3] _ (hR2.nx ((Nx.refl _).alloc _)) hR3 (by simp)).mono ?_
  rintro e w3 ⟨rfl, hn3⟩
  go_wp2_with fail
  go_ret
  exact ⟨rfl, ((((Nx.refl _).alloc _).trans hn2).alloc _).trans hn3⟩
end Go.Proofs.YtemaiikgnogfhaaGreatDoor
/- More words for memory, of no program: rows out of literals, prefixes of rows, rows that stay while others turn. -/
namespace Go.Proofs.YtemaiikgnogfhaaGreatDoor
open Go.RowKit

section
variable {α : Type} {w w' : World} {lo K : Nat} {A : Option Addr} {enc : α → List Value} {xs : List α}
/-- The first ones of a slice. -/
theorem Rd.take (h : Rd w lo A K enc xs) (n : Nat) : Rd w lo A K enc (xs.take n) := fun hp => by
  have hp' : 0 < xs.length := by rw [List.length_take] at hp; omega
  obtain ⟨b, off, e, h1, hb, hc⟩ := h hp'
  refine ⟨b, off, e, h1, hb, fun i x hx j u hu => hc i x ?_ j u hu⟩
  have hi : i < (xs.take n).length := (List.getElem?_eq_some_iff.1 hx).1
  rw [List.length_take] at hi
  rw [← hx, List.getElem?_take_of_lt (by omega)]
/-- A row of the call's own out of a literal: its first n elements. -/
theorem own_lit {e : TypeId} {g n m : Nat} {cs : Array Value} {base : Nat} (hk : ∀ x, (enc x).length = K) (hg : w.heap[g]? = some (.cells cs e (0, 0))) (hb : base ≤ g) (hcs : cs.toList = xs.flatMap enc) (hm : xs.length = m) (hn : n ≤ m) (hmax : m ≤ maxLen) :
    w.ownsRow base e K (.slice (some ⟨g, 0, none⟩) n m) n ((xs.take n).flatMap enc) := by
  have hl : (xs.take n).length = n := by rw [List.length_take]; omega
  refine ⟨by rw [flat_len hk, hl], .inr ⟨g, m, cs, rfl, hb, hg, hn, hmax, ?_, ?_⟩⟩
  · rw [← Array.length_toList, hcs, flat_len hk, hm]
  · rw [hcs]
    have e1 : xs.flatMap enc = (xs.take n).flatMap enc ++ (xs.drop n).flatMap enc := by rw [← List.flatMap_append, List.take_append_drop]
    rw [e1, List.take_append_of_le_length (by rw [flat_len hk, hl]; exact Nat.le_refl _), List.take_of_length_le (by rw [flat_len hk, hl]; exact Nat.le_refl _)]
end
end Go.Proofs.YtemaiikgnogfhaaGreatDoor
/- What is handed out: the reference's. -/
namespace Go.Proofs.YtemaiikgnogfhaaGreatDoor
open Go.RowKit Go.Sort Go.Proofs Go.Shelf

theorem run_make_ints (n : Nat) (hn : n ≤ 100000) (w : World) : (Instr.makeSlice 22 (.int .i64 (n : Int)) (.int .i64 (n : Int))).run Tryz.prog w = .ok (.slice (some ⟨w.heap.size, 0, none⟩) n n) (w.alloc (.cells (madeCells #[.int .i64 0] n) 3)) := by
  obtain ⟨i, h1, h2, h3, h4⟩ := info_parts (show (Tryz.prog.info? 3).map (fun i => (i.zero, i.size, i.bytes)) = some (some (.int .i64 0), 1, 8) by kernel_rfl)
  have h := run_make (P := Tryz.prog) w 22 3 i (.int .i64 0) Tryz.underlying22 h1 h2 .i64 .i64 (n : Int) (n : Int) (by omega) (by omega) (by rw [h4]; omega) (by omega)
  rw [h]
  simp [h3, Value.cells]
theorem made_ints (n : Nat) : (madeCells #[.int .i64 0] n).toList = (List.replicate n (0 : Int)).flatMap encI := by
  rw [toList_madeCells_one]
  induction n with
  | zero => rfl
  | succ n ih => rw [List.replicate_succ, List.replicate_succ, List.flatMap_cons, ih]; rfl
theorem own_made (w : World) (n base : Nat) (hn : n ≤ 100000) (hb : base ≤ w.heap.size) {Z : Array Value} (hZ : Z.toList = (List.replicate n (0 : Int)).flatMap encI) : (w.alloc (.cells Z 3)).ownsRow base 3 1 (.slice (some ⟨w.heap.size, 0, none⟩) n n) n ((List.replicate n (0 : Int)).flatMap encI) := by
  have := own_lit (w := w.alloc (.cells Z 3)) (e := 3) (g := w.heap.size) (n := n) (m := n) (base := base) (xs := List.replicate n (0 : Int)) encI_len (hnew rfl) hb hZ (by simp) (Nat.le_refl _) (by unfold maxLen; omega)
  rwa [List.take_of_length_le (by simp)] at this
/-- A list filled up to k, the rest 0. -/
def fillN (L : List Int) (k : Nat) : List Int := L.take k ++ List.replicate (L.length - k) 0
theorem fillN_len (L : List Int) (k : Nat) (hk : k ≤ L.length) : (fillN L k).length = L.length := by unfold fillN; simp; omega
theorem fillN_zero (L : List Int) : fillN L 0 = List.replicate L.length 0 := by simp [fillN]
theorem fillN_all (L : List Int) : fillN L L.length = L := by simp [fillN]
theorem fillN_set (L : List Int) (k : Nat) (hk : k < L.length) : (fillN L k).set k L[k] = fillN L (k + 1) := by
  unfold fillN
  obtain ⟨m, hm⟩ : ∃ m, L.length - k = m + 1 := ⟨L.length - k - 1, by omega⟩
  have hm2 : L.length - (k + 1) = m := by omega
  have hl : (L.take k).length = k := by rw [List.length_take]; omega
  rw [hm, hm2, List.replicate_succ, List.set_append_right _ _ (by omega), hl, Nat.sub_self, List.set_cons_zero, List.take_succ_eq_append_getElem hk, List.append_assoc]; rfl
/-- The first of the greatest of the first k. -/
structure FM (cs : List Int) (k b : Nat) : Prop where
  at_ : b < cs.length
  in_ : b < k ∨ (k = 0 ∧ b = 0)
  up : ∀ j, j < k → cs.getD j 0 < cs.getD b 0 ∨ (cs.getD j 0 = cs.getD b 0 ∧ b ≤ j)
theorem FM.more {cs : List Int} {k b : Nat} (h : FM cs k b) (hk : k < cs.length) (hlt : cs.getD b 0 < cs.getD k 0) : FM cs (k + 1) k :=
  ⟨hk, .inl (by omega), fun j hj => by
    rcases Nat.lt_or_ge j k with h1 | h1
    · have := h.up j h1; omega
    · have e : j = k := by omega
      subst e; exact .inr ⟨rfl, Nat.le_refl _⟩⟩
theorem FM.same {cs : List Int} {k b : Nat} (h : FM cs k b) (hlt : ¬ cs.getD b 0 < cs.getD k 0) : FM cs (k + 1) b :=
  ⟨h.at_, .inl (by have := h.in_; omega), fun j hj => by
    rcases Nat.lt_or_ge j k with h1 | h1
    · exact h.up j h1
    · have e : j = k := by omega
      subst e
      have := h.in_
      omega⟩
end Go.Proofs.YtemaiikgnogfhaaGreatDoor
/- Groups that would pay less alone. -/
namespace Go.Proofs.YtemaiikgnogfhaaGreatDoor
open Go.RowKit Go.Sort Go.Proofs Go.Shelf

theorem el_S : ElemOf Tryz.prog 44 9 1 16 := ElemOf.mk' (z := .string ByteArray.empty) Tryz.underlying44 (by kernel_rfl) rfl
theorem encS_len (x : ByteArray) : (encS x).length = 1 := rfl
theorem encS_one (x : ByteArray) : ∀ v ∈ encS x, v.oneCell' = true := by
  intro v hv; simp [encS] at hv; subst hv; rfl
/-- Keys, or a fault. -/
def KeysU (F : Int) (who : List ByteArray) (w : World) (e : Ending) (w' : World) : Prop :=
  ∃ (A : Option Addr) (c : Nat) (zs : List ByteArray), e = .returned (.tuple #[.slice A zs.length c, .int .i64 F]) ∧ zs = (if F = 0 then who else []) ∧ Rd w' w.heap.size A 1 encS zs ∧ Nx w w'
theorem KeysU.no {F : Int} {who : List ByteArray} {w w' : World} (h : F ≠ 0) (hn : Nx w w') : KeysU F who w (.returned (.tuple #[.slice none 0 0, .int .i64 F])) w' := ⟨none, 0, [], rfl, by rw [if_neg h], Rd.nil, hn⟩

end Go.Proofs.YtemaiikgnogfhaaGreatDoor
/- A whole shared fairly: the reference's. -/
namespace Go.Proofs.YtemaiikgnogfhaaGreatDoor
open Go.RowKit Go.Sort Go.Proofs Go.Shelf

theorem el_Due : ElemOf Tryz.prog 52 61 2 24 := ElemOf.mk' (z := .agg #[.string ByteArray.empty, .int .i64 0]) Tryz.underlying52 (by kernel_rfl) rfl
theorem encDue_len (x : Due) : (encDue x).length = 2 := rfl
theorem encDue_one (x : Due) : ∀ v ∈ encDue x, v.oneCell' = true := by
  intro v hv; simp [encDue] at hv; rcases hv with rfl | rfl <;> rfl
end Go.Proofs.YtemaiikgnogfhaaGreatDoor
/- The zone of a node; the zones to which nodes come: the program's and the reference's. -/
namespace Go.Proofs.YtemaiikgnogfhaaGreatDoor
open Go.RowKit Go.Proofs Go.Shelf

set_option maxRecDepth 100000 in
set_option maxHeartbeats 2000000 in
theorem w_zoneOf (lo : Nat) (A : Option Addr) (c : Nat) (zs : List Zone) (s : ByteArray) (w : World) (hR : RdZones w lo A zs) (hl : zs.length ≤ 100) (hs : ∀ z ∈ zs, z.nodes.Pairwise ltS) :
    Calls Tryz.prog 68 #[.slice A zs.length c, .string s] w fun e w' => e = .returned (.string (zoneO zs s)) ∧ Nx w w' := by
  have HX := hide hR.2
  have HR := hide hR.1
  have HS := hide hs
  generalize hn : zs.length = n at *
  have HN := hide hn
  clear hR hn hs
  go_enter Tryz.func68, Tryz.ntmps68
  go_wp2_with fail
  go_loopw [11] (fun i wr => ∃ k : Nat, k ≤ n ∧ i = .int .i64 k ∧ Nx w wr ∧ zoneO zs s = zoneO (zs.drop k) s) (fun i _ => n - (intOf i).toNat)
  case atStart => exact ⟨0, Nat.zero_le _, rfl, Nx.refl _, rfl⟩
  case round =>
    obtain ⟨k, hk, rfl, hbw, hq⟩ := hrel
    have HQ := hide hq
    clear hq
    by_cases hlt : k < n
    · have hlt' : k < zs.length := by have := HN.out; omega
      have HD := hide (zoneO_drop zs s k hlt')
      obtain ⟨hRx, hSx, hLx, hKx⟩ := HX.out zs[k] (List.getElem_mem hlt')
      have HPS := hide (HS.out zs[k] (List.getElem_mem hlt'))
      obtain ⟨b, off, rfl, _, hb, hbr, hc⟩ := HR.out.open_ hbw (by omega)
      have c0 : wr.cell? ⟨b, off + k * 2, none⟩ = some (.string zs[k].key) := hc k hlt' 0 _ rfl
      have c1 : wr.cell? ⟨b, off + k * 2 + 1, none⟩ = some (.slice zs[k].a zs[k].nodes.length zs[k].cap) := hc k hlt' 1 _ rfl
      clear hc
      generalize zs[k] = x at *
      have HC := hide (w_BinS _ _ x.cap _ s (wr.alloc (.cells #[.string x.key, .slice x.a x.nodes.length x.cap] 67)) (hRx.nx (hbw.alloc _)) (by omega) HPS.out)
      have g0 : (wr.alloc (.cells #[.string x.key, .slice x.a x.nodes.length x.cap] 67)).cell? ⟨wr.heap.size, 0, none⟩ = some (.string x.key) := by go_simp
      have HG := hide g0
      clear hRx hSx g0
      cases hm : memB x.nodes s
      · have HM := hide hm
        rw [hm] at HC
        clear hm
        go_wp2_with (go_at_call 101; refine HC.out.mono ?_; rintro e w1 ⟨q, rfl, hn1⟩)
        go_roundw
        case rel => exact ⟨k + 1, by omega, by go_num, (hbw.alloc _).trans hn1, by rw [HQ.out, HD.out, HM.out]; rfl⟩
        case measure => simp [intOf]; omega
      · have HM := hide hm
        rw [hm] at HC
        clear hm
        go_wp2_with (go_at_call 101; refine HC.out.mono ?_; rintro e w1 ⟨q, rfl, hn1⟩; (have g1 : w1.cell? ⟨wr.heap.size, 0, none⟩ = some (.string x.key) := World.grownBy.cell (hn1.gr none) HG.out (by simp)))
        go_ret
        exact ⟨congrArg Ending.returned (congrArg Value.string (by rw [HQ.out, HD.out, HM.out]; rfl)), (hbw.alloc _).trans hn1⟩
    · have ek : k = n := by omega
      subst ek
      have HE := hide (show zoneO (zs.drop k) s = ByteArray.empty by rw [List.drop_eq_nil_iff.2 (by have := HN.out; omega)]; rfl)
      go_wp2_with fail
      go_ret
      exact ⟨congrArg Ending.returned (congrArg Value.string (by rw [HQ.out, HE.out]; rfl)), hbw⟩

set_option maxRecDepth 100000 in
set_option maxHeartbeats 2000000 in
theorem w_ZoneFor (lo : Nat) (A : Option Addr) (c : Nat) (zs : List Zone) (s : ByteArray) (w : World) (hR : RdZones w lo A zs) (hl : zs.length ≤ 100) :
    Calls Tryz.prog 71 #[.slice A zs.length c, .string s] w fun e w' => e = .returned (.string (zoneO zs s)) ∧ Nx w w' := by
  have HX := hide hR.2
  have HR := hide hR.1
  generalize hn : zs.length = n at *
  have HN := hide hn
  clear hR hn
  go_enter Tryz.func71, Tryz.ntmps71
  go_wp2_with fail
  go_loopw [9] (fun i wr => ∃ k : Nat, k ≤ n ∧ i = .int .i64 k ∧ Nx w wr ∧ zoneO zs s = zoneO (zs.drop k) s) (fun i _ => n - (intOf i).toNat)
  case atStart => exact ⟨0, Nat.zero_le _, rfl, Nx.refl _, rfl⟩
  case round =>
    obtain ⟨k, hk, rfl, hbw, hq⟩ := hrel
    have HQ := hide hq
    clear hq
    by_cases hlt : k < n
    · have hlt' : k < zs.length := by have := HN.out; omega
      have HD := hide (zoneO_drop zs s k hlt')
      obtain ⟨hRx, hSx, hLx, hKx⟩ := HX.out zs[k] (List.getElem_mem hlt')
      obtain ⟨b, off, rfl, _, hb, hbr, hc⟩ := HR.out.open_ hbw (by omega)
      have c0 : wr.cell? ⟨b, off + k * 2, none⟩ = some (.string zs[k].key) := hc k hlt' 0 _ rfl
      have c1 : wr.cell? ⟨b, off + k * 2 + 1, none⟩ = some (.slice zs[k].a zs[k].nodes.length zs[k].cap) := hc k hlt' 1 _ rfl
      clear hc
      generalize zs[k] = x at *
      have HC := hide (w_ContS _ _ x.cap _ s (wr.alloc (.cells #[.string x.key, .slice x.a x.nodes.length x.cap] 67)) (hRx.nx (hbw.alloc _)) (by omega))
      have g0 : (wr.alloc (.cells #[.string x.key, .slice x.a x.nodes.length x.cap] 67)).cell? ⟨wr.heap.size, 0, none⟩ = some (.string x.key) := by go_simp
      have HG := hide g0
      clear hRx hSx g0
      cases hm : memB x.nodes s
      · have HM := hide hm
        rw [hm] at HC
        clear hm
        go_wp2_with (go_at_call 49; refine HC.out.mono ?_; rintro e w1 ⟨rfl, hn1⟩)
        go_roundw
        case rel => exact ⟨k + 1, by omega, by go_num, (hbw.alloc _).trans hn1, by rw [HQ.out, HD.out, HM.out]; rfl⟩
        case measure => simp [intOf]; omega
      · have HM := hide hm
        rw [hm] at HC
        clear hm
        go_wp2_with (go_at_call 49; refine HC.out.mono ?_; rintro e w1 ⟨rfl, hn1⟩; (have g1 : w1.cell? ⟨wr.heap.size, 0, none⟩ = some (.string x.key) := World.grownBy.cell (hn1.gr none) HG.out (by simp)))
        go_ret
        exact ⟨congrArg Ending.returned (congrArg Value.string (by rw [HQ.out, HD.out, HM.out]; rfl)), (hbw.alloc _).trans hn1⟩
    · have ek : k = n := by omega
      subst ek
      have HE := hide (show zoneO (zs.drop k) s = ByteArray.empty by rw [List.drop_eq_nil_iff.2 (by have := HN.out; omega)]; rfl)
      go_wp2_with fail
      go_ret
      exact ⟨congrArg Ending.returned (congrArg Value.string (by rw [HQ.out, HE.out]; rfl)), hbw⟩
end Go.Proofs.YtemaiikgnogfhaaGreatDoor
/- The stream's object and its smallest methods. -/
namespace Go.Proofs.YtemaiikgnogfhaaGreatDoor
open Go.RowKit

/-- Block s is a stream whose counter is at most k; its numbers lie below s. -/
def Str (w : World) (s k : Nat) : Prop :=
  ∃ (A : Option Addr) (n c i : Nat), i ≤ k ∧ n ≤ 9223372036854775807 ∧ w.heap[s]? = some (.cells #[.slice A n c, .int .i64 (i : Int)] 25 (0, 0)) ∧
    (0 < n → ∃ b off, A = some ⟨b, off, none⟩ ∧ b < s ∧ ∀ j, j < n → ∃ z : Int, w.cell? ⟨b, off + j, none⟩ = some (.int .i64 z) ∧ -9223372036854775808 ≤ z ∧ z ≤ 9223372036854775807)

theorem Str.lt {w : World} {s k : Nat} (h : Str w s k) : s < w.heap.size := by
  obtain ⟨A, n, c, i, _, _, hh, _⟩ := h
  rcases Nat.lt_or_ge s w.heap.size with hlt | hge
  · exact hlt
  · rw [Array.getElem?_eq_none hge] at hh; cases hh
theorem Str.more {w : World} {s k k' : Nat} (h : Str w s k) (hk : k ≤ k') : Str w s k' := by
  obtain ⟨A, n, c, i, hi, r⟩ := h
  exact ⟨A, n, c, i, Nat.le_trans hi hk, r⟩
theorem Str.nx {w w' : World} {s k : Nat} (h : Str w s k) (hn : Nx w w') : Str w' s k := by
  have hlt := h.lt
  obtain ⟨A, n, c, i, hi, hn2, hh, hc⟩ := h
  refine ⟨A, n, c, i, hi, hn2, (hn.block s hlt).trans hh, fun hp => ?_⟩
  obtain ⟨b, off, e, hb, hz⟩ := hc hp
  refine ⟨b, off, e, hb, fun j hj => ?_⟩
  obtain ⟨z, hz1, hz2⟩ := hz j hj
  exact ⟨z, (Below.cell hn (p := ⟨b, _, none⟩) (by show b < _; omega)).trans hz1, hz2⟩

theorem Str.step {w : World} {s k' m c i : Nat} {A : Option Addr} (hh : w.heap[s]? = some (.cells #[.slice A m c, .int .i64 (i : Int)] 25 (0, 0))) (hi : i < k') (hm : m ≤ 9223372036854775807)
    (hc : 0 < m → ∃ b off, A = some ⟨b, off, none⟩ ∧ b < s ∧ ∀ j, j < m → ∃ z : Int, w.cell? ⟨b, off + j, none⟩ = some (.int .i64 z) ∧ -9223372036854775808 ≤ z ∧ z ≤ 9223372036854775807) :
    Str (w.setCell ⟨s, 1, none⟩ (.int .i64 ((i : Int) + 1))) s k' := by
  refine ⟨A, m, c, i + 1, by omega, hm, heap_set hh, fun hp => ?_⟩
  obtain ⟨b, off, e, hb, hz⟩ := hc hp
  refine ⟨b, off, e, hb, fun j hj => ?_⟩
  obtain ⟨z, h1, h2⟩ := hz j hj
  exact ⟨z, by rw [cell_set (by omega)]; exact h1, h2⟩
theorem Str.drewN {w : World} {s k : Nat} (h : Str w s k) (n : Nat) : Str (w.drewN n) s k := h.nx ((Nx.refl w).drewN n)

/-- A row above the stream has been written. -/
theorem Str.row {w w' : World} {s k : Nat} {row : Option Nat} (h : Str w s k) (hg : w.grownBy w' row) (hr : ∀ j, row = some j → s < j) : Str w' s k := by
  have hlt := h.lt
  obtain ⟨A, n, c, i, hi, hn2, hh, hc⟩ := h
  refine ⟨A, n, c, i, hi, hn2, (hg.block s hlt (fun e => by have := hr s e.symm; omega)).trans hh, fun hp => ?_⟩
  obtain ⟨b, off, e, hb, hz⟩ := hc hp
  refine ⟨b, off, e, hb, fun j hj => ?_⟩
  obtain ⟨z, hz1, hz2⟩ := hz j hj
  exact ⟨z, hg.cell hz1 (fun e => by have := hr b e.symm; omega), hz2⟩

/-- A number from 0 to n - 1 (0 where n is less than 1). -/
def Lt0 (n : Int) (w : World) (e : Ending) (w' : World) : Prop := ∃ r : Int, 0 ≤ r ∧ (r < n ∨ r = 0) ∧ e = .returned (.int .i64 r) ∧ w = w'

set_option maxHeartbeats 400000 in
theorem w_Below (x n : Int) (w : World) (hn : n ≤ 4294967296) :
    Calls Tryz.prog 61 #[.int .i64 x, .int .i64 n] w (Lt0 n w) := by
  by_cases h1 : n < 1
  · go_enter Tryz.func61, Tryz.ntmps61
    go_wp2
    go_ret
    exact ⟨0, by omega, .inr rfl, rfl, rfl⟩
  · have b1 : x.tmod n < n := Int.tmod_lt_of_pos x (by omega)
    have b2 : -n < x.tmod n := by have := Int.lt_tmod_of_pos x (b := n) (by omega); omega
    by_cases h2 : x.tmod n < 0
    · go_enter Tryz.func61, Tryz.ntmps61
      go_wp2
      go_ret
      exact ⟨_, by omega, .inl (by omega), rfl, rfl⟩
    · go_enter Tryz.func61, Tryz.ntmps61
      go_wp2
      go_ret
      exact ⟨_, by omega, .inl (by omega), rfl, rfl⟩

/-- The stream's methods: a number from low to high; the stream goes on by m. -/
def StrInt (low high : Int) (s k : Nat) (w : World) (e : Ending) (w' : World) : Prop :=
  ∃ r : Int, low ≤ r ∧ r ≤ high ∧ e = .returned (.int .i64 r) ∧ Gr s w w' ∧ Str w' s k

set_option maxHeartbeats 1000000 in
theorem w_Next (n : Int) (s k : Nat) (w : World) (hS : Str w s k) (hk : k < 1000000) (hn : 1 ≤ n ∧ n ≤ 4294967296) :
    Calls Tryz.prog 25 #[.pointer (some ⟨s, 0, none⟩), .int .i64 n] w (StrInt 0 (n - 1) s (k + 1) w) := by
  obtain ⟨A, m, c, i, hi, hm, hh, hc⟩ := hS
  have c0 : w.cell? ⟨s, 0, none⟩ = some (.slice A m c) := cell_of_row w s 0 _ _ _ hh
  have c1 : w.cell? ⟨s, 1, none⟩ = some (.int .i64 (i : Int)) := cell_of_row w s 1 _ _ _ hh
  have f1 : w.frozen? ⟨s, 1, none⟩ = false := by simp [World.frozen?, hh]
  have HH := hide hh
  have HC := hide hc
  clear hc hh
  by_cases hm0 : m = 0
  · subst hm0
    go_enter Tryz.func25, Tryz.ntmps25
    go_wp2_with (go_at_call 61; refine (w_Below _ _ _ (by omega)).mono ?_; rintro e w' ⟨r, hr1, hr2, rfl, rfl⟩)
    go_ret
    exact ⟨r, hr1, by omega, rfl, (Gr.refl _ _).setS (.inl rfl) _, Str.step HH.out (by omega) (by omega) HC.out⟩
  · have hmp : 0 < m := by omega
    obtain ⟨b, off, rfl, hb, hz⟩ := HC.out hmp
    obtain ⟨z, hz1, hz2, hz3⟩ := hz (i % m) (Nat.mod_lt _ hmp)
    clear hz
    go_enter Tryz.func25, Tryz.ntmps25
    have hst : (w.setCell ⟨s, 1, none⟩ (.int .i64 ((i : Int) + 1))).cell? ⟨b, off + i % m, none⟩ = some (.int .i64 z) := by
      rw [World.cell?_setCell_other _ _ _ _ (by intro h; injection h with h1 h2; omega)]; exact hz1
    have t1 : ((i : Int)).tmod (m : Int) = (i : Int) % (m : Int) := Int.tmod_eq_emod_of_nonneg (by omega)
    have t2 : ((i : Int)).tdiv (m : Int) = (i : Int) / (m : Int) := Int.tdiv_eq_ediv_of_nonneg (by omega)
    have t3 : IntKind.i64.wrap ((i : Int)) = (i : Int) := IntWalk.i64_in _ (by omega)
    have t4 : i % m < m := Nat.mod_lt _ hmp
    go_wp2_with fail
    go_quiet (fail)
    go_wp2_with fail
    go_quiet (fail)
    go_wp2_with fail
    refine (w_Below _ _ _ (by omega)).mono ?_
    rintro e w' ⟨r, hr1, hr2, rfl, rfl⟩
    go_wp2_with fail
    refine (w_Below _ _ _ (by omega)).mono ?_
    rintro e w' ⟨r', hr1', hr2', rfl, rfl⟩
    go_wp2_with fail
    go_ret
    exact ⟨r', hr1', by omega, rfl, ((Gr.refl _ _).setS (.inl rfl) _).drewN _, (Str.step HH.out (by omega) (by omega) HC.out).drewN _⟩

set_option maxHeartbeats 400000 in
theorem w_Range (l h : Int) (s k : Nat) (w : World) (hS : Str w s k) (hk : k < 1000000) (hl : -4294967296 ≤ l ∧ l ≤ h ∧ h < 4294967296) (hn : h - l < 4294967296) :
    Calls Tryz.prog 8 #[.pointer (some ⟨s, 0, none⟩), .int .i64 l, .int .i64 h] w (StrInt l h s (k + 1) w) := by
  go_enter Tryz.func8, Tryz.ntmps8
  go_wp2_with (go_at_call 25; refine (w_Next _ _ _ _ hS hk (by omega)).mono ?_; rintro e w' ⟨r, hr1, hr2, rfl, hg, hS'⟩)
  go_ret
  exact ⟨_, by omega, by omega, rfl, hg, hS'⟩

/-- A stream's method that answers a bool. -/
def StrBool (s k : Nat) (w : World) (e : Ending) (w' : World) : Prop :=
  ∃ r : Bool, e = .returned (.bool r) ∧ Gr s w w' ∧ Str w' s k

set_option maxHeartbeats 400000 in
theorem w_Flip (n : Int) (s k : Nat) (w : World) (hS : Str w s k) (hk : k < 1000000) (hn : 1 ≤ n ∧ n ≤ 4294967296) :
    Calls Tryz.prog 26 #[.pointer (some ⟨s, 0, none⟩), .int .i64 n] w (StrBool s (k + 1) w) := by
  go_enter Tryz.func26, Tryz.ntmps26
  go_wp2_with (go_at_call 25; refine (w_Next _ _ _ _ hS hk hn).mono ?_; rintro e w' ⟨r, hr1, hr2, rfl, hg, hS'⟩)
  go_ret
  exact ⟨_, rfl, hg, hS'⟩

/-- A stream's method that answers one of some values. -/
def StrOf (cs : List Value) (s k : Nat) (w : World) (e : Ending) (w' : World) : Prop :=
  ∃ v, v ∈ cs ∧ e = .returned v ∧ Gr s w w' ∧ Str w' s k

set_option maxHeartbeats 400000 in
theorem w_Pick (g m : Nat) (cs : Array Value) (s k : Nat) (w : World) (hS : Str w s k) (hk : k < 1000000) (hg : w.heap[g]? = some (.cells cs 3 (0, 0))) (hne : g ≠ s) (hm : cs.size = m) (h0 : 0 < m) (h1 : m < 1000) :
    Calls Tryz.prog 9 #[.pointer (some ⟨s, 0, none⟩), .slice (some ⟨g, 0, none⟩) m m] w (StrOf cs.toList s (k + 1) w) := by
  go_enter Tryz.func9, Tryz.ntmps9
  go_wp2_with (go_at_call 25; refine (w_Next _ _ _ _ hS hk (by omega)).mono ?_; rintro e w' ⟨r, hr1, hr2, rfl, hgr, hS'⟩; (obtain ⟨q, rfl⟩ := Int.eq_ofNat_of_zero_le hr1); (have hcell : w'.cell? ⟨g, q, none⟩ = some (cs[q]'(by omega)) := World.grownBy.cell hgr ((cell_of_row w g q _ _ _ hg).trans (Array.getElem?_eq_getElem (by omega))) (by simp; omega)))
  go_ret
  exact ⟨_, Array.getElem_mem_toList _, rfl, hgr, hS'⟩
end Go.Proofs.YtemaiikgnogfhaaGreatDoor
/- The stream's methods that pick a number. -/
namespace Go.Proofs.YtemaiikgnogfhaaGreatDoor
open Go.RowKit

/-- A number of some list. -/
def StrIn (zs : List Int) (s k : Nat) (w : World) (e : Ending) (w' : World) : Prop := ∃ r ∈ zs, e = .returned (.int .i64 r) ∧ Gr s w w' ∧ Str w' s k
/-- 's.Pick(..)' of numbers that lie in a block of their own. -/
theorem w_PickI (g : Nat) (zs : List Int) (cs : Array Value) (s k : Nat) (w : World) (hS : Str w s k) (hk : k < 1000000) (hg : w.heap[g]? = some (.cells cs 3 (0, 0))) (hne : g ≠ s) (hcs : cs.toList = zs.map (Value.int .i64)) (h0 : zs ≠ []) (h1 : zs.length < 1000) :
    Calls Tryz.prog 9 #[.pointer (some ⟨s, 0, none⟩), .slice (some ⟨g, 0, none⟩) zs.length zs.length] w (StrIn zs s (k + 1) w) := by
  refine (w_Pick g zs.length cs s k w hS hk hg hne (by rw [← Array.length_toList, hcs, List.length_map]) (List.length_pos_iff.2 h0) h1).mono ?_
  rintro e w' ⟨v, hv, rfl, hg, hs⟩
  rw [hcs] at hv
  obtain ⟨z, hz, rfl⟩ := List.mem_map.1 hv
  exact ⟨z, hz, rfl, hg, hs⟩

set_option maxHeartbeats 1000000 in
theorem w_Odd (l h : Int) (s k : Nat) (w : World) (hS : Str w s k) (hk : k < 900000) (hl : -4294967296 ≤ l ∧ l ≤ h ∧ h < 4294967296) (hn : h - l < 4294967296) :
    Calls Tryz.prog 29 #[.pointer (some ⟨s, 0, none⟩), .int .i64 l, .int .i64 h] w (StrInt (-1099511627776) 1099511627776 s (k + 2) w) := by
  go_enter Tryz.func29, Tryz.ntmps29
  go_wp2_with (first
    | (go_at_call 26; refine (w_Flip _ _ _ _ hS (by omega) (by omega)).mono ?_; rintro e w1 ⟨b, rfl, hg1, hS1⟩)
    | (go_at_call 8; refine (w_Range _ _ _ _ _ hS1 (by omega) hl hn).mono ?_; rintro e w2 ⟨r, hr1, hr2, rfl, hg2, hS2⟩)
    | (go_at_call 9; refine (w_PickI _ [l - 1, h + 1, l, h, -1099511627776, 1099511627776] _ _ _ _ (hS1.nx ((Nx.refl _).alloc _)) (by omega) (hnew rfl) (by have := hS1.lt; omega) rfl (by simp) (by simp)).mono ?_; rintro e w2 ⟨r, hr, rfl, hg2, hS2⟩))
  · go_ret
    have hr' : r = l - 1 ∨ r = h + 1 ∨ r = l ∨ r = h ∨ r = -1099511627776 ∨ r = 1099511627776 := by simpa using hr
    exact ⟨r, by omega, by omega, rfl, (hg1.alloc _).trans hg2, hS2⟩
  · go_ret
    exact ⟨r, by omega, by omega, rfl, hg1.trans hg2, hS2⟩

end Go.Proofs.YtemaiikgnogfhaaGreatDoor
/- The stream's strings; clones. -/
namespace Go.Proofs.YtemaiikgnogfhaaGreatDoor
open Go.RowKit Go.Sort Go.Proofs Go.Shelf

/-- A string of some list. -/
def StrSome (zs : List ByteArray) (s k : Nat) (w : World) (e : Ending) (w' : World) : Prop := ∃ r ∈ zs, e = .returned (.string r) ∧ Gr s w w' ∧ Str w' s k
set_option maxRecDepth 100000 in
set_option maxHeartbeats 400000 in
/-- 's.Some(..)' of strings that lie in a block of their own. -/
theorem w_Some (g : Nat) (zs : List ByteArray) (cs : Array Value) (s k : Nat) (w : World) (hS : Str w s k) (hk : k < 1000000) (hg : w.heap[g]? = some (.cells cs 9 (0, 0))) (hne : g ≠ s) (hcs : cs.toList = zs.map Value.string) (h0 : zs ≠ []) (h1 : zs.length < 1000) :
    Calls Tryz.prog 27 #[.pointer (some ⟨s, 0, none⟩), .slice (some ⟨g, 0, none⟩) zs.length zs.length] w (StrSome zs s (k + 1) w) := by
  have hl : cs.size = zs.length := by rw [← Array.length_toList, hcs, List.length_map]
  have hp := List.length_pos_iff.2 h0
  generalize hm : zs.length = m at *
  have HM := hide hm
  clear hm h0
  go_enter Tryz.func27, Tryz.ntmps27
  go_wp2_with (go_at_call 25; refine (w_Next _ _ _ _ hS hk (by omega)).mono ?_; rintro e w' ⟨r, hr1, hr2, rfl, hgr, hS'⟩; (obtain ⟨q, rfl⟩ := Int.eq_ofNat_of_zero_le hr1); (have hq : q < zs.length := by have := HM.out; omega); (have hcell : w'.cell? ⟨g, q, none⟩ = some (.string zs[q]) := World.grownBy.cell hgr ((cell_of_row w g q _ _ _ hg).trans (by rw [← Array.getElem?_toList, hcs, List.getElem?_map, List.getElem?_eq_getElem hq]; rfl)) (by simp; omega)))
  go_ret
  exact ⟨_, List.getElem_mem hq, rfl, hgr, hS'⟩

set_option maxRecDepth 100000 in
set_option maxHeartbeats 400000 in
theorem w_CloneS (lo : Nat) (A : Option Addr) (c : Nat) (l : List ByteArray) (w : World) (hR : Rd w lo A 1 encS l) (hl : l.length ≤ 100000) :
    Calls Tryz.prog 28 #[.slice A l.length c] w fun e w' => ∃ v, e = .returned v ∧ w'.ownsRow w.heap.size 9 1 v l.length (l.flatMap encS) ∧ Nx w w' := by
  have q22 : ∀ (w : World) (a : Option Addr) (n c n' c' : Nat), (binOp .eql 44 (.slice a n c) (.slice none n' c')).run Tryz.prog w = .ok (.bool a.isNone) w := fun w a n c n' c' => Lib.run_eql_slice_nil w _ _ a n c n' c' Tryz.underlying44
  cases A with
  | none =>
    have hy : l = [] := by
      rcases l with _ | ⟨y, l⟩
      · rfl
      · obtain ⟨b, off, e, _⟩ := hR (by simp); cases e
    subst hy
    go_enter Tryz.func28, Tryz.ntmps28
    go_wp2
    go_ret
    exact ⟨_, rfl, World.ownsRow_nil _ _ _ _, Nx.refl _⟩
  | some a =>
    have hst := own_lit (w := w.alloc (.cells #[] 9)) (e := 9) (g := w.heap.size) (n := 0) (m := 0) (base := w.heap.size) (xs := ([] : List ByteArray)) encS_len (hnew rfl) (Nat.le_refl _) rfl rfl (Nat.le_refl _) (by unfold maxLen; omega)
    have HST := hide hst
    have HR := hide hR
    clear hst hR
    generalize hn : l.length = n at *
    have HN := hide hn
    clear hn
    go_enter Tryz.func28, Tryz.ntmps28
    go_wp2_with (at_builtin; refine wpAppL rfl _ _ _ rfl el_S encS encS_len encS_one (by omega) (by omega) w.heap.size _ [] rfl HST.out (some a) c l (by rw [HN.out]; rfl) (HR.out.nx ((Nx.refl _).alloc _)) (by have := HN.out; simp; omega) (by simp) ?_; intro v2 w2 hown2 hg2)
    go_ret
    rw [List.nil_append, HN.out] at hown2
    refine ⟨_, rfl, hown2, ?_⟩
    exact ((Nx.refl w).alloc _).grown hg2 (own_blk_lt HST.out)

end Go.Proofs.YtemaiikgnogfhaaGreatDoor
/- slices.Compact of strings on a row of one's own (cut out of XCross). -/
namespace Go.Proofs.YtemaiikgnogfhaaGreatDoor
open Go.RowKit Go.Proofs Go.Shelf

theorem strs_map (L : List ByteArray) : Lib.strsOf (fun i => L.getD i ByteArray.empty) L.length = L.map (fun s => s.data.toList) := by
  unfold Lib.strsOf
  apply List.ext_getElem?
  intro i
  rw [List.getElem?_map, List.getElem?_map]
  by_cases hi : i < L.length
  · rw [List.getElem?_range hi, List.getElem?_eq_getElem hi]
    simp [List.getD_eq_getElem?_getD, List.getElem?_eq_getElem hi]
  · rw [List.getElem?_eq_none (by simp; omega), List.getElem?_eq_none (by omega)]
    rfl
theorem encStr_back (s : ByteArray) : Go.Proofs.encStr s.data.toList = .string s := by
  obtain ⟨⟨l⟩⟩ := s
  rfl
theorem w_CompactS {base g cap : Nat} (L : List ByteArray) (w : World) (h : w.ownsRow base 9 1 (.slice (some ⟨g, 0, none⟩) L.length cap) L.length (L.flatMap encS)) (hl : L.length ≤ 65536) :
    Calls Tryz.prog 72 #[.slice (some ⟨g, 0, none⟩) L.length cap] w fun e w' => e = .returned (.slice (some ⟨g, 0, none⟩) (Lib.compact L).length cap) ∧ Rd w' base (some ⟨g, 0, none⟩) 1 encS (Lib.compact L) ∧ ∀ w0, Nx w0 w → w0.heap.size ≤ base → Nx w0 w' := by
  have hcap : L.length ≤ cap := by
    rcases h.2 with ⟨h0, _⟩ | ⟨g', cap', cur, hv, _, _, hnc, _⟩
    · cases h0
    · cases hv; exact hnc
  have hlt := h.lt g rfl
  have hcell : ∀ i, i < L.length → w.cell? ⟨g, 0 + i, none⟩ = some (.string (L.getD i ByteArray.empty)) := fun i hi => by
    have := own_cell encS_len rfl h i hi 0 _ rfl
    rw [List.getD_eq_getElem?_getD, List.getElem?_eq_getElem hi, Nat.zero_add]
    simpa using this
  have hcon := Any.slices_Compact_string_cells Tryz.compactStr g 0 L.length cap (fun i => L.getD i ByteArray.empty) w (by omega) hcap hcell (fun j _ => by rw [Nat.zero_add]; exact h.frozenAt j)
  rw [strs_map, compact_map (fun s : ByteArray => s.data.toList) (fun a b e => data_inj e), List.length_map] at hcon
  change Calls Tryz.prog 72 _ _ _ at hcon
  have hle := Lib.compact_length_le L
  refine hcon.mono ?_
  rintro e w' ⟨rfl, q, rfl⟩
  refine ⟨rfl, fun hp => ⟨g, 0, rfl, hlt.1, by simpa using hlt.2, fun i x hx j u hu => ?_⟩, fun w0 hn0 hb0 => ?_⟩
  · have hi : i < (Lib.compact L).length := (List.getElem?_eq_some_iff.1 hx).1
    have hj : j = 0 := by have := (List.getElem?_eq_some_iff.1 hu).1; simp [encS] at this; omega
    subst hj
    have hu2 : u = .string x := by simp [encS] at hu; exact hu.symm
    subst hu2
    have e0 := World.cell?_setCells_in g (((Lib.compact L).map (fun s : ByteArray => s.data.toList) ++ List.replicate (L.length - (Lib.compact L).length) []).map Go.Proofs.encStr) 0 (w.drewN q) (fun t ht => by
      have := hcell t (by simp at ht; omega)
      show (w.cell? ⟨g, 0 + t, none⟩).isSome = true
      rw [this]; rfl) i (by simp; omega)
    rw [Nat.zero_add] at e0 ⊢
    simp only [Nat.mul_one, Nat.add_zero]
    rw [e0, List.getElem_map, List.getElem_append_left (by simpa using hi), List.getElem_map, encStr_back]
    have := (List.getElem?_eq_some_iff.1 hx).2
    rw [this]
  · exact below_setCells (by omega) _ _ _ (hn0.drewN q)

end Go.Proofs.YtemaiikgnogfhaaGreatDoor
/- The zones to which nodes come: the program's list and the reference's. -/
namespace Go.Proofs.YtemaiikgnogfhaaGreatDoor
open Go.RowKit Go.Proofs Go.Shelf

/-- Some strings in new memory. -/
def StrsR (L : List ByteArray) (w : World) (e : Ending) (w' : World) : Prop :=
  ∃ (A : Option Addr) (c : Nat), e = .returned (.slice A L.length c) ∧ Rd w' w.heap.size A 1 encS L ∧ Nx w w'

theorem ne_empty {z : ByteArray} (h : ¬ z = ByteArray.empty) : z.toList.isEmpty = false := by
  rw [Lib.toList_data]
  cases h1 : z.data.toList with
  | nil => exact absurd (data_inj (a := z) (b := ByteArray.empty) h1) h
  | cons _ _ => rfl
theorem last_get {L : List ByteArray} (h : 0 < L.length) : L.getLast? = some (L[L.length - 1]'(by omega)) := by
  rw [List.getLast?_eq_getElem?, List.getElem?_eq_getElem (by omega)]

set_option maxRecDepth 100000 in
set_option maxHeartbeats 2000000 in
theorem w_crossed (lo lo' : Nat) (A B : Option Addr) (c c' : Nat) (zs : List Zone) (l : List ByteArray) (w : World) (hR : RdZones w lo A zs) (hl : zs.length ≤ 100) (hs : ∀ z ∈ zs, z.nodes.Pairwise ltS) (hB : Rd w lo' B 1 encS l) (hl' : l.length ≤ 65536) :
    Calls Tryz.prog 44 #[.slice A zs.length c, .slice B l.length c'] w (StrsR (crossO zs l) w) := by
  have HZ := hide (fun s w' hn => w_zoneOf lo A c zs s w' (hR.nx hn) hl hs)
  have HB := hide hB
  generalize hn : l.length = n at *
  generalize zs.length = zl at *
  have HN := hide hn
  clear hR hn hs hB
  go_enter Tryz.func44, Tryz.ntmps44
  go_wp2_with fail
  go_loopw [5, 11] (fun v i wr => ∃ k : Nat, k ≤ n ∧ i = .int .i64 k ∧ (crossO zs (l.take k)).length ≤ k ∧ Nx w wr ∧ wr.ownsRow w.heap.size 9 1 v (crossO zs (l.take k)).length ((crossO zs (l.take k)).flatMap encS)) (fun _ i _ => n - (intOf i).toNat)
  case atStart => exact ⟨0, Nat.zero_le _, rfl, by simp [crossO, filtO, Lib.compact, Lib.compactUpTo], Nx.refl _, World.ownsRow_nil _ _ _ _⟩
  case round =>
    obtain ⟨k, hk, rfl, hcl, hbw, hown⟩ := hrel
    by_cases hlt : k < n
    · have hlt' : k < l.length := by have := HN.out; omega
      have HD := hide (crossO_take zs l k hlt')
      obtain ⟨b, off, rfl, _, hb, hbr, hc⟩ := HB.out.open_ hbw (by omega)
      have c0 : wr.cell? ⟨b, off + k, none⟩ = some (.string l[k]) := by have := hc k hlt' 0 _ rfl; simpa using this
      clear hc
      generalize l[k] = nd at *
      generalize crossO zs (l.take k) = L at *
      by_cases hz : zoneO zs nd = ByteArray.empty
      · have HD2 := HD.out
        rw [if_pos (.inl hz)] at HD2
        have HD3 := hide HD2
        have HC := HZ.out nd wr hbw
        rw [hz] at HC
        have HC2 := hide HC
        clear HD HD2 HC hz
        have HO := hide hown
        clear hown
        go_wp2_with (go_at_call 68; refine HC2.out.mono ?_; rintro e w1 ⟨rfl, hn1⟩)
        go_roundw
        case rel => exact ⟨k + 1, by omega, by go_num, by rw [HD3.out]; omega, hbw.trans hn1, by rw [HD3.out]; exact own_nx HO.out hn1⟩
        case measure => simp [intOf]; omega
      · have he := ne_empty hz
        have HZN := hide hz
        have HC := HZ.out nd wr hbw
        generalize zoneO zs nd = z at *
        have HC2 := hide HC
        clear HC hz
        by_cases hL0 : L.length = 0
        · have hLn : L = [] := List.eq_nil_of_length_eq_zero hL0
          have HD2 := HD.out
          rw [if_neg (fun hc => hc.elim HZN.out (fun h => h.1 hLn))] at HD2
          have HD3 := hide HD2
          obtain ⟨A1, c1, ev, _, _⟩ := Rd.of_own encS_len rfl hown
          obtain rfl := ev
          have t1 : ((L.length : Int) == 0) = true := by rw [hL0]; rfl
          have HO := hide hown
          clear HD HD2 hown hLn hL0
          go_wp2_with (first
            | (go_at_call 68; refine HC2.out.mono ?_; rintro e w1 ⟨rfl, hn1⟩)
            | (at_builtin; refine wpApp rfl _ _ _ rfl el_S encS encS_len encS_one (by omega) (by omega) w.heap.size _ L rfl ((own_nx HO.out hn1).alloc _) _ z _ rfl (hnew (by simp)) rfl (by omega) (by have := hbw.sz; have := hn1.sz; simp; omega) ?_; intro v2 w2 hown2 hg2))
          have hnx2 := ((hbw.trans hn1).alloc (.cells #[.string z] 9)).grown hg2 (fun j hj => own_blk_lt HO.out j hj)
          go_roundw
          case rel => exact ⟨k + 1, by omega, by go_num, by rw [HD3.out, List.length_append]; simp; omega, hnx2, by rw [HD3.out]; exact hown2⟩
          case measure => simp [intOf]; omega
        · have hLp : 0 < L.length := by omega
          have hlast := last_get hLp
          obtain ⟨A1, c1, ev, hRL, _⟩ := Rd.of_own encS_len rfl hown
          obtain rfl := ev
          obtain ⟨b2, off2, rfl, _, hb2, _, hc2⟩ := hRL.open_ (Nx.refl _) hLp
          have c5 : wr.cell? ⟨b2, off2 + (L.length - 1), none⟩ = some (.string (L[L.length - 1]'(by omega))) := by have := hc2 (L.length - 1) (by omega) 0 _ rfl; simpa using this
          have C5 := hide c5
          generalize (L[L.length - 1]'(by omega)) = p at *
          have t1 : ((L.length : Int) == 0) = false := by rw [beq_eq_false_iff_ne]; omega
          have l1 : IntKind.i64.wrap ((L.length : Int) - 1) = (L.length : Int) - 1 := IntWalk.i64_in _ (by omega)
          have l2 : (1 : Int) ≤ (L.length : Int) := by omega
          have l3 : ((L.length : Int) - 1).toNat = L.length - 1 := by omega
          have l4 : (L.length : Int) - 1 < (L.length : Int) := by omega
          have hLne : L ≠ [] := fun h => hL0 (by rw [h]; rfl)
          have HO := hide hown
          by_cases hp : p = z
          · have t2 : (p.toList == z.toList) = true := by rw [eqS_iff]; simpa using hp
            have HD2 := HD.out
            rw [if_pos (.inr ⟨hLne, by rw [hlast, hp]⟩)] at HD2
            have HD3 := hide HD2
            clear HD HD2 hown hLne hlast hp c5 hc2 hRL hL0
            go_wp2_with (first
              | (go_at_call 68; refine HC2.out.mono ?_; rintro e w1 ⟨rfl, hn1⟩; (have c6 : w1.cell? ⟨b2, off2 + (L.length - 1), none⟩ = some (.string p) := World.grownBy.cell (hn1.gr none) C5.out (by simp))))
            go_roundw
            case rel => exact ⟨k + 1, by omega, by go_num, by rw [HD3.out]; omega, hbw.trans hn1, by rw [HD3.out]; exact own_nx HO.out hn1⟩
            case measure => simp [intOf]; omega
          · have t2 : (p.toList == z.toList) = false := by rw [eqS_iff]; simpa using hp
            have HD2 := HD.out
            rw [if_neg (fun hc => hc.elim HZN.out (fun h => by
              have h2 := h.2
              rw [hlast] at h2; injection h2 with h2; exact hp h2))] at HD2
            have HD3 := hide HD2
            clear HD HD2 hown hLne hlast hp c5 hc2 hRL hL0
            go_wp2_with (first
              | (go_at_call 68; refine HC2.out.mono ?_; rintro e w1 ⟨rfl, hn1⟩; (have c6 : w1.cell? ⟨b2, off2 + (L.length - 1), none⟩ = some (.string p) := World.grownBy.cell (hn1.gr none) C5.out (by simp)))
              | (at_builtin; refine wpApp rfl _ _ _ rfl el_S encS encS_len encS_one (by omega) (by omega) w.heap.size _ L rfl ((own_nx HO.out hn1).alloc _) _ z _ rfl (hnew (by simp)) rfl (by omega) (by have := hbw.sz; have := hn1.sz; simp; omega) ?_; intro v2 w2 hown2 hg2))
            have hnx2 := ((hbw.trans hn1).alloc (.cells #[.string z] 9)).grown hg2 (fun j hj => own_blk_lt HO.out j hj)
            go_roundw
            case rel => exact ⟨k + 1, by omega, by go_num, by rw [HD3.out, List.length_append]; simp; omega, hnx2, by rw [HD3.out]; exact hown2⟩
            case measure => simp [intOf]; omega
    · have ek : k = n := by omega
      subst ek
      have HTL := hide (show l.take k = l from List.take_of_length_le (by have := HN.out; omega))
      rw [HTL.out] at hown
      obtain ⟨A1, c1, ev, hRL, _⟩ := Rd.of_own encS_len rfl hown
      obtain rfl := ev
      go_wp2_with fail
      go_ret
      exact ⟨A1, c1, rfl, hRL, hbw⟩

set_option maxRecDepth 100000 in
set_option maxHeartbeats 2000000 in
theorem w_CrossedOf (lo lo' : Nat) (A B : Option Addr) (c c' : Nat) (zs : List Zone) (l : List ByteArray) (w : World) (hR : RdZones w lo A zs) (hl : zs.length ≤ 100) (hB : Rd w lo' B 1 encS l) (hl' : l.length ≤ 65536) :
    Calls Tryz.prog 47 #[.slice A zs.length c, .slice B l.length c'] w (StrsR (crossO zs l) w) := by
  have HZ := hide (fun s w' hn => w_ZoneFor lo A c zs s w' (hR.nx hn) hl)
  have HB := hide hB
  generalize hn : l.length = n at *
  generalize zs.length = zl at *
  have HN := hide hn
  clear hR hn hB
  go_enter Tryz.func47, Tryz.ntmps47
  go_wp2_with fail
  go_loopw [5, 11] (fun v i wr => ∃ k : Nat, k ≤ n ∧ i = .int .i64 k ∧ (filtO zs (l.take k)).length ≤ k ∧ Nx w wr ∧ wr.ownsRow w.heap.size 9 1 v (filtO zs (l.take k)).length ((filtO zs (l.take k)).flatMap encS)) (fun _ i _ => n - (intOf i).toNat)
  case atStart => exact ⟨0, Nat.zero_le _, rfl, by simp [filtO], Nx.refl _, World.ownsRow_nil _ _ _ _⟩
  case round =>
    obtain ⟨k, hk, rfl, hcl, hbw, hown⟩ := hrel
    by_cases hlt : k < n
    · have hlt' : k < l.length := by have := HN.out; omega
      have HD := hide (filtO_take zs l k hlt')
      obtain ⟨b, off, rfl, _, hb, hbr, hc⟩ := HB.out.open_ hbw (by omega)
      have c0 : wr.cell? ⟨b, off + k, none⟩ = some (.string l[k]) := by have := hc k hlt' 0 _ rfl; simpa using this
      clear hc
      generalize l[k] = nd at *
      generalize filtO zs (l.take k) = L at *
      by_cases hz : zoneO zs nd = ByteArray.empty
      · have HD2 := HD.out
        rw [if_pos hz] at HD2
        have HD3 := hide HD2
        have HC := HZ.out nd wr hbw
        rw [hz] at HC
        have HC2 := hide HC
        clear HD HD2 HC hz
        have HO := hide hown
        clear hown
        go_wp2_with (go_at_call 71; refine HC2.out.mono ?_; rintro e w1 ⟨rfl, hn1⟩)
        go_roundw
        case rel => exact ⟨k + 1, by omega, by go_num, by rw [HD3.out]; omega, hbw.trans hn1, by rw [HD3.out]; exact own_nx HO.out hn1⟩
        case measure => simp [intOf]; omega
      · have he := ne_empty hz
        have HD2 := HD.out
        rw [if_neg hz] at HD2
        have HD3 := hide HD2
        have HC := HZ.out nd wr hbw
        generalize zoneO zs nd = z at *
        have HC2 := hide HC
        have HO := hide hown
        clear HC hz HD HD2 hown
        go_wp2_with (first
          | (go_at_call 71; refine HC2.out.mono ?_; rintro e w1 ⟨rfl, hn1⟩)
          | (at_builtin; refine wpApp rfl _ _ _ rfl el_S encS encS_len encS_one (by omega) (by omega) w.heap.size _ L rfl ((own_nx HO.out hn1).alloc _) _ z _ rfl (hnew (by simp)) rfl (by omega) (by have := hbw.sz; have := hn1.sz; simp; omega) ?_; intro v2 w2 hown2 hg2))
        have hnx2 := ((hbw.trans hn1).alloc (.cells #[.string z] 9)).grown hg2 (fun j hj => own_blk_lt HO.out j hj)
        go_roundw
        case rel => exact ⟨k + 1, by omega, by go_num, by rw [HD3.out, List.length_append]; simp; omega, hnx2, by rw [HD3.out]; exact hown2⟩
        case measure => simp [intOf]; omega
    · have ek : k = n := by omega
      subst ek
      have HTL := hide (show l.take k = l from List.take_of_length_le (by have := HN.out; omega))
      rw [HTL.out] at hown
      have HCO := hide (show crossO zs l = Lib.compact (filtO zs l) from rfl)
      rw [HTL.out] at hcl
      generalize filtO zs l = L at *
      rcases hown.2 with ⟨rfl, h0⟩ | ⟨g, cap, cur, rfl, hg, _⟩
      · have hLn : L = [] := List.eq_nil_of_length_eq_zero h0
        subst hLn
        have hcon := fun W => Any.slices_Compact_string_empty Tryz.compactStr none 0 W
        change ∀ W, Calls Tryz.prog 72 _ _ _ at hcon
        clear hown
        go_wp2_with (go_at_call 72; refine (hcon _).mono ?_; rintro e w2 ⟨rfl, rfl⟩)
        go_ret
        rw [HCO.out]
        exact ⟨none, 0, rfl, Rd.nil, hbw⟩
      · have hcon := w_CompactS L wr hown (by omega)
        have HCN := hide hcon
        clear hown hcon
        go_wp2_with (go_at_call 72; refine HCN.out.mono ?_; rintro e w2 ⟨rfl, hR2, hn2⟩)
        go_ret
        rw [HCO.out]
        exact ⟨some ⟨g, 0, none⟩, cap, rfl, hR2, hn2 _ hbw (Nat.le_refl _)⟩
end Go.Proofs.YtemaiikgnogfhaaGreatDoor
/- base.First of errors. -/
namespace Go.Proofs.YtemaiikgnogfhaaGreatDoor
open Go.RowKit

set_option maxHeartbeats 400000 in
theorem w_FirstE (lo : Nat) (A : Option Addr) (c : Nat) (zs : List Int) (w : World) (hR : Rd w lo A 1 encI zs) (hl : zs.length ≤ 65536) :
    Calls Tryz.prog 41 #[.slice A zs.length c] w fun e w' => e = .returned (.int .i64 (orI zs)) ∧ w = w' := by
  generalize hn : zs.length = n at *
  have HR := hide hR
  have HN := hide hn
  clear hR hn
  go_enter Tryz.func41, Tryz.ntmps41
  go_wp2
  go_loop [2, 4, 7] (fun _ _ i => ∃ k : Nat, k ≤ n ∧ i = .int .i64 k ∧ orI zs = orI (zs.drop k)) (fun _ _ i => n - (intOf i).toNat)
  case atStart => exact ⟨0, Nat.zero_le _, rfl, rfl⟩
  case round =>
    obtain ⟨k, hk, rfl, hq⟩ := hrel
    have HQ := hide hq
    clear hq
    by_cases hlt : k < n
    · have hlt' : k < zs.length := by have := HN.out; omega
      obtain ⟨b, off, rfl, _, hb, _, hc⟩ := HR.out.open_ (Nx.refl w) (by omega)
      have c0 : w.cell? ⟨b, off + k, none⟩ = some (.int .i64 zs[k]) := by have := hc k hlt' 0 _ rfl; simpa using this
      clear hc
      have HD := hide (orI_drop zs k hlt')
      by_cases hz : zs[k] = 0
      · have hz' : (zs[k] != 0) = false := by simpa using hz
        have HZ := hide hz
        clear hz
        go_wp2
        go_round
        case rel => exact ⟨k + 1, by omega, by go_num, by rw [HQ.out, HD.out, if_pos HZ.out]⟩
        case measure => simp [intOf]; omega
      · have hz' : (zs[k] != 0) = true := by simpa using hz
        have HZ := hide hz
        clear hz
        go_wp2
        go_ret
        exact ⟨ret_int (by rw [HQ.out, HD.out, if_neg HZ.out]), rfl⟩
    · have ek : k = n := by omega
      subst ek
      have HE := hide (show orI (zs.drop k) = 0 by rw [List.drop_eq_nil_iff.2 (by have := HN.out; omega)]; rfl)
      go_wp2
      go_ret
      exact ⟨ret_int (by rw [HQ.out, HE.out]), rfl⟩
end Go.Proofs.YtemaiikgnogfhaaGreatDoor
/- Cells behind calls that make memory alone. Of no program. -/
namespace Go.Proofs.YtemaiikgnogfhaaGreatDoor
open Go.RowKit

theorem nx_cell {w w' : World} {b o : Nat} {v : Value} (hn : Nx w w') (hb : b < w.heap.size) (h : w.cell? ⟨b, o, none⟩ = some v) : w'.cell? ⟨b, o, none⟩ = some v := (Below.cell hn (p := ⟨b, _, none⟩) hb).trans h
end Go.Proofs.YtemaiikgnogfhaaGreatDoor
/- Plain: the cheapest price so far, as the program keeps it. -/
namespace Go.Proofs.YtemaiikgnogfhaaGreatDoor

theorem keyB_ne {s : ByteArray} (h : keyB s = true) : s.toList.isEmpty = false := by
  cases hs : s.toList with
  | nil =>
    unfold keyB at h
    rw [← Lib.toList_data, hs] at h
    exact absurd h (by decide)
  | cons x l => rfl
end Go.Proofs.YtemaiikgnogfhaaGreatDoor
/- What the slots of a stream's statement hold, said by shape alone. -/
namespace Go.Proofs.YtemaiikgnogfhaaGreatDoor
open Go.RowKit

/-- A step of a stream's statement: block s (the stream) may turn, block b (what is made) may turn, all else stays. -/
def Two (s b : Nat) (w w' : World) : Prop :=
  w'.os = w.os ∧ w'.tape = w.tape ∧ w'.output = w.output ∧ w.heap.size ≤ w'.heap.size ∧ ∀ i, i < w.heap.size → i ≠ s → i ≠ b → w'.heap[i]? = w.heap[i]?
theorem Two.refl (s b : Nat) (w : World) : Two s b w w := ⟨rfl, rfl, rfl, Nat.le_refl _, fun _ _ _ _ => rfl⟩
theorem Two.of_gr {s b : Nat} {w w' : World} (h : Gr s w w') : Two s b w w' :=
  ⟨h.os, h.tape, h.output, h.sz, fun i hi hs _ => h.block i hi (by intro e; injection e with e; exact hs e)⟩
theorem Two.trans {s b : Nat} {w w' w'' : World} (h : Two s b w w') (k : Two s b w' w'') : Two s b w w'' :=
  ⟨k.1.trans h.1, k.2.1.trans h.2.1, k.2.2.1.trans h.2.2.1, Nat.le_trans h.2.2.2.1 k.2.2.2.1, fun i hi hs hb => (k.2.2.2.2 i (Nat.lt_of_lt_of_le hi h.2.2.2.1) hs hb).trans (h.2.2.2.2 i hi hs hb)⟩

def ShPtr (b o : Nat) (v : Value) (_w : World) : Prop := v = .pointer (some ⟨b, o, none⟩)
/-- A literal of n small strings in a block of its own. -/
def ShLitS (s b n : Nat) (v : Value) (w : World) : Prop :=
  ∃ (g : Nat) (zs : List ByteArray), v = .slice (some ⟨g, 0, none⟩) n n ∧ zs.length = n ∧ (∀ z ∈ zs, z.size ≤ 1000000) ∧ g ≠ s ∧ g ≠ b ∧ w.heap[g]? = some (.cells (zs.map Value.string).toArray 9 (0, 0))
/-- A literal of n numbers in a block of its own. -/
def ShLitI (s b n : Nat) (v : Value) (w : World) : Prop :=
  ∃ (g : Nat) (zs : List Int), v = .slice (some ⟨g, 0, none⟩) n n ∧ zs.length = n ∧ g ≠ s ∧ g ≠ b ∧ w.heap[g]? = some (.cells (zs.map (Value.int .i64)).toArray 3 (0, 0))
theorem ShLitS.keep {s b n : Nat} {v : Value} {w w' : World} (h : ShLitS s b n v w) (k : Two s b w w') : ShLitS s b n v w' := by
  obtain ⟨g, zs, h1, h2, h3, h4, h5, h6⟩ := h
  exact ⟨g, zs, h1, h2, h3, h4, h5, (k.2.2.2.2 g (Array.getElem?_eq_some_iff.1 h6).1 h4 h5).trans h6⟩
theorem ShLitI.keep {s b n : Nat} {v : Value} {w w' : World} (h : ShLitI s b n v w) (k : Two s b w w') : ShLitI s b n v w' := by
  obtain ⟨g, zs, h1, h2, h3, h4, h5⟩ := h
  exact ⟨g, zs, h1, h2, h3, h4, (k.2.2.2.2 g (Array.getElem?_eq_some_iff.1 h5).1 h3 h4).trans h5⟩

section
variable {ops : Array Oper} {Q : Exit → Act → World → Prop} {i : Nat} {o : Oper} {a : Act} {w : World} {K : Act → World → Prop}
theorem run_call {f : FuncId} {xs : Array Operand} {ts : Array TypeId} (hop : o.op = .call { callee := .value (.func f), args := xs, argTypes := ts }) (he : ∀ args w, (callFunc f args).run Tryz.prog w = .ok (.enter f args) w) : (execOp a.eval o).run Tryz.prog w = .ok (.enter f (xs.map a.eval)) w := by
  unfold execOp
  rw [hop]
  have e : a.eval (.func f) = .func (.func f) #[] #[] := rfl
  simp [resolve, e, Deferred.ofValue, invoke, he]
end
end Go.Proofs.YtemaiikgnogfhaaGreatDoor
