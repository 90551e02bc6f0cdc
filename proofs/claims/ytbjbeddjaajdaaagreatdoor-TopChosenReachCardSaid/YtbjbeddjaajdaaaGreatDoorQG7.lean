/- fare.Divide, whatever it is handed; what is wrong with parts; 'priced' answers true. -/
import Derived.Test.YtbjbeddjaajdaaaGreatDoorQG4
import Derived.Test.YtbjbeddjaajdaaaGreatDoorQG0
import Derived.Laws.OwnMore
import Derived.Laws.Bits64
import Derived.WalkKit
import Derived.IntWalk
import Derived.StillTailTactics
import Derived.Lib.SliceRun
import Derived.Test.YtbjbeddjaajdaaaGreatDoorQCheckR
import Derived.Deep.Onto
import Derived.Deep.RegionHeld3
import Derived.Deep.DeepCutAuto
import Derived.Test.YtbjbeddjaajdaaaGreatDoorQG2
namespace Go.Proofs.YtbjbeddjaajdaaaGreatDoor
open Go.RowKit Go.Sort Go.Proofs Go.Shelf

theorem partsF_cents {cents : Int} {parts : List Int} (h : centB cents = true) : partsF cents parts = 1 := by unfold partsF; rw [h]; rfl
theorem partsF_any {cents : Int} {parts : List Int} (h : centB cents = false) (h2 : parts.length < 20) (h3 : parts.any centB = true) : partsF cents parts = 1 := by
  unfold partsF; rw [h, h3]; simp; omega
theorem partsF_sum {cents : Int} {parts : List Int} (h : centB cents = false) (h2 : parts.length < 20) (h3 : parts.any centB = false) : partsF cents parts = if sumL parts = 0 then 8 else 0 := by
  unfold partsF; rw [h, h3]; simp; omega
theorem any_at {l : List Int} {p : Int → Bool} {k : Nat} (hk : k < l.length) (h : p l[k] = true) : l.any p = true := List.any_eq_true.2 ⟨_, List.getElem_mem hk, h⟩
theorem any_step {l : List Int} {p : Int → Bool} {k : Nat} (hk : k < l.length) (h : (l.take k).any p = false) (h2 : p l[k] = false) : (l.take (k + 1)).any p = false := by
  rw [List.take_succ_eq_append_getElem hk, List.any_append, h]; simp [h2]
theorem sum_right {l : List Int} (h : l.any centB = false) : 0 ≤ sumL l ∧ sumL l ≤ l.length * 1000000000 := by
  have := sumL_bd l 0 1000000000 (fun x hx => centB_bd (by
    cases h1 : centB x
    · rfl
    · exact absurd (List.any_eq_true.2 ⟨x, hx, h1⟩) (by rw [h]; simp)))
  omega
/-- Cents given out, or a fault. -/
def DivU (F cents : Int) (parts : List Int) (w : World) (e : Ending) (w' : World) : Prop :=
  ∃ (A : Option Addr) (c : Nat) (zs : List Int), e = .returned (.tuple #[.slice A zs.length c, .int .i64 F]) ∧ (F = 0 → Divided cents parts zs) ∧ (F ≠ 0 → zs = []) ∧ Rd w' w.heap.size A 1 encI zs ∧ Nx w w'
theorem DivU.no {F cents : Int} {parts : List Int} {w w' : World} (h : F ≠ 0) (hn : Nx w w') : DivU F cents parts w (.returned (.tuple #[.slice none 0 0, .int .i64 F])) w' := ⟨none, 0, [], rfl, fun h0 => absurd h0 h, fun _ => rfl, Rd.nil, hn⟩

set_option maxRecDepth 100000 in
set_option maxHeartbeats 1000000 in
theorem w_Divide (lo : Nat) (A : Option Addr) (c : Nat) (cents : Int) (parts : List Int) (w : World) (hR : Rd w lo A 1 encI parts) (hl : parts.length < 20) :
    Calls Tryz.prog 80 #[.int .i64 cents, .slice A parts.length c] w (DivU (partsF cents parts) cents parts w) := by
  cases hd : centB cents
  · have HD := hide hd
    have hcb := centB_bd hd
    have HPO := hide (fun h3 => partsF_sum (parts := parts) hd hl h3)
    have HPA := hide (fun h3 => partsF_any (parts := parts) hd hl h3)
    have HDB := hide (fun h3 h4 => w_DivideB lo A c cents parts w hR hl hcb h3 h4)
    generalize hn : parts.length = n at *
    have HR := hide hR
    have HN := hide hn
    unfold centB at hd
    clear hR hn
    go_enter Tryz.func80, Tryz.ntmps80
    go_wp2_with (go_at_call 84; first | (rw [show (1000000000 : Int) = maxCt from rfl]; refine (w_Out _ _ _ _).mono ?_; rintro e w' ⟨rfl, rfl⟩))
    go_loop [4, 5, 6, 8, 16] (fun _ _ s _ i => ∃ k : Nat, k ≤ n ∧ i = .int .i64 k ∧ s = .int .i64 (sumL (parts.take k)) ∧ (parts.take k).any centB = false) (fun _ _ _ _ i => n - (intOf i).toNat)
    case atStart => exact ⟨0, Nat.zero_le _, rfl, rfl, rfl⟩
    case round =>
      obtain ⟨k, hk, rfl, rfl, hq⟩ := hrel
      have hsb := sum_right hq
      have hkl : (parts.take k).length ≤ k := List.length_take_le _ _
      have HQ := hide hq
      clear hq
      by_cases hlt : k < n
      · have hlt' : k < parts.length := by have := HN.out; omega
        have HT := hide (sumL_take parts k hlt')
        obtain ⟨b, off, rfl, _, hb, _, hc⟩ := HR.out.open_ (Nx.refl w) (by omega)
        have c0 : w.cell? ⟨b, off + k, none⟩ = some (.int .i64 parts[k]) := by have := hc k hlt' 0 _ rfl; simpa using this
        clear hc
        cases hx : centB parts[k]
        · have HX := hide (any_step hlt' HQ.out hx)
          have hxb := centB_bd hx
          unfold centB at hx
          generalize sumL (parts.take k) = s at *
          go_wp2_with (go_at_call 84; first | (rw [show (1000000000 : Int) = maxCt from rfl]; refine (w_Out _ _ _ _).mono ?_; rintro e w' ⟨rfl, rfl⟩))
          go_round
          case rel => exact ⟨k + 1, by omega, by go_num, by rw [HT.out], HX.out⟩
          case measure => simp [intOf]; omega
        · have HF := hide (HPA.out (any_at hlt' hx))
          unfold centB at hx
          go_wp2_with (go_at_call 84; first | (rw [show (1000000000 : Int) = maxCt from rfl]; refine (w_Out _ _ _ _).mono ?_; rintro e w' ⟨rfl, rfl⟩))
          go_ret2
          rw [HF.out]
          exact DivU.no (by omega) (Nx.refl _)
      · have HK := hide (show parts.take k = parts from List.take_of_length_le (by have := HN.out; omega))
        rw [HK.out] at hsb HQ ⊢
        have HF := hide (HPO.out HQ.out)
        by_cases hz : sumL parts = 0
        · have t1 : (sumL parts == 0) = true := by simpa using hz
          have HZ := hide hz
          clear hz
          go_wp2_with fail
          go_ret2
          rw [HF.out, if_pos HZ.out]
          exact DivU.no (by omega) (Nx.refl _)
        · have t1 : (sumL parts == 0) = false := by simpa using hz
          have HZ := hide hz
          clear hz
          go_wp2_with (go_at_call 130; refine (HDB.out (fun p hp => centB_bd (by cases h1 : centB p; rfl; exact absurd (List.any_eq_true.2 ⟨p, hp, h1⟩) (by rw [HQ.out]; simp))) (by have := HZ.out; omega)).mono ?_; rintro e w2 ⟨A', c', zs, rfl, hdv, hR2, hn2⟩)
          go_ret2
          rw [HF.out, if_neg HZ.out]
          exact ⟨A', c', zs, rfl, fun _ => hdv, fun h => absurd rfl h, hR2, hn2⟩
  · have HF := hide (partsF_cents (parts := parts) hd)
    clear hR
    generalize parts.length = n at *
    unfold centB at hd
    go_enter Tryz.func80, Tryz.ntmps80
    go_wp2_with (go_at_call 84; first | (rw [show (1000000000 : Int) = maxCt from rfl]; refine (w_Out _ _ _ _).mono ?_; rintro e w' ⟨rfl, rfl⟩))
    go_ret2
    rw [HF.out]
    exact DivU.no (by omega) (Nx.refl _)

set_option maxRecDepth 100000 in
set_option maxHeartbeats 1000000 in
theorem w_EqualI (lo lo' : Nat) (A B : Option Addr) (c d : Nat) (l : List Int) (w : World) (hA : Rd w lo A 1 encI l) (hB : Rd w lo' B 1 encI l) (hl : l.length ≤ 65536) :
    Calls Tryz.prog 82 #[.slice A l.length c, .slice B l.length d] w fun e w' => e = .returned (.bool true) ∧ Nx w w' := by
  generalize hn : l.length = n at *
  have HA := hide hA
  have HB := hide hB
  have HN := hide hn
  clear hA hB hn
  go_enter Tryz.func82, Tryz.ntmps82
  go_wp2
  go_loopw [5, 13] (fun _ i wr => ∃ k : Nat, k ≤ n ∧ i = .int .i64 k ∧ Nx w wr) (fun _ i _ => n - (intOf i).toNat)
  case atStart => exact ⟨0, Nat.zero_le _, rfl, Nx.refl _⟩
  case round =>
    obtain ⟨k, hk, rfl, hbw⟩ := hrel
    by_cases hlt : k < n
    · have hlt' : k < l.length := by have := HN.out; omega
      obtain ⟨b, off, rfl, _, hb, hbr, hc⟩ := HA.out.open_ hbw (by omega)
      obtain ⟨b', off', rfl, _, hb', hbr', hc'⟩ := HB.out.open_ hbw (by omega)
      have c0 : wr.cell? ⟨b, off + k, none⟩ = some (.int .i64 l[k]) := by have := hc k hlt' 0 _ rfl; simpa using this
      have d0 : wr.cell? ⟨b', off' + k, none⟩ = some (.int .i64 l[k]) := by have := hc' k hlt' 0 _ rfl; simpa using this
      clear hc hc'
      have q1 : (0 : Int) ≤ (k : Int) := by omega
      have q2 : (k : Int) < (n : Int) := by omega
      go_wp2_with fail
      go_quiet (fail)
      go_wp2
      go_roundw
      case rel => exact ⟨k + 1, by omega, by go_num, hbw.drewN _⟩
      case measure => simp [intOf]; omega
    · go_wp2
      go_ret
      exact ⟨rfl, hbw⟩

end Go.Proofs.YtbjbeddjaajdaaaGreatDoor
/- More words for memory, of no program: rows out of literals, prefixes of rows, rows that stay while others turn. -/
namespace Go.Proofs.YtbjbeddjaajdaaaGreatDoor
open Go.RowKit

section
variable {α : Type} {w w' : World} {lo K : Nat} {A : Option Addr} {enc : α → List Value} {xs : List α}
/-- The first ones of a slice. -/
theorem Rd.take (h : Rd w lo A K enc xs) (n : Nat) : Rd w lo A K enc (xs.take n) := fun hp => by
  have hp' : 0 < xs.length := by rw [List.length_take] at hp; omega
  obtain ⟨b, off, e, h1, hb, hc⟩ := h hp'
  refine ⟨b, off, e, h1, hb, fun i x hx j u hu => hc i x ?_ j u hu⟩
  have hi : i < (xs.take n).length := (List.getElem?_eq_some_iff.1 hx).1
  rw [List.length_take] at hi
  rw [← hx, List.getElem?_take_of_lt (by omega)]
/-- A row of the call's own out of a literal: its first n elements. -/
theorem own_lit {e : TypeId} {g n m : Nat} {cs : Array Value} {base : Nat} (hk : ∀ x, (enc x).length = K) (hg : w.heap[g]? = some (.cells cs e (0, 0))) (hb : base ≤ g) (hcs : cs.toList = xs.flatMap enc) (hm : xs.length = m) (hn : n ≤ m) (hmax : m ≤ maxLen) :
    w.ownsRow base e K (.slice (some ⟨g, 0, none⟩) n m) n ((xs.take n).flatMap enc) := by
  have hl : (xs.take n).length = n := by rw [List.length_take]; omega
  refine ⟨by rw [flat_len hk, hl], .inr ⟨g, m, cs, rfl, hb, hg, hn, hmax, ?_, ?_⟩⟩
  · rw [← Array.length_toList, hcs, flat_len hk, hm]
  · rw [hcs]
    have e1 : xs.flatMap enc = (xs.take n).flatMap enc ++ (xs.drop n).flatMap enc := by rw [← List.flatMap_append, List.take_append_drop]
    rw [e1, List.take_append_of_le_length (by rw [flat_len hk, hl]; exact Nat.le_refl _), List.take_of_length_le (by rw [flat_len hk, hl]; exact Nat.le_refl _)]
end
end Go.Proofs.YtbjbeddjaajdaaaGreatDoor
/- What is handed out: the reference's. -/
namespace Go.Proofs.YtbjbeddjaajdaaaGreatDoor
open Go.RowKit Go.Sort Go.Proofs Go.Shelf

theorem run_make_ints (n : Nat) (hn : n ≤ 100000) (w : World) : (Instr.makeSlice 22 (.int .i64 (n : Int)) (.int .i64 (n : Int))).run Tryz.prog w = .ok (.slice (some ⟨w.heap.size, 0, none⟩) n n) (w.alloc (.cells (madeCells #[.int .i64 0] n) 3)) := by
  obtain ⟨i, h1, h2, h3, h4⟩ := info_parts (show (Tryz.prog.info? 3).map (fun i => (i.zero, i.size, i.bytes)) = some (some (.int .i64 0), 1, 8) by kernel_rfl)
  have h := run_make (P := Tryz.prog) w 22 3 i (.int .i64 0) Tryz.underlying22 h1 h2 .i64 .i64 (n : Int) (n : Int) (by omega) (by omega) (by rw [h4]; omega) (by omega)
  rw [h]
  simp [h3, Value.cells]
theorem made_ints (n : Nat) : (madeCells #[.int .i64 0] n).toList = (List.replicate n (0 : Int)).flatMap encI := by
  rw [toList_madeCells_one]
  induction n with
  | zero => rfl
  | succ n ih => rw [List.replicate_succ, List.replicate_succ, List.flatMap_cons, ih]; rfl
theorem own_made (w : World) (n base : Nat) (hn : n ≤ 100000) (hb : base ≤ w.heap.size) {Z : Array Value} (hZ : Z.toList = (List.replicate n (0 : Int)).flatMap encI) : (w.alloc (.cells Z 3)).ownsRow base 3 1 (.slice (some ⟨w.heap.size, 0, none⟩) n n) n ((List.replicate n (0 : Int)).flatMap encI) := by
  have := own_lit (w := w.alloc (.cells Z 3)) (e := 3) (g := w.heap.size) (n := n) (m := n) (base := base) (xs := List.replicate n (0 : Int)) encI_len (hnew rfl) hb hZ (by simp) (Nat.le_refl _) (by unfold maxLen; omega)
  rwa [List.take_of_length_le (by simp)] at this
/-- A list filled up to k, the rest 0. -/
def fillN (L : List Int) (k : Nat) : List Int := L.take k ++ List.replicate (L.length - k) 0
theorem fillN_len (L : List Int) (k : Nat) (hk : k ≤ L.length) : (fillN L k).length = L.length := by unfold fillN; simp; omega
theorem fillN_zero (L : List Int) : fillN L 0 = List.replicate L.length 0 := by simp [fillN]
theorem fillN_all (L : List Int) : fillN L L.length = L := by simp [fillN]
theorem fillN_set (L : List Int) (k : Nat) (hk : k < L.length) : (fillN L k).set k L[k] = fillN L (k + 1) := by
  unfold fillN
  obtain ⟨m, hm⟩ : ∃ m, L.length - k = m + 1 := ⟨L.length - k - 1, by omega⟩
  have hm2 : L.length - (k + 1) = m := by omega
  have hl : (L.take k).length = k := by rw [List.length_take]; omega
  rw [hm, hm2, List.replicate_succ, List.set_append_right _ _ (by omega), hl, Nat.sub_self, List.set_cons_zero, List.take_succ_eq_append_getElem hk, List.append_assoc]; rfl
/-- The first of the greatest of the first k. -/
structure FM (cs : List Int) (k b : Nat) : Prop where
  at_ : b < cs.length
  in_ : b < k ∨ (k = 0 ∧ b = 0)
  up : ∀ j, j < k → cs.getD j 0 < cs.getD b 0 ∨ (cs.getD j 0 = cs.getD b 0 ∧ b ≤ j)
theorem FM.start {cs : List Int} (h : 0 < cs.length) : FM cs 0 0 := ⟨h, .inr ⟨rfl, rfl⟩, fun j hj => by omega⟩
theorem FM.more {cs : List Int} {k b : Nat} (h : FM cs k b) (hk : k < cs.length) (hlt : cs.getD b 0 < cs.getD k 0) : FM cs (k + 1) k :=
  ⟨hk, .inl (by omega), fun j hj => by
    rcases Nat.lt_or_ge j k with h1 | h1
    · have := h.up j h1; omega
    · have e : j = k := by omega
      subst e; exact .inr ⟨rfl, Nat.le_refl _⟩⟩
theorem FM.same {cs : List Int} {k b : Nat} (h : FM cs k b) (hlt : ¬ cs.getD b 0 < cs.getD k 0) : FM cs (k + 1) b :=
  ⟨h.at_, .inl (by have := h.in_; omega), fun j hj => by
    rcases Nat.lt_or_ge j k with h1 | h1
    · exact h.up j h1
    · have e : j = k := by omega
      subst e
      have := h.in_
      omega⟩
theorem FM.done {cs : List Int} {b : Nat} (h : FM cs cs.length b) : FirstMax cs b := ⟨h.at_, h.up⟩
theorem getD_at {l : List Int} {k : Nat} (h : k < l.length) : l.getD k 0 = l[k] := by rw [List.getD_eq_getElem?_getD, List.getElem?_eq_getElem h]; rfl

end Go.Proofs.YtbjbeddjaajdaaaGreatDoor
/- Bits of small numbers, in the walk's spelling. -/
namespace Go.Proofs.YtbjbeddjaajdaaaGreatDoor
open Go

theorem bits_and_i64 (a b : Nat) (ha : a < 4294967296) (hb : b < 4294967296) : bits .and .i64 (a : Int) (b : Int) = ((a &&& b : Nat) : Int) := by
  have hx : a &&& b < 2 ^ 32 := Nat.and_lt_two_pow _ (by omega)
  have h1 : (BitVec.ofInt 64 (a : Int)).toNat = a := by
    rw [BitVec.ofInt_natCast, BitVec.toNat_ofNat]; exact Nat.mod_eq_of_lt (by omega)
  have h2 : (BitVec.ofInt 64 (b : Int)).toNat = b := by
    rw [BitVec.ofInt_natCast, BitVec.toNat_ofNat]; exact Nat.mod_eq_of_lt (by omega)
  show IntKind.i64.wrap ((BitVec.ofInt 64 (a : Int) &&& BitVec.ofInt 64 (b : Int)).toNat : Int) = _
  rw [BitVec.toNat_and, h1, h2, IntKind.wrap_i64]
  omega
theorem bits_or_i64 (a b : Nat) (ha : a < 4294967296) (hb : b < 4294967296) : bits .or .i64 (a : Int) (b : Int) = ((a ||| b : Nat) : Int) := by
  have hx : a ||| b < 2 ^ 32 := Nat.or_lt_two_pow (by omega) (by omega)
  have h1 : (BitVec.ofInt 64 (a : Int)).toNat = a := by
    rw [BitVec.ofInt_natCast, BitVec.toNat_ofNat]; exact Nat.mod_eq_of_lt (by omega)
  have h2 : (BitVec.ofInt 64 (b : Int)).toNat = b := by
    rw [BitVec.ofInt_natCast, BitVec.toNat_ofNat]; exact Nat.mod_eq_of_lt (by omega)
  show IntKind.i64.wrap ((BitVec.ofInt 64 (a : Int) ||| BitVec.ofInt 64 (b : Int)).toNat : Int) = _
  rw [BitVec.toNat_or, h1, h2, IntKind.wrap_i64]
  omega
theorem div_pow (g i : Nat) : (g : Int) / 2 ^ i = ((g / 2 ^ i : Nat) : Int) := by
  rw [Int.natCast_ediv, Int.natCast_pow]; rfl
theorem bit_le (g i : Nat) : bitN g i = 0 ∨ bitN g i = 1 := by unfold bitN; omega
theorem and_bit (g i : Nat) (hg : g < 4294967296) : bits .and .i64 ((g : Int) / 2 ^ i) 1 = ((bitN g i : Nat) : Int) := by
  rw [div_pow]
  have h : g / 2 ^ i < 4294967296 := Nat.lt_of_le_of_lt (Nat.div_le_self _ _) hg
  have := bits_and_i64 (g / 2 ^ i) 1 h (by omega)
  rw [Nat.and_one_is_mod] at this
  exact this
theorem mod_bit (g i : Nat) : ((g : Int) / 2 ^ i) % 2 = ((bitN g i : Nat) : Int) := by
  rw [div_pow]; unfold bitN; omega
theorem tmod_bit (g i : Nat) : ((g : Int) / 2 ^ i).tmod 2 = ((bitN g i : Nat) : Int) := by
  rw [div_pow]
  unfold bitN
  generalize g / 2 ^ i = z
  rw [Int.tmod_eq_emod_of_nonneg (by omega)]
  omega
theorem or_small : ∀ (g : Fin 64) (i : Fin 6), bitN g.val i.val = 0 → (g.val ||| 2 ^ i.val) = g.val + 2 ^ i.val := by decide +kernel
theorem or_bit (g i : Nat) (hg : g < 64) (hi : i < 6) (h0 : bitN g i = 0) : bits .or .i64 (g : Int) (2 ^ i) = ((g + 2 ^ i : Nat) : Int) := by
  have hp : 2 ^ i < 64 := by
    have : 2 ^ i ≤ 2 ^ 5 := Nat.pow_le_pow_right (by omega) (by omega)
    omega
  have e : ((2 : Int) ^ i) = ((2 ^ i : Nat) : Int) := by rw [Int.natCast_pow]; rfl
  rw [e, bits_or_i64 g (2 ^ i) (by omega) (by omega), or_small ⟨g, hg⟩ ⟨i, hi⟩ h0]
theorem add_lt_small : ∀ (n : Fin 7) (g : Fin 64) (i : Fin 6), g.val < 2 ^ n.val → i.val < n.val → bitN g.val i.val = 0 → g.val + 2 ^ i.val < 2 ^ n.val := by decide +kernel
theorem szN_small : ∀ (n : Fin 7) (g : Fin 64) (i : Fin 6), i.val < n.val → bitN g.val i.val = 0 → szN n.val g.val + 1 ≤ n.val := by decide +kernel
theorem szN_le (n g : Nat) : szN n g ≤ n := by
  induction n with
  | zero => simp [szN]
  | succ n ih => have := bit_le g n; simp only [szN]; omega
end Go.Proofs.YtbjbeddjaajdaaaGreatDoor
/- Groups that would pay less alone. -/
namespace Go.Proofs.YtbjbeddjaajdaaaGreatDoor
open Go.RowKit Go.Sort Go.Proofs Go.Shelf

theorem el_S : ElemOf Tryz.prog 34 9 1 16 := ElemOf.mk' (z := .string ByteArray.empty) Tryz.underlying34 (by kernel_rfl) rfl
theorem encS_len (x : ByteArray) : (encS x).length = 1 := rfl
theorem encS_one (x : ByteArray) : ∀ v ∈ encS x, v.oneCell' = true := by
  intro v hv; simp [encS] at hv; subst hv; rfl
theorem sumG_bd (cs : List Int) (hc : ∀ x ∈ cs, -1000000000 ≤ x ∧ x ≤ 1000000000) (g k : Nat) : -(k * 1000000000 : Int) ≤ sumG cs g k ∧ sumG cs g k ≤ k * 1000000000 := by
  induction k with
  | zero => simp [sumG]
  | succ k ih =>
    have h : -1000000000 ≤ cs.getD k 0 ∧ cs.getD k 0 ≤ 1000000000 := by
      rw [List.getD_eq_getElem?_getD]
      cases h : cs[k]? with
      | none => simp
      | some x => exact hc x (List.mem_of_getElem? h)
    have e : ((k + 1 : Nat) : Int) = (k : Int) + 1 := by omega
    simp only [sumG]
    split <;> omega
theorem whoTo_len (rides : List ByteArray) (g k : Nat) : (whoTo rides g k).length ≤ k := by
  induction k with
  | zero => exact Nat.le_refl _
  | succ k ih =>
    simp only [whoTo]
    split
    · rw [List.length_append]; simp; omega
    · omega
theorem gainL_drop (rides : List ByteArray) (ct cs : List Int) (m g : Nat) (hg : g < m) : gainL rides ct cs ((List.range m).drop g) = if cs.getD g 0 < sumG ct g rides.length then whoTo rides g rides.length else gainL rides ct cs ((List.range m).drop (g + 1)) := by
  rw [List.drop_eq_getElem_cons (by simpa using hg)]
  simp [gainL]
/-- The first group that would pay less. -/
def gainV (rides : List ByteArray) (cs : List Int) (ds : List Due) : List ByteArray := gainL rides (ds.map (·.cents)) cs (List.range (2 ^ rides.length))
/-- Keys, or a fault. -/
def KeysU (F : Int) (who : List ByteArray) (w : World) (e : Ending) (w' : World) : Prop :=
  ∃ (A : Option Addr) (c : Nat) (zs : List ByteArray), e = .returned (.tuple #[.slice A zs.length c, .int .i64 F]) ∧ zs = (if F = 0 then who else []) ∧ Rd w' w.heap.size A 1 encS zs ∧ Nx w w'
theorem KeysU.no {F : Int} {who : List ByteArray} {w w' : World} (h : F ≠ 0) (hn : Nx w w') : KeysU F who w (.returned (.tuple #[.slice none 0 0, .int .i64 F])) w' := ⟨none, 0, [], rfl, by rw [if_neg h], Rd.nil, hn⟩

theorem duesF_right {l : List ByteArray} {ds : List Due} (h : duesF l ds = 0) : l = ds.map (·.key) ∧ ds.any badD = false := by
  unfold duesF at h
  by_cases h1 : l = ds.map (·.key)
  · rw [if_pos h1] at h
    cases h2 : ds.any badD
    · exact ⟨h1, rfl⟩
    · rw [show (ds.any fun d => outB d.cents (-maxCt) maxCt) = true from h2] at h; simp at h
  · rw [if_neg h1] at h; omega
theorem fairF_right {l : List ByteArray} {cs : List Int} (h : fairF l cs = 0) : l.length ≤ 10 ∧ cs.length = 2 ^ l.length ∧ cs.getD 0 0 = 0 ∧ ∀ x ∈ cs, 0 ≤ x ∧ x ≤ 1000000000 := by
  unfold fairF at h
  by_cases h1 : keysF l = 0
  · rw [if_pos h1] at h
    by_cases h2 : cs.length = 2 ^ l.length
    · rw [if_pos h2] at h
      by_cases h3 : cs.getD 0 0 ≠ 0 ∨ cs.any centB = true
      · rw [if_pos h3] at h; omega
      · refine ⟨keysF_len h1, h2, Classical.byContradiction fun h4 => h3 (.inl h4), fun x hx => centB_bd ?_⟩
        cases h5 : centB x
        · rfl
        · exact absurd (.inr (List.any_eq_true.2 ⟨x, hx, h5⟩)) h3
    · rw [if_neg h2] at h; omega
  · rw [if_neg h1] at h; exact absurd h h1
theorem badD_bd {ds : List Due} (h : ds.any badD = false) : ∀ x ∈ ds.map (·.cents), -1000000000 ≤ x ∧ x ≤ 1000000000 := by
  intro x hx
  obtain ⟨d, hd, rfl⟩ := List.mem_map.1 hx
  have : badD d = false := by
    cases h1 : badD d
    · rfl
    · exact absurd (List.any_eq_true.2 ⟨d, hd, h1⟩) (by rw [h]; simp)
  have := outB_false.1 this
  unfold maxCt at this
  exact this

theorem bit_zero (i : Nat) : bitN 0 i = 0 := by unfold bitN; simp
theorem sumG_zero (cs : List Int) (k : Nat) : sumG cs 0 k = 0 := by
  induction k with
  | zero => rfl
  | succ k ih => simp only [sumG]; rw [bit_zero, if_neg (by omega), ih]
end Go.Proofs.YtbjbeddjaajdaaaGreatDoor
/- A whole shared fairly: the reference's. -/
namespace Go.Proofs.YtbjbeddjaajdaaaGreatDoor
open Go.RowKit Go.Sort Go.Proofs Go.Shelf

def factL (k : Nat) : List Int := (List.range k).map (fun j => ((factN j : Nat) : Int))
theorem factL_len (k : Nat) : (factL k).length = k := by simp [factL]
theorem factL_snoc (k : Nat) : factL (k + 1) = factL k ++ [((factN k : Nat) : Int)] := by unfold factL; rw [List.range_succ, List.map_append]; rfl
theorem factL_get (k j : Nat) (h : j < (factL k).length) : (factL k)[j] = ((factN j : Nat) : Int) := by simp [factL]
theorem factN_bd : ∀ j : Fin 8, 1 ≤ factN j.val ∧ factN j.val ≤ 5040 := by decide
theorem fact_bd (j : Nat) (h : j ≤ 7) : 1 ≤ factN j ∧ factN j ≤ 5040 := factN_bd ⟨j, by omega⟩
theorem w_small : ∀ (n : Fin 7) (s : Fin 7), s.val + 1 ≤ n.val → factN s.val * factN (n.val - 1 - s.val) ≤ 120 := by decide
theorem wN_bd (n g : Nat) (hn : n ≤ 6) (hs : szN n g + 1 ≤ n) : wN n g ≤ 120 := by
  unfold wN
  exact w_small ⟨n, by omega⟩ ⟨szN n g, by omega⟩ hs
theorem getD_bd {cs : List Int} (h : ∀ x ∈ cs, 0 ≤ x ∧ x ≤ 1000000000) (k : Nat) : 0 ≤ cs.getD k 0 ∧ cs.getD k 0 ≤ 1000000000 := by
  rw [List.getD_eq_getElem?_getD]
  cases h1 : cs[k]? with
  | none => simp
  | some x => exact h x (List.mem_of_getElem? h1)
theorem szN_at (n g i : Nat) (hn : n ≤ 6) (hg : g < 64) (hi : i < n) (h0 : bitN g i = 0) : szN n g + 1 ≤ n := szN_small ⟨n, by omega⟩ ⟨g, hg⟩ ⟨i, by omega⟩ hi h0
theorem term_bd (n : Nat) (hn : n ≤ 6) (cs : List Int) (h : ∀ x ∈ cs, 0 ≤ x ∧ x ≤ 1000000000) (g i : Nat) (hg : g < 64) (hi : i < n) : -120000000000 ≤ term n cs g i ∧ term n cs g i ≤ 120000000000 := by
  unfold term
  by_cases h0 : bitN g i = 0
  · rw [if_pos h0]
    have h1 := wN_bd n g hn (szN_at n g i hn hg hi h0)
    have h2 := getD_bd h (g + 2 ^ i)
    have h3 := getD_bd h g
    generalize cs.getD (g + 2 ^ i) 0 = a at *
    generalize cs.getD g 0 = b at *
    generalize wN n g = W at *
    have h4 : (W : Int) * (a - b) ≤ W * 1000000000 := Int.mul_le_mul_of_nonneg_left (by omega) (by omega)
    have h5 : (W : Int) * (-1000000000) ≤ W * (a - b) := Int.mul_le_mul_of_nonneg_left (by omega) (by omega)
    omega
  · rw [if_neg h0]; omega
theorem numTo_bd (n : Nat) (hn : n ≤ 6) (cs : List Int) (h : ∀ x ∈ cs, 0 ≤ x ∧ x ≤ 1000000000) (g i : Nat) (hg : g ≤ 64) (hi : i < n) : -(g * 120000000000 : Int) ≤ numTo n cs g i ∧ numTo n cs g i ≤ g * 120000000000 := by
  induction g with
  | zero => simp [numTo]
  | succ g ih =>
    have h1 := ih (by omega)
    have h2 := term_bd n hn cs h g i (by omega) hi
    simp only [numTo]
    omega
theorem numsF_len (n : Nat) (cs : List Int) (g : Nat) : (numsF n cs g).length = n := by simp [numsF]
theorem numsF_get (n : Nat) (cs : List Int) (g i : Nat) (h : i < (numsF n cs g).length) : (numsF n cs g)[i] = numTo n cs g i := by simp [numsF]
theorem set_self {L : List Int} {k : Nat} (hk : k < L.length) {x : Int} (h : L[k] = x) : L.set k x = L := by
  apply List.ext_getElem
  · simp
  · intro i h1 h2
    rw [List.getElem_set]
    split
    · rename_i e; subst e; exact h.symm
    · rfl
theorem fillN_at (L : List Int) (k : Nat) (hk : k < L.length) : (fillN L k)[k]'(by rw [fillN_len _ _ (by omega)]; exact hk) = 0 := by
  have hl : (L.take k).length = k := by rw [List.length_take]; omega
  unfold fillN
  rw [List.getElem_append_right (by omega)]
  simp

theorem encDue_len (x : Due) : (encDue x).length = 2 := rfl
theorem encDue_one (x : Due) : ∀ v ∈ encDue x, v.oneCell' = true := by
  intro v hv; simp [encDue] at hv; rcases hv with rfl | rfl <;> rfl
theorem made_dues (n : Nat) : (madeCells #[.string ByteArray.empty, .int .i64 0] (n * 2)).toList = (List.replicate n (⟨ByteArray.empty, 0⟩ : Due)).flatMap encDue := by
  apply List.ext_getElem?
  intro j
  by_cases hj : j < n * 2
  · have h1 : (madeCells #[.string ByteArray.empty, .int .i64 0] (n * 2)).toList[j]? = some (#[Value.string ByteArray.empty, .int .i64 0][j % 2]!) := by
      simp [madeCells, hj]
    have h2 : (List.replicate n (⟨ByteArray.empty, 0⟩ : Due))[j / 2]? = some ⟨ByteArray.empty, 0⟩ := by
      rw [List.getElem?_replicate, if_pos (by omega)]
    have hm : j % 2 = 0 ∨ j % 2 = 1 := by omega
    have e : j / 2 * 2 + j % 2 = j := by omega
    rcases hm with hm | hm
    · have := flat_get (xs := List.replicate n (⟨ByteArray.empty, 0⟩ : Due)) encDue_len (j / 2) _ h2 (j % 2) (.string ByteArray.empty) (by rw [hm]; rfl)
      rw [e] at this
      rw [h1, this, hm]; rfl
    · have := flat_get (xs := List.replicate n (⟨ByteArray.empty, 0⟩ : Due)) encDue_len (j / 2) _ h2 (j % 2) (.int .i64 0) (by rw [hm]; rfl)
      rw [e] at this
      rw [h1, this, hm]; rfl
  · rw [List.getElem?_eq_none (by simp [madeCells]; omega), List.getElem?_eq_none (by rw [flat_len encDue_len]; simp; omega)]
theorem Nx.cellS {a w : World} (h : Nx a w) {p : Addr} {v : Value} (hc : a.cell? p = some v) : w.cell? p = some v :=
  (Below.cell h (World.block_lt_of_cell? a _ hc)).trans hc
section
variable {α : Type}
/-- A list filled up to k, the rest d. -/
def fillG (d : α) (L : List α) (k : Nat) : List α := L.take k ++ List.replicate (L.length - k) d
theorem fillG_len (d : α) (L : List α) (k : Nat) (hk : k ≤ L.length) : (fillG d L k).length = L.length := by unfold fillG; simp; omega
theorem fillG_zero (d : α) (L : List α) : fillG d L 0 = List.replicate L.length d := by simp [fillG]
theorem fillG_all (d : α) (L : List α) : fillG d L L.length = L := by simp [fillG]
theorem fillG_set (d : α) (L : List α) (k : Nat) (hk : k < L.length) : (fillG d L k).set k L[k] = fillG d L (k + 1) := by
  unfold fillG
  obtain ⟨m, hm⟩ : ∃ m, L.length - k = m + 1 := ⟨L.length - k - 1, by omega⟩
  have hm2 : L.length - (k + 1) = m := by omega
  have hl : (L.take k).length = k := by rw [List.length_take]; omega
  rw [hm, hm2, List.replicate_succ, List.set_append_right _ _ (by omega), hl, Nat.sub_self, List.set_cons_zero, List.take_succ_eq_append_getElem hk, List.append_assoc]; rfl
theorem rd_own {w : World} {base g cap n K : Nat} {e : TypeId} {enc : α → List Value} {xs : List α} (hk : ∀ x, (enc x).length = K) (hn : xs.length = n) (h : w.ownsRow base e K (.slice (some ⟨g, 0, none⟩) n cap) n (xs.flatMap enc)) : Rd w base (some ⟨g, 0, none⟩) K enc xs := by
  obtain ⟨A, c, ev, hR, _⟩ := Rd.of_own hk hn.symm h
  injection ev with e1 _ _
  rw [e1]; exact hR
end
end Go.Proofs.YtbjbeddjaajdaaaGreatDoor
/- The stream's strings; clones. -/
namespace Go.Proofs.YtbjbeddjaajdaaaGreatDoor
open Go.RowKit Go.Sort Go.Proofs Go.Shelf

/-- A string of some list. -/
def StrSome (zs : List ByteArray) (s k : Nat) (w : World) (e : Ending) (w' : World) : Prop := ∃ r ∈ zs, e = .returned (.string r) ∧ Gr s w w' ∧ Str w' s k
set_option maxRecDepth 100000 in
set_option maxHeartbeats 400000 in
/-- 's.Some(..)' of strings that lie in a block of their own. -/
theorem w_Some (g : Nat) (zs : List ByteArray) (cs : Array Value) (s k : Nat) (w : World) (hS : Str w s k) (hk : k < 1000000) (hg : w.heap[g]? = some (.cells cs 9 (0, 0))) (hne : g ≠ s) (hcs : cs.toList = zs.map Value.string) (h0 : zs ≠ []) (h1 : zs.length < 1000) :
    Calls Tryz.prog 10 #[.pointer (some ⟨s, 0, none⟩), .slice (some ⟨g, 0, none⟩) zs.length zs.length] w (StrSome zs s (k + 1) w) := by
  have hl : cs.size = zs.length := by rw [← Array.length_toList, hcs, List.length_map]
  have hp := List.length_pos_iff.2 h0
  generalize hm : zs.length = m at *
  have HM := hide hm
  clear hm h0
  go_enter Tryz.func10, Tryz.ntmps10
  go_wp2_with (go_at_call 31; refine (w_Next _ _ _ _ hS hk (by omega)).mono ?_; rintro e w' ⟨r, hr1, hr2, rfl, hgr, hS'⟩; (obtain ⟨q, rfl⟩ := Int.eq_ofNat_of_zero_le hr1); (have hq : q < zs.length := by have := HM.out; omega); (have hcell : w'.cell? ⟨g, q, none⟩ = some (.string zs[q]) := World.grownBy.cell hgr ((cell_of_row w g q _ _ _ hg).trans (by rw [← Array.getElem?_toList, hcs, List.getElem?_map, List.getElem?_eq_getElem hq]; rfl)) (by simp; omega)))
  go_ret
  exact ⟨_, List.getElem_mem hq, rfl, hgr, hS'⟩

set_option maxRecDepth 100000 in
set_option maxHeartbeats 400000 in
theorem w_CloneS (lo : Nat) (A : Option Addr) (c : Nat) (l : List ByteArray) (w : World) (hR : Rd w lo A 1 encS l) (hl : l.length ≤ 100000) :
    Calls Tryz.prog 91 #[.slice A l.length c] w fun e w' => ∃ v, e = .returned v ∧ w'.ownsRow w.heap.size 9 1 v l.length (l.flatMap encS) ∧ Nx w w' := by
  have q22 : ∀ (w : World) (a : Option Addr) (n c n' c' : Nat), (binOp .eql 34 (.slice a n c) (.slice none n' c')).run Tryz.prog w = .ok (.bool a.isNone) w := fun w a n c n' c' => Lib.run_eql_slice_nil w _ _ a n c n' c' Tryz.underlying34
  cases A with
  | none =>
    have hy : l = [] := by
      rcases l with _ | ⟨y, l⟩
      · rfl
      · obtain ⟨b, off, e, _⟩ := hR (by simp); cases e
    subst hy
    go_enter Tryz.func91, Tryz.ntmps91
    go_wp2
    go_ret
    exact ⟨_, rfl, World.ownsRow_nil _ _ _ _, Nx.refl _⟩
  | some a =>
    have hst := own_lit (w := w.alloc (.cells #[] 9)) (e := 9) (g := w.heap.size) (n := 0) (m := 0) (base := w.heap.size) (xs := ([] : List ByteArray)) encS_len (hnew rfl) (Nat.le_refl _) rfl rfl (Nat.le_refl _) (by unfold maxLen; omega)
    have HST := hide hst
    have HR := hide hR
    clear hst hR
    generalize hn : l.length = n at *
    have HN := hide hn
    clear hn
    go_enter Tryz.func91, Tryz.ntmps91
    go_wp2_with (at_builtin; refine wpAppL rfl _ _ _ rfl el_S encS encS_len encS_one (by omega) (by omega) w.heap.size _ [] rfl HST.out (some a) c l (by rw [HN.out]; rfl) (HR.out.nx ((Nx.refl _).alloc _)) (by have := HN.out; simp; omega) (by simp) ?_; intro v2 w2 hown2 hg2)
    go_ret
    rw [List.nil_append, HN.out] at hown2
    refine ⟨_, rfl, hown2, ?_⟩
    exact ((Nx.refl w).alloc _).grown hg2 (own_blk_lt HST.out)

/-- Rides, and what their groups cost. -/
def StrCosts (s k : Nat) (w : World) (e : Ending) (w' : World) : Prop :=
  ∃ (A : Option Addr) (c : Nat) (l : List ByteArray) (B : Option Addr) (c' : Nat) (cs : List Int), e = .returned (.tuple #[.slice A l.length c, .slice B cs.length c']) ∧ l.length ≤ 6 ∧ Small l ∧ cs.length ≤ 40 ∧
    Rd w' w.heap.size A 1 encS l ∧ Rd w' w.heap.size B 1 encI cs ∧ Gr s w w' ∧ Str w' s k
def jaB : ByteArray := ⟨#[106, 97]⟩
def jL : List ByteArray := [⟨#[106, 97]⟩, ⟨#[106, 98]⟩, ⟨#[106, 99]⟩, ⟨#[106, 100]⟩, ⟨#[106, 101]⟩]
theorem jL_small (n : Nat) : Small (jL.take n) := by
  intro x hx
  have h := List.mem_of_mem_take hx
  simp [jL] at h
  rcases h with rfl | rfl | rfl | rfl | rfl <;> decide

theorem encFrac_len (x : Frac) : (encFrac x).length = 2 := rfl
theorem encFrac_one (x : Frac) : ∀ v ∈ encFrac x, v.oneCell' = true := by
  intro v hv; simp [encFrac] at hv; rcases hv with rfl | rfl <;> rfl
/-- Some steps. -/
def StrTiers (s k : Nat) (w : World) (e : Ending) (w' : World) : Prop :=
  ∃ (A : Option Addr) (c : Nat) (l : List Frac), e = .returned (.slice A l.length c) ∧ l.length ≤ 4 ∧ Rd w' w.heap.size A 2 encFrac l ∧ Gr s w w' ∧ Str w' s k
end Go.Proofs.YtbjbeddjaajdaaaGreatDoor
/- Knots: rows, clones. -/
namespace Go.Proofs.YtbjbeddjaajdaaaGreatDoor
open Go.RowKit Go.Proofs Go.Shelf

theorem el_Knot : ElemOf Tryz.prog 35 96 2 16 := ElemOf.mk' (z := .agg #[.int .i64 0, .int .i64 0]) Tryz.underlying35 (by kernel_rfl) rfl
theorem encKnot_one (x : Knot) : ∀ v ∈ encKnot x, v.oneCell' = true := by
  intro v hv; simp [encKnot] at hv; rcases hv with rfl | rfl <;> rfl
set_option maxRecDepth 100000 in
set_option maxHeartbeats 400000 in
theorem w_CloneK (lo : Nat) (A : Option Addr) (c : Nat) (l : List Knot) (w : World) (hR : Rd w lo A 2 encKnot l) (hl : l.length ≤ 100000) :
    Calls Tryz.prog 56 #[.slice A l.length c] w fun e w' => ∃ v, e = .returned v ∧ w'.ownsRow w.heap.size 96 2 v l.length (l.flatMap encKnot) ∧ Nx w w' := by
  have q22 : ∀ (w : World) (a : Option Addr) (n c n' c' : Nat), (binOp .eql 35 (.slice a n c) (.slice none n' c')).run Tryz.prog w = .ok (.bool a.isNone) w := fun w a n c n' c' => Lib.run_eql_slice_nil w _ _ a n c n' c' Tryz.underlying35
  cases A with
  | none =>
    have hy : l = [] := by
      rcases l with _ | ⟨y, l⟩
      · rfl
      · obtain ⟨b, off, e, _⟩ := hR (by simp); cases e
    subst hy
    go_enter Tryz.func56, Tryz.ntmps56
    go_wp2
    go_ret
    exact ⟨_, rfl, World.ownsRow_nil _ _ _ _, Nx.refl _⟩
  | some a =>
    have hst := own_lit (w := w.alloc (.cells #[] 96)) (e := 96) (g := w.heap.size) (n := 0) (m := 0) (base := w.heap.size) (xs := ([] : List Knot)) encKnot_len (hnew rfl) (Nat.le_refl _) rfl rfl (Nat.le_refl _) (by unfold maxLen; omega)
    have HST := hide hst
    have HR := hide hR
    clear hst hR
    generalize hn : l.length = n at *
    have HN := hide hn
    clear hn
    go_enter Tryz.func56, Tryz.ntmps56
    go_wp2_with (at_builtin; refine wpAppL rfl _ _ _ rfl el_Knot encKnot encKnot_len encKnot_one (by omega) (by omega) w.heap.size _ [] rfl HST.out (some a) c l (by rw [HN.out]; rfl) (HR.out.nx ((Nx.refl _).alloc _)) (by have := HN.out; simp; omega) (by simp) ?_; intro v2 w2 hown2 hg2)
    go_ret
    rw [List.nil_append, HN.out] at hown2
    refine ⟨_, rfl, hown2, ?_⟩
    exact ((Nx.refl w).alloc _).grown hg2 (own_blk_lt HST.out)

end Go.Proofs.YtbjbeddjaajdaaaGreatDoor
/- Roads in the making. -/
namespace Go.Proofs.YtbjbeddjaajdaaaGreatDoor
open Go.RowKit

theorem el_NodeO : ElemOf Tryz.prog 26 76 3 32 := ElemOf.mk' (z := .agg #[.string ByteArray.empty, .int .i64 0, .int .i64 0]) Tryz.underlying26 (by kernel_rfl) rfl
theorem el_ArcO : ElemOf Tryz.prog 27 37 5 80 := ElemOf.mk' (z := .agg #[.string ByteArray.empty, .string ByteArray.empty, .string ByteArray.empty, .int .i64 0, .slice none 0 0]) Tryz.underlying27 (by kernel_rfl) rfl
theorem el_BanO : ElemOf Tryz.prog 28 98 2 32 := ElemOf.mk' (z := .agg #[.string ByteArray.empty, .string ByteArray.empty]) Tryz.underlying28 (by kernel_rfl) rfl

def rowK (a : Arc) : Value := .slice a.ka a.knots.length a.kc
/-- An arc's strings are small, its knots few. -/
def SmA (a : Arc) : Prop := a.knots.length ≤ 400 ∧ a.key.size ≤ 1000000 ∧ a.from_.size ≤ 1000000 ∧ a.to_.size ≤ 1000000
/-- Three rows of the call's own, and each arc's knots in one. -/
structure OwnR (w : World) (base : Nat) (vN vA vB : Value) (ns : List Node) (rs : List Arc) (bs : List Ban) : Prop where
  rowN : w.ownsRow base 76 3 vN ns.length (ns.flatMap encNode)
  rowA : w.ownsRow base 37 5 vA rs.length (rs.flatMap encArc)
  rowB : w.ownsRow base 98 2 vB bs.length (bs.flatMap encBan)
  each : ∀ a ∈ rs, w.ownsRow base 96 2 (rowK a) a.knots.length (a.knots.flatMap encKnot)
  smN : SmallN ns
  smA : ∀ a ∈ rs, SmA a
section
variable {w w' : World} {base : Nat} {vN vA vB : Value} {ns : List Node} {rs : List Arc} {bs : List Ban}
theorem OwnR.nil (w : World) (base : Nat) : OwnR w base (.slice none 0 0) (.slice none 0 0) (.slice none 0 0) [] [] [] :=
  ⟨World.ownsRow_nil _ _ _ _, World.ownsRow_nil _ _ _ _, World.ownsRow_nil _ _ _ _, (fun _ h => absurd h (by simp)), (fun _ h => absurd h (by simp)), (fun _ h => absurd h (by simp))⟩
theorem OwnR.gr {s : Nat} (h : OwnR w base vN vA vB ns rs bs) (hn : Gr s w w') (hs : s < base) : OwnR w' base vN vA vB ns rs bs :=
  ⟨own_gr h.rowN hn hs, own_gr h.rowA hn hs, own_gr h.rowB hn hs, fun a ha => own_gr (h.each a ha) hn hs, h.smN, h.smA⟩
theorem OwnR.nx (h : OwnR w base vN vA vB ns rs bs) (hn : Nx w w') : OwnR w' base vN vA vB ns rs bs :=
  ⟨own_nx h.rowN hn, own_nx h.rowA hn, own_nx h.rowB hn, fun a ha => own_nx (h.each a ha) hn, h.smN, h.smA⟩
theorem OwnR.low {base' : Nat} (h : OwnR w base vN vA vB ns rs bs) (hb : base' ≤ base) : OwnR w base' vN vA vB ns rs bs :=
  ⟨h.rowN.mono hb, h.rowA.mono hb, h.rowB.mono hb, fun a ha => (h.each a ha).mono hb, h.smN, h.smA⟩
theorem OwnR.appN {v' : Value} {ns' : List Node} (h : OwnR w base vN vA vB ns rs bs) (hg : w.grownBy w' vN.ownBlock) (hown : w'.ownsRow base 76 3 v' ns'.length (ns'.flatMap encNode)) (hs : SmallN ns') : OwnR w' base v' vA vB ns' rs bs :=
  ⟨hown, h.rowA.kept hg (own_apart h.rowA h.rowN (by decide)), h.rowB.kept hg (own_apart h.rowB h.rowN (by decide)), fun a ha => (h.each a ha).kept hg (own_apart (h.each a ha) h.rowN (by decide)), hs, h.smA⟩
theorem OwnR.appA {v' : Value} {rs' : List Arc} (h : OwnR w base vN vA vB ns rs bs) (hg : w.grownBy w' vA.ownBlock) (hown : w'.ownsRow base 37 5 v' rs'.length (rs'.flatMap encArc)) (hk : ∀ a ∈ rs', SmA a ∧ w.ownsRow base 96 2 (rowK a) a.knots.length (a.knots.flatMap encKnot)) : OwnR w' base vN v' vB ns rs' bs :=
  ⟨h.rowN.kept hg (own_apart h.rowN h.rowA (by decide)), hown, h.rowB.kept hg (own_apart h.rowB h.rowA (by decide)), fun a ha => (hk a ha).2.kept hg (own_apart (hk a ha).2 h.rowA (by decide)), h.smN, fun a ha => (hk a ha).1⟩
theorem OwnR.appB {v' : Value} {bs' : List Ban} (h : OwnR w base vN vA vB ns rs bs) (hg : w.grownBy w' vB.ownBlock) (hown : w'.ownsRow base 98 2 v' bs'.length (bs'.flatMap encBan)) : OwnR w' base vN vA v' ns rs bs' :=
  ⟨h.rowN.kept hg (own_apart h.rowN h.rowB (by decide)), h.rowA.kept hg (own_apart h.rowA h.rowB (by decide)), hown, fun a ha => (h.each a ha).kept hg (own_apart (h.each a ha) h.rowB (by decide)), h.smN, h.smA⟩
theorem rd_ownK {K : Nat} {α : Type} {enc : α → List Value} {xs : List α} {e : TypeId} {A : Option Addr} {n c : Nat} (hk : ∀ x, (enc x).length = K) (hn : n = xs.length) (h : w.ownsRow base e K (.slice A n c) n (xs.flatMap enc)) : Rd w base A K enc xs := by
  obtain ⟨A', c', e', hr, _⟩ := Rd.of_own hk hn h
  injection e' with e1 e2 e3
  rw [e1]; exact hr
/-- Read. -/
theorem OwnR.rd (h : OwnR w base vN vA vB ns rs bs) : ∃ A B C ca cb cc, vN = .slice A ns.length ca ∧ vA = .slice B rs.length cb ∧ vB = .slice C bs.length cc ∧ Rd w base A 3 encNode ns ∧ RdArcs w base B rs ∧ Rd w base C 2 encBan bs := by
  obtain ⟨A, ca, e1, r1, _⟩ := Rd.of_own encNode_len rfl h.rowN
  obtain ⟨B, cb, e2, r2, _⟩ := Rd.of_own encArc_len rfl h.rowA
  obtain ⟨C, cc, e3, r3, _⟩ := Rd.of_own encBan_len rfl h.rowB
  exact ⟨A, B, C, ca, cb, cc, e1, e2, e3, r1, ⟨r2, fun a ha => ⟨rd_ownK encKnot_len rfl (h.each a ha), (h.smA a ha).1, (h.smA a ha).2.1⟩⟩, r3⟩
end

def nLs : List ByteArray := [⟨#[110, 97]⟩, ⟨#[110, 98]⟩, ⟨#[110, 99]⟩, ⟨#[110, 100]⟩, ⟨#[110, 101]⟩]
theorem nLs_small : ∀ x ∈ nLs, x.size ≤ 1000000 := by
  intro x hx
  simp [nLs] at hx
  rcases hx with rfl | rfl | rfl | rfl | rfl <;> decide
/-- The stream's roads in the making: the call began in w0. -/
structure RM (w0 : World) (s : Nat) (w : World) (vN vA vB : Value) (ns : List Node) (rs : List Arc) (bs : List Ban) (K : Nat) : Prop where
  own : OwnR w (w0.heap.size + 3) vN vA vB ns rs bs
  box : w.heap[w0.heap.size + 1]? = some (.cells #[vN, vA, vB] 30 (0, 0))
  res : ∃ cs, w.heap[w0.heap.size]? = some (.cells cs 30 (0, 0)) ∧ cs.size = 3
  lit : w.heap[w0.heap.size + 2]? = some (.cells (nLs.map Value.string).toArray 9 (0, 0))
  gr_ : Gr s w0 w
  str : Str w s K
  slt : s < w0.heap.size
section
variable {w0 w w' : World} {s K K' : Nat} {vN vA vB : Value} {ns : List Node} {rs : List Arc} {bs : List Ban}
theorem RM.gr (h : RM w0 s w vN vA vB ns rs bs K) (hn : Gr s w w') (hS : Str w' s K') : RM w0 s w' vN vA vB ns rs bs K' := by
  have hs := h.slt
  have hl : ∀ g o, w.heap[g]? = some o → g ≠ s → w'.heap[g]? = some o := fun g o hg hne => (World.grownBy.block (row := some s) hn g (Array.getElem?_eq_some_iff.1 hg).1 (by simp; omega)).trans hg
  obtain ⟨cs, h1, h2⟩ := h.res
  exact ⟨h.own.gr hn (by omega), hl _ _ h.box (by omega), ⟨cs, hl _ _ h1 (by omega), h2⟩, hl _ _ h.lit (by omega), h.gr_.trans hn, hS, hs⟩
theorem RM.nx (h : RM w0 s w vN vA vB ns rs bs K) (hn : Nx w w') : RM w0 s w' vN vA vB ns rs bs K := h.gr (Gr.of_nx hn) (h.str.nx hn)
theorem RM.more (h : RM w0 s w vN vA vB ns rs bs K) (hk : K ≤ K') : RM w0 s w vN vA vB ns rs bs K' := { h with str := h.str.more hk }
theorem RM.sz (h : RM w0 s w vN vA vB ns rs bs K) : w0.heap.size + 2 < w.heap.size := (Array.getElem?_eq_some_iff.1 h.lit).1
/-- A row is written, then the box. -/
theorem RM.set {v' : Value} {j : Nat} {b : Option Nat} (h : RM w0 s w vN vA vB ns rs bs K) (hg : w.grownBy w' b) (hb : ∀ k, b = some k → w0.heap.size + 3 ≤ k) {vN' vA' vB' : Value} {ns' : List Node} {rs' : List Arc} {bs' : List Ban}
    (ho : OwnR w' (w0.heap.size + 3) vN' vA' vB' ns' rs' bs') (he : (#[vN, vA, vB] : Array Value).setIfInBounds j v' = #[vN', vA', vB']) :
    RM w0 s (w'.setCell ⟨w0.heap.size + 1, j, none⟩ v') vN' vA' vB' ns' rs' bs' K := by
  have hs := h.slt
  have hl : ∀ g o, w.heap[g]? = some o → g < w0.heap.size + 3 → w'.heap[g]? = some o := fun g o hg2 hne => (World.grownBy.block hg g (Array.getElem?_eq_some_iff.1 hg2).1 (fun e => by have := hb g e.symm; omega)).trans hg2
  have hset : Gr (w0.heap.size + 1) w' (w'.setCell ⟨w0.heap.size + 1, j, none⟩ v') := (Gr.refl _ _).setS (.inl rfl) _
  have hl2 : ∀ g o, w'.heap[g]? = some o → g ≠ w0.heap.size + 1 → (w'.setCell ⟨w0.heap.size + 1, j, none⟩ v').heap[g]? = some o := fun g o hg2 hne => (World.grownBy.block (row := some (w0.heap.size + 1)) hset g (Array.getElem?_eq_some_iff.1 hg2).1 (by simp; omega)).trans hg2
  obtain ⟨cs, h1, h2⟩ := h.res
  refine ⟨ho.gr hset (by omega), ?_, ⟨cs, hl2 _ _ (hl _ _ h1 (by omega)) (by omega), h2⟩, hl2 _ _ (hl _ _ h.lit (by omega)) (by omega), ?_, ?_, hs⟩
  · rw [← he]; exact heap_set (hl _ _ h.box (by omega))
  · exact (h.gr_.grown hg (fun k hk => .inr (by have := hb k hk; omega))).setS (.inr (by show w0.heap.size ≤ w0.heap.size + 1; omega)) _
  · exact (h.str.row hg (fun k hk => by have := hb k hk; omega)).row hset (fun k hk => by injection hk with hk; omega)
theorem RM.cellN (h : RM w0 s w vN vA vB ns rs bs K) : w.cell? ⟨w0.heap.size + 1, 0, none⟩ = some vN := cell_of_row w _ 0 _ _ _ h.box
theorem RM.cellA (h : RM w0 s w vN vA vB ns rs bs K) : w.cell? ⟨w0.heap.size + 1, 1, none⟩ = some vA := cell_of_row w _ 1 _ _ _ h.box
theorem RM.cellB (h : RM w0 s w vN vA vB ns rs bs K) : w.cell? ⟨w0.heap.size + 1, 2, none⟩ = some vB := cell_of_row w _ 2 _ _ _ h.box
theorem RM.blk {b : Option Nat} (h : RM w0 s w vN vA vB ns rs bs K) (hg : w.grownBy w' b) (hb : ∀ k, b = some k → w0.heap.size + 3 ≤ k) : w'.heap[w0.heap.size + 1]? = some (.cells #[vN, vA, vB] 30 (0, 0)) :=
  (World.grownBy.block hg _ (Array.getElem?_eq_some_iff.1 h.box).1 (fun e => by have := hb _ e.symm; omega)).trans h.box
end
theorem frozen_blk {w : World} {g j : Nat} {cs : Array Value} {t : TypeId} (h : w.heap[g]? = some (.cells cs t (0, 0))) : w.frozen? ⟨g, j, none⟩ = false := by simp [World.frozen?, h]
theorem blkA (w : World) (o1 o2 : Obj) : ((w.alloc o1).alloc o2).drew.heap[w.heap.size]? = some o1 := (((Nx.refl (w.alloc o1)).alloc o2).block _ (by simp)).trans (hnew rfl)
theorem blkB (w : World) (o1 o2 : Obj) : ((w.alloc o1).alloc o2).drew.heap[w.heap.size + 1]? = some o2 := hnew_drew (by simp)
end Go.Proofs.YtbjbeddjaajdaaaGreatDoor
/- The stream's knots. -/
namespace Go.Proofs.YtbjbeddjaajdaaaGreatDoor
open Go.RowKit Go.Proofs Go.Shelf

/-- Some knots, in a row of the call's own. -/
def StrKnots (s k : Nat) (w : World) (e : Ending) (w' : World) : Prop :=
  ∃ (v : Value) (l : List Knot), e = .returned v ∧ w'.ownsRow w.heap.size 96 2 v l.length (l.flatMap encKnot) ∧ l.length ≤ 8 ∧ Gr s w w' ∧ Str w' s k
theorem int_of_mem {cs : List Value} (h : ∀ v ∈ cs, ∃ z : Int, v = .int .i64 z) {v : Value} (hv : v ∈ cs) : ∃ z : Int, v = .int .i64 z := h v hv

set_option maxRecDepth 100000 in
set_option maxHeartbeats 4000000 in
theorem w_knots (s k : Nat) (w : World) (hS : Str w s k) (hk : k < 700000) :
    Calls Tryz.prog 40 #[.pointer (some ⟨s, 0, none⟩)] w (StrKnots s (k + 20) w) := by
  have hsl := hS.lt
  go_enter Tryz.func40, Tryz.ntmps40
  go_wp2_with fail
  refine (w_Pick _ 5 _ _ _ _ (hS.nx ((Nx.refl _).alloc _)) (by omega) (hnew rfl) (by omega) rfl (by omega) (by omega)).mono ?_
  rintro e w1 ⟨v, hv, rfl, hg1, hS1⟩
  obtain ⟨b0, rfl⟩ : ∃ z : Int, v = .int .i64 z := by simp at hv; rcases hv with h | h | h | h | h <;> exact ⟨_, h⟩
  have hgr1 : Gr s w w1 := ((Gr.refl s w).alloc _).trans hg1
  have hsz1 := hgr1.sz
  have hown0 : (w1.alloc (.cells #[.int .i64 0, .int .i64 b0] 96)).ownsRow w.heap.size 96 2 (.slice (some ⟨w1.heap.size, 0, none⟩) 1 1) ([(⟨0, b0⟩ : Knot)]).length (([(⟨0, b0⟩ : Knot)]).flatMap encKnot) := own_lit (w := w1.alloc (.cells #[.int .i64 0, .int .i64 b0] 96)) (e := 96) (g := w1.heap.size) (n := 1) (m := 1) (base := w.heap.size) (xs := [(⟨0, b0⟩ : Knot)]) encKnot_len (hnew rfl) hsz1 rfl rfl (Nat.le_refl _) (by unfold maxLen; omega)
  have HO0 := hide hown0
  clear hown0 hv hg1
  have hS1s := hS1.lt
  go_wp2_with fail
  refine (w_Pick (w1.heap.size + 1) 4 _ _ _ _ ((hS1.nx ((Nx.refl _).alloc _)).nx ((Nx.refl _).alloc _)) (by omega) (hnew (by simp)) (by omega) rfl (by omega) (by omega)).mono ?_
  rintro e w2 ⟨v, hv, rfl, hg2, hS2⟩
  obtain ⟨a0, rfl⟩ : ∃ z : Int, v = .int .i64 z := by simp at hv; rcases hv with h | h | h | h <;> exact ⟨_, h⟩
  have hgr2 : Gr s (w1.alloc (.cells #[.int .i64 0, .int .i64 b0] 96)) w2 := ((Gr.refl s _).alloc _).trans hg2
  have HO2 := hide (own_gr HO0.out hgr2 hsl)
  have hgw2 : Gr s w w2 := (hgr1.alloc _).trans hgr2
  have hsz2 := hgw2.sz
  clear HO0 hv hg2 hgr2 hgr1 hS1
  go_wp2_with fail
  refine (w_PickI _ [0, 0, 1, 2, 3] _ _ _ _ (hS2.nx ((Nx.refl _).alloc _)) (by omega) (hnew rfl) (by omega) rfl (by simp) (by simp)).mono ?_
  rintro e w3 ⟨m, hm, rfl, hg3, hS3⟩
  obtain ⟨m, hm3, rfl⟩ : ∃ n : Nat, n ≤ 3 ∧ m = (n : Int) := by
    simp at hm
    rcases hm with h | h | h | h
    · exact ⟨0, by omega, h⟩
    · exact ⟨1, by omega, h⟩
    · exact ⟨2, by omega, h⟩
    · exact ⟨3, by omega, h⟩
  have hgr3 : Gr s w2 w3 := ((Gr.refl s _).alloc _).trans hg3
  have HO3 := hide (own_gr HO2.out hgr3 hsl)
  have hgw3 : Gr s w w3 := hgw2.trans hgr3
  clear hm HO2 hg3 hgr3 hgw2 hS2 hsz2
  go_wp2_with fail
  go_loopw [4, 5, 20] (fun v at_ i wr => ∃ (j : Nat) (l : List Knot) (a : Int), j ≤ m ∧ i = .int .i64 j ∧ at_ = .int .i64 a ∧ l.length = j + 1 ∧ wr.ownsRow w.heap.size 96 2 v l.length (l.flatMap encKnot) ∧ Gr s w wr ∧ Str wr s (k + 3 + 2 * j)) (fun _ _ i _ => m - (intOf i).toNat)
  case atStart => exact ⟨0, [⟨0, b0⟩], a0, Nat.zero_le _, rfl, rfl, rfl, HO3.out, hgw3, hS3⟩
  case round =>
    clear HO3 hgw3 hS3
    obtain ⟨j, l, a, hj, rfl, rfl, hll, hown, hgr, hSr⟩ := hrel
    by_cases hlt : j < m
    · obtain ⟨A4, c4, ev, hR4, hA4⟩ := Rd.of_own encKnot_len rfl hown
      have HOW := hide hown
      subst ev
      obtain ⟨b, off, rfl, _, hb, hbr, hc⟩ := hR4.open_ (Nx.refl wr) (by omega)
      have hjl : j < l.length := by omega
      have c0 : wr.cell? ⟨b, off + j * 2, none⟩ = some (.int .i64 l[j].at_) := hc j hjl 0 _ rfl
      have c1 : wr.cell? ⟨b, off + j * 2 + 1, none⟩ = some (.int .i64 l[j].time) := hc j hjl 1 _ rfl
      clear hc hown hR4
      generalize l[j].at_ = x1 at *
      generalize l[j].time = x2 at *
      rw [hll]
      have n1 : IntKind.i64.wrap (((j + 1 : Nat) : Int) - 1) = (j : Int) := by rw [IntWalk.i64_in _ (by omega)]; omega
      have n2 : (j : Int) < ((j + 1 : Nat) : Int) := by omega
      have hsr := hSr.lt
      have hgsz := hgr.sz
      go_upto_region 7 with fail
      obtain ⟨wk, hwk⟩ : ∃ wk, wk = wr.alloc (.cells #[.int .i64 x1, .int .i64 x2] 96) := ⟨_, rfl⟩
      have hnk : Nx wr wk := hwk ▸ (Nx.refl wr).alloc _
      have hsk : wr.heap.size < wk.heap.size := by rw [hwk]; simp
      have d0 : wk.cell? ⟨wr.heap.size, 0, none⟩ = some (.int .i64 x1) := by rw [hwk]; go_simp
      have d1 : wk.cell? ⟨wr.heap.size, 1, none⟩ = some (.int .i64 x2) := by rw [hwk]; go_simp
      rw [← hwk]
      have HWK := hide hwk
      have hSk := hSr.nx hnk
      have hgk := hgr.then_nx hnk
      have HOK := hide (own_nx HOW.out hnk)
      clear hwk c0 c1 hSr hgr HOW
      obtain ⟨bx, hbx⟩ : ∃ bx, bx = wr.heap.size := ⟨_, rfl⟩
      rw [← hbx] at hsk d0 d1 ⊢
      rw [← hbx] at hsr
      have HBX := hide hbx
      clear hbx hnk
      have hsk2 : s < wk.heap.size := by omega
      go_cut [7] (fun v wx => ∃ z : Int, v = .int .i64 z ∧ Gr s wk wx ∧ Str wx s (k + 3 + 2 * j + 1))
      case first =>
        go_region_held3 (fun w' => w'.cell? ⟨bx, 0, none⟩ = some (.int .i64 x1) ∧ w'.cell? ⟨bx, 1, none⟩ = some (.int .i64 x2))
          (first | (go_split_ands; exact ⟨World.grownBy.cell hg4 ‹_› (by simp; omega), World.grownBy.cell hg4 ‹_› (by simp; omega)⟩) | go_keep)
          (first
            | (go_at_call 7; refine (w_Pick wk.heap.size 7 _ _ _ _ (hSk.nx (((Nx.refl wk).alloc _).drew)) (by omega) (hnew_drew rfl) (by omega) rfl (by omega) (by omega)).mono ?_; rintro e w4 ⟨v, hv, rfl, hg4, hS4⟩; (obtain ⟨z, rfl⟩ : ∃ z : Int, v = .int .i64 z := by (simp at hv; rcases hv with h | h | h | h | h | h | h <;> exact ⟨_, h⟩))))
        go_wp2
        go_meet
        exact ⟨_, rfl, (((Gr.refl s wk).alloc _).drew).trans hg4, hS4⟩
      case rest =>
        obtain ⟨z, rfl, hg4, hS4⟩ := hcut
        have e0 := World.grownBy.cell hg4 d0 (by simp; omega)
        have e1 := World.grownBy.cell hg4 d1 (by simp; omega)
        have HO4 := hide (own_gr HOK.out hg4 hsl)
        have hg4w := hgk.trans hg4
        have hgsz4 := hg4w.sz
        clear d0 d1 HOK hg4 hgk hSk
        go_upto_region 8 with fail
        go_cut [57] (fun v wx => ∃ b : Bool, v = .bool b ∧ wc = wx)
        case first =>
          go_wp2_with fail
          all_goals
            go_meet
            exact ⟨_, rfl, rfl⟩
        case rest =>
          obtain ⟨bb, rfl, rfl⟩ := hcut
          go_upto_if 57 with fail
          go_cut [7] (fun v wx => ∃ z : Int, v = .int .i64 z ∧ wc = wx)
          case first =>
            cases bb
            all_goals
              go_wp2_with fail
              go_meet
              exact ⟨_, rfl, rfl⟩
          case rest =>
            obtain ⟨y, rfl, rfl⟩ := hcut
            clear e0 e1
            go_wp2_with (first
              | (at_builtin; refine wpApp rfl _ _ _ rfl el_Knot encKnot encKnot_len encKnot_one (by omega) (by omega) w.heap.size _ l (by rw [hll]; rfl) (HO4.out.alloc _) _ ⟨a, y⟩ _ rfl (hnew rfl) rfl (by omega) (by simp; omega) ?_; intro v5 w5 hown5 hg5)
              | fail)
            have hbl := own_blk_lt HO4.out
            have hS5 := (hS4.nx ((Nx.refl wc).alloc (.cells #[.int .i64 a, .int .i64 y] 96))).row hg5 (fun j hj => by have := hbl j hj; omega)
            have hg5w : Gr s w w5 := (hg4w.alloc _).grown hg5 (fun k hk => .inr (hbl k hk))
            have hs5 := hS5.lt
            have HO5 := hide hown5
            clear hown5 HO4
            refine (w_Pick w5.heap.size 5 _ _ _ _ (hS5.nx ((Nx.refl w5).alloc _)) (by omega) (hnew rfl) (by omega) rfl (by omega) (by omega)).mono ?_
            rintro e w6 ⟨v, hv, rfl, hg6, hS6⟩
            obtain ⟨z2, rfl⟩ : ∃ z : Int, v = .int .i64 z := by simp at hv; rcases hv with h | h | h | h | h <;> exact ⟨_, h⟩
            have hg56 : Gr s w5 w6 := ((Gr.refl s w5).alloc _).trans hg6
            have HO6 := hide (own_gr HO5.out hg56 hsl)
            go_wp2_with fail
            go_roundw
            case rel => exact ⟨j + 1, l ++ [⟨a, y⟩], _, by omega, by go_num, rfl, by rw [List.length_append, hll]; rfl, HO6.out, hg5w.trans hg56, hS6.more (by omega)⟩
            case measure => simp [intOf]; omega
    · go_wp2_with fail
      go_ret
      exact ⟨_, l, rfl, hown, by omega, hgr, hSr.more (by omega)⟩
end Go.Proofs.YtbjbeddjaajdaaaGreatDoor
/- Where a node or an arc is: the reference's search. -/
namespace Go.Proofs.YtbjbeddjaajdaaaGreatDoor
open Go.RowKit

set_option maxRecDepth 100000 in
set_option maxHeartbeats 1000000 in
theorem w_IndexFN (g : Nat) (p : Node → Bool) (cap : Value) (eg : Enters g) (lo : Nat) (A : Option Addr) (c : Nat) (l : List Node) (w : World) (hcl : ∀ (y : Node) W, Nx w W → Calls Tryz.prog g #[.agg #[.string y.key, .int .i64 y.x, .int .i64 y.y], cap] W fun e w' => e = .returned (.bool (p y)) ∧ Nx W w')
    (hR : Rd w lo A 3 encNode l) (hl : l.length ≤ 65536) :
    Calls Tryz.prog 117 #[.slice A l.length c, .func (.func g) #[] #[cap]] w fun e w' => e = .returned (.int .i64 (findI p l)) ∧ Nx w w' := by
  generalize hn : l.length = n at *
  have HR := hide hR
  have HN := hide hn
  have HC0 := hide hcl
  clear hR hn hcl
  unfold Enters at eg
  go_enter Tryz.func117, Tryz.ntmps117
  go_wp2
  go_loopw [5, 8] (fun _ i wr => ∃ k : Nat, k ≤ n ∧ i = .int .i64 k ∧ Nx w wr ∧ findI p l = idxP p (l.drop k) k) (fun _ i _ => n - (intOf i).toNat)
  case atStart => exact ⟨0, Nat.zero_le _, rfl, Nx.refl _, rfl⟩
  case round =>
    obtain ⟨k, hk, rfl, hbw, hq⟩ := hrel
    have HQ := hide hq
    clear hq
    by_cases hlt : k < n
    · have hlt' : k < l.length := by have := HN.out; omega
      obtain ⟨b, off, rfl, _, hb, hbr, hc⟩ := HR.out.open_ hbw (by omega)
      have c0 : wr.cell? ⟨b, off + k * 3, none⟩ = some (.string l[k].key) := hc k hlt' 0 _ rfl
      have c1 : wr.cell? ⟨b, off + k * 3 + 1, none⟩ = some (.int .i64 l[k].x) := hc k hlt' 1 _ rfl
      have c2 : wr.cell? ⟨b, off + k * 3 + 2, none⟩ = some (.int .i64 l[k].y) := hc k hlt' 2 _ rfl
      clear hc
      have HD := hide (idxP_drop p l k hlt')
      have hcl := fun W (h : Nx w W) => HC0.out l[k] W h
      generalize l[k] = y at *
      cases hbig : p y
      all_goals
        have HB := hide hbig
        rw [hbig] at hcl
        have HCL := hide hcl
        clear hbig hcl
        go_wp2_with (go_at_fn g; refine (HCL.out _ hbw).mono ?_; rintro e w2 ⟨rfl, hn2⟩)
      · go_roundw
        case rel => exact ⟨k + 1, by omega, by go_num, hbw.trans hn2, by rw [HQ.out, HD.out, HB.out, if_neg (by simp)]⟩
        case measure => simp [intOf]; omega
      · go_ret
        exact ⟨ret_int (by rw [HQ.out, HD.out, HB.out, if_pos rfl]), hbw.trans hn2⟩
    · go_wp2
      go_ret
      exact ⟨ret_int (by rw [HQ.out, List.drop_of_length_le (by have := HN.out; omega)]; rfl), hbw⟩
set_option maxRecDepth 100000 in
set_option maxHeartbeats 1000000 in
theorem w_IndexFA (g : Nat) (p : Arc → Bool) (cap : Value) (eg : Enters g) (lo : Nat) (A : Option Addr) (c : Nat) (l : List Arc) (w : World) (hcl : ∀ (y : Arc) W, Nx w W → Calls Tryz.prog g #[.agg #[.string y.key, .string y.from_, .string y.to_, .int .i64 y.long, .slice y.ka y.knots.length y.kc], cap] W fun e w' => e = .returned (.bool (p y)) ∧ Nx W w')
    (hR : Rd w lo A 5 encArc l) (hl : l.length ≤ 65536) :
    Calls Tryz.prog 127 #[.slice A l.length c, .func (.func g) #[] #[cap]] w fun e w' => e = .returned (.int .i64 (findI p l)) ∧ Nx w w' := by
  generalize hn : l.length = n at *
  have HR := hide hR
  have HN := hide hn
  have HC0 := hide hcl
  clear hR hn hcl
  unfold Enters at eg
  go_enter Tryz.func127, Tryz.ntmps127
  go_wp2
  go_loopw [5, 8] (fun _ i wr => ∃ k : Nat, k ≤ n ∧ i = .int .i64 k ∧ Nx w wr ∧ findI p l = idxP p (l.drop k) k) (fun _ i _ => n - (intOf i).toNat)
  case atStart => exact ⟨0, Nat.zero_le _, rfl, Nx.refl _, rfl⟩
  case round =>
    obtain ⟨k, hk, rfl, hbw, hq⟩ := hrel
    have HQ := hide hq
    clear hq
    by_cases hlt : k < n
    · have hlt' : k < l.length := by have := HN.out; omega
      obtain ⟨b, off, rfl, _, hb, hbr, hc⟩ := HR.out.open_ hbw (by omega)
      have c0 : wr.cell? ⟨b, off + k * 5, none⟩ = some (.string l[k].key) := hc k hlt' 0 _ rfl
      have c1 : wr.cell? ⟨b, off + k * 5 + 1, none⟩ = some (.string l[k].from_) := hc k hlt' 1 _ rfl
      have c2 : wr.cell? ⟨b, off + k * 5 + 2, none⟩ = some (.string l[k].to_) := hc k hlt' 2 _ rfl
      have c3 : wr.cell? ⟨b, off + k * 5 + 3, none⟩ = some (.int .i64 l[k].long) := hc k hlt' 3 _ rfl
      have c4 : wr.cell? ⟨b, off + k * 5 + 4, none⟩ = some (.slice l[k].ka l[k].knots.length l[k].kc) := hc k hlt' 4 _ rfl
      clear hc
      have HD := hide (idxP_drop p l k hlt')
      have hcl := fun W (h : Nx w W) => HC0.out l[k] W h
      generalize l[k] = y at *
      cases hbig : p y
      all_goals
        have HB := hide hbig
        rw [hbig] at hcl
        have HCL := hide hcl
        clear hbig hcl
        go_wp2_with (go_at_fn g; refine (HCL.out _ hbw).mono ?_; rintro e w2 ⟨rfl, hn2⟩)
      · go_roundw
        case rel => exact ⟨k + 1, by omega, by go_num, hbw.trans hn2, by rw [HQ.out, HD.out, HB.out, if_neg (by simp)]⟩
        case measure => simp [intOf]; omega
      · go_ret
        exact ⟨ret_int (by rw [HQ.out, HD.out, HB.out, if_pos rfl]), hbw.trans hn2⟩
    · go_wp2
      go_ret
      exact ⟨ret_int (by rw [HQ.out, List.drop_of_length_le (by have := HN.out; omega)]; rfl), hbw⟩

theorem w_NodeAt1 (s : ByteArray) (y : Node) (q : Nat) (w : World) (hq : w.cell? ⟨q, 0, none⟩ = some (.string s)) (hql : q < w.heap.size) :
    Calls Tryz.prog 118 #[.agg #[.string y.key, .int .i64 y.x, .int .i64 y.y], .pointer (some ⟨q, 0, none⟩)] w fun e w' => e = .returned (.bool (decide (y.key = s))) ∧ Nx w w' := by
  have hq2 : ∀ o, (w.alloc o).cell? ⟨q, 0, none⟩ = some (.string s) := fun o => nx_cell ((Nx.refl w).alloc o) hql hq
  go_enter Tryz.func118, Tryz.ntmps118
  go_wp2
  go_ret
  exact ⟨congrArg (fun b => Ending.returned (.bool b)) (eqS_iff _ _), (Nx.refl _).alloc _⟩
set_option maxHeartbeats 1000000 in
theorem w_NodeAt (lo : Nat) (A B C : Option Addr) (n1 n2 c1 c2 c3 : Nat) (l : List Node) (s : ByteArray) (w : World) (hR : Rd w lo A 3 encNode l) (hl : l.length ≤ 65536) :
    Calls Tryz.prog 59 #[.agg #[.slice A l.length c1, .slice B n1 c2, .slice C n2 c3], .string s] w fun e w' => e = .returned (.int .i64 (nodeI l s)) ∧ Nx w w' := by
  obtain ⟨wa, hwa⟩ : ∃ wa, wa = (w.alloc (.cells #[.slice A l.length c1, .slice B n1 c2, .slice C n2 c3] 30)).alloc (.cells #[.string s] 9) := ⟨_, rfl⟩
  have hna : Nx w wa := hwa ▸ ((Nx.refl w).alloc _).alloc _
  have hsz : wa.heap.size = w.heap.size + 1 + 1 := by rw [hwa]; simp
  have hq : wa.cell? ⟨w.heap.size + 1, 0, none⟩ = some (.string s) := by rw [hwa]; go_simp
  have hf : wa.cell? ⟨w.heap.size, 0, none⟩ = some (.slice A l.length c1) := by rw [hwa]; go_simp
  have HB := hide (w_IndexFN 118 (fun y => decide (y.key = s)) (.pointer (some ⟨w.heap.size + 1, 0, none⟩)) (enters_of Tryz.func118 (by kernel_rfl) rfl) lo A c1 l wa
    (fun y W h => w_NodeAt1 s y _ W (nx_cell h (by omega) hq) (Nat.lt_of_lt_of_le (by omega) h.sz)) (hR.nx hna) hl)
  clear hR hq
  generalize l.length = n at *
  go_enter Tryz.func59, Tryz.ntmps59
  go_wp2_with fail
  rw [← hwa]
  have HWA := hide hwa
  clear hwa
  go_wp2_with (go_at_call 117; refine HB.out.mono ?_; rintro e w2 ⟨rfl, hn2⟩)
  go_ret
  exact ⟨rfl, hna.trans hn2⟩

theorem w_ArcAt1 (s : ByteArray) (y : Arc) (q : Nat) (w : World) (hq : w.cell? ⟨q, 0, none⟩ = some (.string s)) (hql : q < w.heap.size) :
    Calls Tryz.prog 128 #[.agg #[.string y.key, .string y.from_, .string y.to_, .int .i64 y.long, .slice y.ka y.knots.length y.kc], .pointer (some ⟨q, 0, none⟩)] w fun e w' => e = .returned (.bool (decide (y.key = s))) ∧ Nx w w' := by
  have hq2 : ∀ o, (w.alloc o).cell? ⟨q, 0, none⟩ = some (.string s) := fun o => nx_cell ((Nx.refl w).alloc o) hql hq
  go_enter Tryz.func128, Tryz.ntmps128
  go_wp2
  go_ret
  exact ⟨congrArg (fun b => Ending.returned (.bool b)) (eqS_iff _ _), (Nx.refl _).alloc _⟩
set_option maxHeartbeats 1000000 in
theorem w_ArcAt (lo : Nat) (A B C : Option Addr) (n1 n2 c1 c2 c3 : Nat) (l : List Arc) (s : ByteArray) (w : World) (hR : Rd w lo B 5 encArc l) (hl : l.length ≤ 65536) :
    Calls Tryz.prog 76 #[.agg #[.slice A n1 c1, .slice B l.length c2, .slice C n2 c3], .string s] w fun e w' => e = .returned (.int .i64 (arcI l s)) ∧ Nx w w' := by
  obtain ⟨wa, hwa⟩ : ∃ wa, wa = (w.alloc (.cells #[.slice A n1 c1, .slice B l.length c2, .slice C n2 c3] 30)).alloc (.cells #[.string s] 9) := ⟨_, rfl⟩
  have hna : Nx w wa := hwa ▸ ((Nx.refl w).alloc _).alloc _
  have hsz : wa.heap.size = w.heap.size + 1 + 1 := by rw [hwa]; simp
  have hq : wa.cell? ⟨w.heap.size + 1, 0, none⟩ = some (.string s) := by rw [hwa]; go_simp
  have hf : wa.cell? ⟨w.heap.size, 1, none⟩ = some (.slice B l.length c2) := by rw [hwa]; go_simp
  have HB := hide (w_IndexFA 128 (fun y => decide (y.key = s)) (.pointer (some ⟨w.heap.size + 1, 0, none⟩)) (enters_of Tryz.func128 (by kernel_rfl) rfl) lo B c2 l wa
    (fun y W h => w_ArcAt1 s y _ W (nx_cell h (by omega) hq) (Nat.lt_of_lt_of_le (by omega) h.sz)) (hR.nx hna) hl)
  clear hR hq
  generalize l.length = n at *
  go_enter Tryz.func76, Tryz.ntmps76
  go_wp2_with fail
  rw [← hwa]
  have HWA := hide hwa
  clear hwa
  go_wp2_with (go_at_call 127; refine HB.out.mono ?_; rintro e w2 ⟨rfl, hn2⟩)
  go_ret
  exact ⟨rfl, hna.trans hn2⟩
end Go.Proofs.YtbjbeddjaajdaaaGreatDoor
