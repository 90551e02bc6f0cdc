/- fare.Divide, whatever it is handed; what is wrong with parts; 'priced' answers true. -/
import Derived.Test.YtfnbmcinbmbehaaGreatDoorQDivB
import Derived.Test.YtfnbmcinbmbehaaGreatDoorQG4
import Derived.Test.YtfnbmcinbmbehaaGreatDoorQG0
import Derived.Test.YtfnbmcinbmbehaaGreatDoorQG5
import Derived.Laws.OwnMore
import Derived.Laws.Bits64
import Derived.WalkKit
import Derived.IntWalk
import Derived.Test.YtfnbmcinbmbehaaGreatDoorQG3
namespace Go.Proofs.YtfnbmcinbmbehaaGreatDoor
open Go.RowKit Go.Sort Go.Proofs Go.Shelf

theorem partsF_cents {cents : Int} {parts : List Int} (h : centB cents = true) : partsF cents parts = 1 := by unfold partsF; rw [h]; rfl
theorem partsF_any {cents : Int} {parts : List Int} (h : centB cents = false) (h2 : parts.length < 20) (h3 : parts.any centB = true) : partsF cents parts = 1 := by
  unfold partsF; rw [h, h3]; simp; omega
theorem partsF_sum {cents : Int} {parts : List Int} (h : centB cents = false) (h2 : parts.length < 20) (h3 : parts.any centB = false) : partsF cents parts = if sumL parts = 0 then 8 else 0 := by
  unfold partsF; rw [h, h3]; simp; omega
theorem any_at {l : List Int} {p : Int → Bool} {k : Nat} (hk : k < l.length) (h : p l[k] = true) : l.any p = true := List.any_eq_true.2 ⟨_, List.getElem_mem hk, h⟩
theorem any_step {l : List Int} {p : Int → Bool} {k : Nat} (hk : k < l.length) (h : (l.take k).any p = false) (h2 : p l[k] = false) : (l.take (k + 1)).any p = false := by
  rw [List.take_succ_eq_append_getElem hk, List.any_append, h]; simp [h2]
theorem sum_right {l : List Int} (h : l.any centB = false) : 0 ≤ sumL l ∧ sumL l ≤ l.length * 1000000000 := by
  have := sumL_bd l 0 1000000000 (fun x hx => centB_bd (by
    cases h1 : centB x
    · rfl
    · exact absurd (List.any_eq_true.2 ⟨x, hx, h1⟩) (by rw [h]; simp)))
  omega
/-- Cents given out, or a fault. -/
def DivU (F cents : Int) (parts : List Int) (w : World) (e : Ending) (w' : World) : Prop :=
  ∃ (A : Option Addr) (c : Nat) (zs : List Int), e = .returned (.tuple #[.slice A zs.length c, .int .i64 F]) ∧ (F = 0 → Divided cents parts zs) ∧ (F ≠ 0 → zs = []) ∧ Rd w' w.heap.size A 1 encI zs ∧ Nx w w'
theorem DivU.no {F cents : Int} {parts : List Int} {w w' : World} (h : F ≠ 0) (hn : Nx w w') : DivU F cents parts w (.returned (.tuple #[.slice none 0 0, .int .i64 F])) w' := ⟨none, 0, [], rfl, fun h0 => absurd h0 h, fun _ => rfl, Rd.nil, hn⟩

set_option maxRecDepth 100000 in
set_option maxHeartbeats 1000000 in
theorem w_Divide (lo : Nat) (A : Option Addr) (c : Nat) (cents : Int) (parts : List Int) (w : World) (hR : Rd w lo A 1 encI parts) (hl : parts.length < 20) :
    Calls Tryz.prog 9 #[.int .i64 cents, .slice A parts.length c] w (DivU (partsF cents parts) cents parts w) := by
  cases hd : centB cents
  · have HD := hide hd
    have hcb := centB_bd hd
    have HPO := hide (fun h3 => partsF_sum (parts := parts) hd hl h3)
    have HPA := hide (fun h3 => partsF_any (parts := parts) hd hl h3)
    have HDB := hide (fun h3 h4 => w_DivideB lo A c cents parts w hR hl hcb h3 h4)
    generalize hn : parts.length = n at *
    have HR := hide hR
    have HN := hide hn
    unfold centB at hd
    clear hR hn
    go_enter Tryz.func9, Tryz.ntmps9
    go_wp2_with (go_at_call 22; first | (rw [show (1000000000 : Int) = maxCt from rfl]; refine (w_Out _ _ _ _).mono ?_; rintro e w' ⟨rfl, rfl⟩))
    go_loop [4, 5, 6, 8, 16] (fun _ _ s _ i => ∃ k : Nat, k ≤ n ∧ i = .int .i64 k ∧ s = .int .i64 (sumL (parts.take k)) ∧ (parts.take k).any centB = false) (fun _ _ _ _ i => n - (intOf i).toNat)
    case atStart => exact ⟨0, Nat.zero_le _, rfl, rfl, rfl⟩
    case round =>
      obtain ⟨k, hk, rfl, rfl, hq⟩ := hrel
      have hsb := sum_right hq
      have hkl : (parts.take k).length ≤ k := List.length_take_le _ _
      have HQ := hide hq
      clear hq
      by_cases hlt : k < n
      · have hlt' : k < parts.length := by have := HN.out; omega
        have HT := hide (sumL_take parts k hlt')
        obtain ⟨b, off, rfl, _, hb, _, hc⟩ := HR.out.open_ (Nx.refl w) (by omega)
        have c0 : w.cell? ⟨b, off + k, none⟩ = some (.int .i64 parts[k]) := by have := hc k hlt' 0 _ rfl; simpa using this
        clear hc
        cases hx : centB parts[k]
        · have HX := hide (any_step hlt' HQ.out hx)
          have hxb := centB_bd hx
          unfold centB at hx
          generalize sumL (parts.take k) = s at *
          go_wp2_with (go_at_call 22; first | (rw [show (1000000000 : Int) = maxCt from rfl]; refine (w_Out _ _ _ _).mono ?_; rintro e w' ⟨rfl, rfl⟩))
          go_round
          case rel => exact ⟨k + 1, by omega, by go_num, by rw [HT.out], HX.out⟩
          case measure => simp [intOf]; omega
        · have HF := hide (HPA.out (any_at hlt' hx))
          unfold centB at hx
          go_wp2_with (go_at_call 22; first | (rw [show (1000000000 : Int) = maxCt from rfl]; refine (w_Out _ _ _ _).mono ?_; rintro e w' ⟨rfl, rfl⟩))
          go_ret2
          rw [HF.out]
          exact DivU.no (by omega) (Nx.refl _)
      · have HK := hide (show parts.take k = parts from List.take_of_length_le (by have := HN.out; omega))
        rw [HK.out] at hsb HQ ⊢
        have HF := hide (HPO.out HQ.out)
        by_cases hz : sumL parts = 0
        · have t1 : (sumL parts == 0) = true := by simpa using hz
          have HZ := hide hz
          clear hz
          go_wp2_with fail
          go_ret2
          rw [HF.out, if_pos HZ.out]
          exact DivU.no (by omega) (Nx.refl _)
        · have t1 : (sumL parts == 0) = false := by simpa using hz
          have HZ := hide hz
          clear hz
          go_wp2_with (go_at_call 23; refine (HDB.out (fun p hp => centB_bd (by cases h1 : centB p; rfl; exact absurd (List.any_eq_true.2 ⟨p, hp, h1⟩) (by rw [HQ.out]; simp))) (by have := HZ.out; omega)).mono ?_; rintro e w2 ⟨A', c', zs, rfl, hdv, hR2, hn2⟩)
          go_ret2
          rw [HF.out, if_neg HZ.out]
          exact ⟨A', c', zs, rfl, fun _ => hdv, fun h => absurd rfl h, hR2, hn2⟩
  · have HF := hide (partsF_cents (parts := parts) hd)
    clear hR
    generalize parts.length = n at *
    unfold centB at hd
    go_enter Tryz.func9, Tryz.ntmps9
    go_wp2_with (go_at_call 22; first | (rw [show (1000000000 : Int) = maxCt from rfl]; refine (w_Out _ _ _ _).mono ?_; rintro e w' ⟨rfl, rfl⟩))
    go_ret2
    rw [HF.out]
    exact DivU.no (by omega) (Nx.refl _)

set_option maxRecDepth 100000 in
set_option maxHeartbeats 1000000 in
theorem w_EqualI (lo lo' : Nat) (A B : Option Addr) (c d : Nat) (l : List Int) (w : World) (hA : Rd w lo A 1 encI l) (hB : Rd w lo' B 1 encI l) (hl : l.length ≤ 65536) :
    Calls Tryz.prog 38 #[.slice A l.length c, .slice B l.length d] w fun e w' => e = .returned (.bool true) ∧ Nx w w' := by
  generalize hn : l.length = n at *
  have HA := hide hA
  have HB := hide hB
  have HN := hide hn
  clear hA hB hn
  go_enter Tryz.func38, Tryz.ntmps38
  go_wp2
  go_loopw [5, 13] (fun _ i wr => ∃ k : Nat, k ≤ n ∧ i = .int .i64 k ∧ Nx w wr) (fun _ i _ => n - (intOf i).toNat)
  case atStart => exact ⟨0, Nat.zero_le _, rfl, Nx.refl _⟩
  case round =>
    obtain ⟨k, hk, rfl, hbw⟩ := hrel
    by_cases hlt : k < n
    · have hlt' : k < l.length := by have := HN.out; omega
      obtain ⟨b, off, rfl, _, hb, hbr, hc⟩ := HA.out.open_ hbw (by omega)
      obtain ⟨b', off', rfl, _, hb', hbr', hc'⟩ := HB.out.open_ hbw (by omega)
      have c0 : wr.cell? ⟨b, off + k, none⟩ = some (.int .i64 l[k]) := by have := hc k hlt' 0 _ rfl; simpa using this
      have d0 : wr.cell? ⟨b', off' + k, none⟩ = some (.int .i64 l[k]) := by have := hc' k hlt' 0 _ rfl; simpa using this
      clear hc hc'
      have q1 : (0 : Int) ≤ (k : Int) := by omega
      have q2 : (k : Int) < (n : Int) := by omega
      go_wp2_with fail
      go_quiet (fail)
      go_wp2
      go_roundw
      case rel => exact ⟨k + 1, by omega, by go_num, hbw.drewN _⟩
      case measure => simp [intOf]; omega
    · go_wp2
      go_ret
      exact ⟨rfl, hbw⟩

end Go.Proofs.YtfnbmcinbmbehaaGreatDoor
/- More words for memory, of no program: rows out of literals, prefixes of rows, rows that stay while others turn. -/
namespace Go.Proofs.YtfnbmcinbmbehaaGreatDoor
open Go.RowKit

section
variable {α : Type} {w w' : World} {lo K : Nat} {A : Option Addr} {enc : α → List Value} {xs : List α}
/-- The first ones of a slice. -/
theorem Rd.take (h : Rd w lo A K enc xs) (n : Nat) : Rd w lo A K enc (xs.take n) := fun hp => by
  have hp' : 0 < xs.length := by rw [List.length_take] at hp; omega
  obtain ⟨b, off, e, h1, hb, hc⟩ := h hp'
  refine ⟨b, off, e, h1, hb, fun i x hx j u hu => hc i x ?_ j u hu⟩
  have hi : i < (xs.take n).length := (List.getElem?_eq_some_iff.1 hx).1
  rw [List.length_take] at hi
  rw [← hx, List.getElem?_take_of_lt (by omega)]
/-- A row of the call's own out of a literal: its first n elements. -/
theorem own_lit {e : TypeId} {g n m : Nat} {cs : Array Value} {base : Nat} (hk : ∀ x, (enc x).length = K) (hg : w.heap[g]? = some (.cells cs e (0, 0))) (hb : base ≤ g) (hcs : cs.toList = xs.flatMap enc) (hm : xs.length = m) (hn : n ≤ m) (hmax : m ≤ maxLen) :
    w.ownsRow base e K (.slice (some ⟨g, 0, none⟩) n m) n ((xs.take n).flatMap enc) := by
  have hl : (xs.take n).length = n := by rw [List.length_take]; omega
  refine ⟨by rw [flat_len hk, hl], .inr ⟨g, m, cs, rfl, hb, hg, hn, hmax, ?_, ?_⟩⟩
  · rw [← Array.length_toList, hcs, flat_len hk, hm]
  · rw [hcs]
    have e1 : xs.flatMap enc = (xs.take n).flatMap enc ++ (xs.drop n).flatMap enc := by rw [← List.flatMap_append, List.take_append_drop]
    rw [e1, List.take_append_of_le_length (by rw [flat_len hk, hl]; exact Nat.le_refl _), List.take_of_length_le (by rw [flat_len hk, hl]; exact Nat.le_refl _)]
end
end Go.Proofs.YtfnbmcinbmbehaaGreatDoor
/- What is handed out: the reference's. -/
namespace Go.Proofs.YtfnbmcinbmbehaaGreatDoor
open Go.RowKit Go.Sort Go.Proofs Go.Shelf

theorem run_make_ints (n : Nat) (hn : n ≤ 100000) (w : World) : (Instr.makeSlice 22 (.int .i64 (n : Int)) (.int .i64 (n : Int))).run Tryz.prog w = .ok (.slice (some ⟨w.heap.size, 0, none⟩) n n) (w.alloc (.cells (madeCells #[.int .i64 0] n) 3)) := by
  obtain ⟨i, h1, h2, h3, h4⟩ := info_parts (show (Tryz.prog.info? 3).map (fun i => (i.zero, i.size, i.bytes)) = some (some (.int .i64 0), 1, 8) by kernel_rfl)
  have h := run_make (P := Tryz.prog) w 22 3 i (.int .i64 0) Tryz.underlying22 h1 h2 .i64 .i64 (n : Int) (n : Int) (by omega) (by omega) (by rw [h4]; omega) (by omega)
  rw [h]
  simp [h3, Value.cells]
theorem made_ints (n : Nat) : (madeCells #[.int .i64 0] n).toList = (List.replicate n (0 : Int)).flatMap encI := by
  rw [toList_madeCells_one]
  induction n with
  | zero => rfl
  | succ n ih => rw [List.replicate_succ, List.replicate_succ, List.flatMap_cons, ih]; rfl
theorem own_made (w : World) (n base : Nat) (hn : n ≤ 100000) (hb : base ≤ w.heap.size) {Z : Array Value} (hZ : Z.toList = (List.replicate n (0 : Int)).flatMap encI) : (w.alloc (.cells Z 3)).ownsRow base 3 1 (.slice (some ⟨w.heap.size, 0, none⟩) n n) n ((List.replicate n (0 : Int)).flatMap encI) := by
  have := own_lit (w := w.alloc (.cells Z 3)) (e := 3) (g := w.heap.size) (n := n) (m := n) (base := base) (xs := List.replicate n (0 : Int)) encI_len (hnew rfl) hb hZ (by simp) (Nat.le_refl _) (by unfold maxLen; omega)
  rwa [List.take_of_length_le (by simp)] at this
/-- A list filled up to k, the rest 0. -/
def fillN (L : List Int) (k : Nat) : List Int := L.take k ++ List.replicate (L.length - k) 0
theorem fillN_len (L : List Int) (k : Nat) (hk : k ≤ L.length) : (fillN L k).length = L.length := by unfold fillN; simp; omega
theorem fillN_zero (L : List Int) : fillN L 0 = List.replicate L.length 0 := by simp [fillN]
theorem fillN_all (L : List Int) : fillN L L.length = L := by simp [fillN]
theorem fillN_set (L : List Int) (k : Nat) (hk : k < L.length) : (fillN L k).set k L[k] = fillN L (k + 1) := by
  unfold fillN
  obtain ⟨m, hm⟩ : ∃ m, L.length - k = m + 1 := ⟨L.length - k - 1, by omega⟩
  have hm2 : L.length - (k + 1) = m := by omega
  have hl : (L.take k).length = k := by rw [List.length_take]; omega
  rw [hm, hm2, List.replicate_succ, List.set_append_right _ _ (by omega), hl, Nat.sub_self, List.set_cons_zero, List.take_succ_eq_append_getElem hk, List.append_assoc]; rfl
/-- The first of the greatest of the first k. -/
structure FM (cs : List Int) (k b : Nat) : Prop where
  at_ : b < cs.length
  in_ : b < k ∨ (k = 0 ∧ b = 0)
  up : ∀ j, j < k → cs.getD j 0 < cs.getD b 0 ∨ (cs.getD j 0 = cs.getD b 0 ∧ b ≤ j)
theorem FM.start {cs : List Int} (h : 0 < cs.length) : FM cs 0 0 := ⟨h, .inr ⟨rfl, rfl⟩, fun j hj => by omega⟩
theorem FM.more {cs : List Int} {k b : Nat} (h : FM cs k b) (hk : k < cs.length) (hlt : cs.getD b 0 < cs.getD k 0) : FM cs (k + 1) k :=
  ⟨hk, .inl (by omega), fun j hj => by
    rcases Nat.lt_or_ge j k with h1 | h1
    · have := h.up j h1; omega
    · have e : j = k := by omega
      subst e; exact .inr ⟨rfl, Nat.le_refl _⟩⟩
theorem FM.same {cs : List Int} {k b : Nat} (h : FM cs k b) (hlt : ¬ cs.getD b 0 < cs.getD k 0) : FM cs (k + 1) b :=
  ⟨h.at_, .inl (by have := h.in_; omega), fun j hj => by
    rcases Nat.lt_or_ge j k with h1 | h1
    · exact h.up j h1
    · have e : j = k := by omega
      subst e
      have := h.in_
      omega⟩
theorem FM.done {cs : List Int} {b : Nat} (h : FM cs cs.length b) : FirstMax cs b := ⟨h.at_, h.up⟩
theorem getD_at {l : List Int} {k : Nat} (h : k < l.length) : l.getD k 0 = l[k] := by rw [List.getD_eq_getElem?_getD, List.getElem?_eq_getElem h]; rfl

end Go.Proofs.YtfnbmcinbmbehaaGreatDoor
/- Bits of small numbers, in the walk's spelling. -/
namespace Go.Proofs.YtfnbmcinbmbehaaGreatDoor
open Go

theorem bits_and_i64 (a b : Nat) (ha : a < 4294967296) (hb : b < 4294967296) : bits .and .i64 (a : Int) (b : Int) = ((a &&& b : Nat) : Int) := by
  have hx : a &&& b < 2 ^ 32 := Nat.and_lt_two_pow _ (by omega)
  have h1 : (BitVec.ofInt 64 (a : Int)).toNat = a := by
    rw [BitVec.ofInt_natCast, BitVec.toNat_ofNat]; exact Nat.mod_eq_of_lt (by omega)
  have h2 : (BitVec.ofInt 64 (b : Int)).toNat = b := by
    rw [BitVec.ofInt_natCast, BitVec.toNat_ofNat]; exact Nat.mod_eq_of_lt (by omega)
  show IntKind.i64.wrap ((BitVec.ofInt 64 (a : Int) &&& BitVec.ofInt 64 (b : Int)).toNat : Int) = _
  rw [BitVec.toNat_and, h1, h2, IntKind.wrap_i64]
  omega
theorem bits_or_i64 (a b : Nat) (ha : a < 4294967296) (hb : b < 4294967296) : bits .or .i64 (a : Int) (b : Int) = ((a ||| b : Nat) : Int) := by
  have hx : a ||| b < 2 ^ 32 := Nat.or_lt_two_pow (by omega) (by omega)
  have h1 : (BitVec.ofInt 64 (a : Int)).toNat = a := by
    rw [BitVec.ofInt_natCast, BitVec.toNat_ofNat]; exact Nat.mod_eq_of_lt (by omega)
  have h2 : (BitVec.ofInt 64 (b : Int)).toNat = b := by
    rw [BitVec.ofInt_natCast, BitVec.toNat_ofNat]; exact Nat.mod_eq_of_lt (by omega)
  show IntKind.i64.wrap ((BitVec.ofInt 64 (a : Int) ||| BitVec.ofInt 64 (b : Int)).toNat : Int) = _
  rw [BitVec.toNat_or, h1, h2, IntKind.wrap_i64]
  omega
theorem div_pow (g i : Nat) : (g : Int) / 2 ^ i = ((g / 2 ^ i : Nat) : Int) := by
  rw [Int.natCast_ediv, Int.natCast_pow]; rfl
theorem bit_le (g i : Nat) : bitN g i = 0 ∨ bitN g i = 1 := by unfold bitN; omega
theorem and_bit (g i : Nat) (hg : g < 4294967296) : bits .and .i64 ((g : Int) / 2 ^ i) 1 = ((bitN g i : Nat) : Int) := by
  rw [div_pow]
  have h : g / 2 ^ i < 4294967296 := Nat.lt_of_le_of_lt (Nat.div_le_self _ _) hg
  have := bits_and_i64 (g / 2 ^ i) 1 h (by omega)
  rw [Nat.and_one_is_mod] at this
  exact this
theorem mod_bit (g i : Nat) : ((g : Int) / 2 ^ i) % 2 = ((bitN g i : Nat) : Int) := by
  rw [div_pow]; unfold bitN; omega
theorem tmod_bit (g i : Nat) : ((g : Int) / 2 ^ i).tmod 2 = ((bitN g i : Nat) : Int) := by
  rw [div_pow]
  unfold bitN
  generalize g / 2 ^ i = z
  rw [Int.tmod_eq_emod_of_nonneg (by omega)]
  omega
theorem or_small : ∀ (g : Fin 64) (i : Fin 6), bitN g.val i.val = 0 → (g.val ||| 2 ^ i.val) = g.val + 2 ^ i.val := by decide +kernel
theorem or_bit (g i : Nat) (hg : g < 64) (hi : i < 6) (h0 : bitN g i = 0) : bits .or .i64 (g : Int) (2 ^ i) = ((g + 2 ^ i : Nat) : Int) := by
  have hp : 2 ^ i < 64 := by
    have : 2 ^ i ≤ 2 ^ 5 := Nat.pow_le_pow_right (by omega) (by omega)
    omega
  have e : ((2 : Int) ^ i) = ((2 ^ i : Nat) : Int) := by rw [Int.natCast_pow]; rfl
  rw [e, bits_or_i64 g (2 ^ i) (by omega) (by omega), or_small ⟨g, hg⟩ ⟨i, hi⟩ h0]
theorem add_lt_small : ∀ (n : Fin 7) (g : Fin 64) (i : Fin 6), g.val < 2 ^ n.val → i.val < n.val → bitN g.val i.val = 0 → g.val + 2 ^ i.val < 2 ^ n.val := by decide +kernel
theorem szN_small : ∀ (n : Fin 7) (g : Fin 64) (i : Fin 6), i.val < n.val → bitN g.val i.val = 0 → szN n.val g.val + 1 ≤ n.val := by decide +kernel
theorem szN_le (n g : Nat) : szN n g ≤ n := by
  induction n with
  | zero => simp [szN]
  | succ n ih => have := bit_le g n; simp only [szN]; omega
end Go.Proofs.YtfnbmcinbmbehaaGreatDoor
