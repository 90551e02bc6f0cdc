/- Bits of small numbers, in the walk's spelling. -/
import Derived.Laws.Bits64
import Derived.WalkKit
import Derived.IntWalk
import Derived.Test.YtjhmgkoghapocaaDoorFairS
namespace Go.Proofs.YtjhmgkoghapocaaDoor
open Go

theorem bits_and_i64 (a b : Nat) (ha : a < 4294967296) (hb : b < 4294967296) : bits .and .i64 (a : Int) (b : Int) = ((a &&& b : Nat) : Int) := by
  have hx : a &&& b < 2 ^ 32 := Nat.and_lt_two_pow _ (by omega)
  have h1 : (BitVec.ofInt 64 (a : Int)).toNat = a := by
    rw [BitVec.ofInt_natCast, BitVec.toNat_ofNat]; exact Nat.mod_eq_of_lt (by omega)
  have h2 : (BitVec.ofInt 64 (b : Int)).toNat = b := by
    rw [BitVec.ofInt_natCast, BitVec.toNat_ofNat]; exact Nat.mod_eq_of_lt (by omega)
  show IntKind.i64.wrap ((BitVec.ofInt 64 (a : Int) &&& BitVec.ofInt 64 (b : Int)).toNat : Int) = _
  rw [BitVec.toNat_and, h1, h2, IntKind.wrap_i64]
  omega
theorem bits_or_i64 (a b : Nat) (ha : a < 4294967296) (hb : b < 4294967296) : bits .or .i64 (a : Int) (b : Int) = ((a ||| b : Nat) : Int) := by
  have hx : a ||| b < 2 ^ 32 := Nat.or_lt_two_pow (by omega) (by omega)
  have h1 : (BitVec.ofInt 64 (a : Int)).toNat = a := by
    rw [BitVec.ofInt_natCast, BitVec.toNat_ofNat]; exact Nat.mod_eq_of_lt (by omega)
  have h2 : (BitVec.ofInt 64 (b : Int)).toNat = b := by
    rw [BitVec.ofInt_natCast, BitVec.toNat_ofNat]; exact Nat.mod_eq_of_lt (by omega)
  show IntKind.i64.wrap ((BitVec.ofInt 64 (a : Int) ||| BitVec.ofInt 64 (b : Int)).toNat : Int) = _
  rw [BitVec.toNat_or, h1, h2, IntKind.wrap_i64]
  omega
theorem div_pow (g i : Nat) : (g : Int) / 2 ^ i = ((g / 2 ^ i : Nat) : Int) := by
  rw [Int.natCast_ediv, Int.natCast_pow]; rfl
theorem bit_le (g i : Nat) : bitN g i = 0 ∨ bitN g i = 1 := by unfold bitN; omega
theorem and_bit (g i : Nat) (hg : g < 4294967296) : bits .and .i64 ((g : Int) / 2 ^ i) 1 = ((bitN g i : Nat) : Int) := by
  rw [div_pow]
  have h : g / 2 ^ i < 4294967296 := Nat.lt_of_le_of_lt (Nat.div_le_self _ _) hg
  have := bits_and_i64 (g / 2 ^ i) 1 h (by omega)
  rw [Nat.and_one_is_mod] at this
  exact this
theorem mod_bit (g i : Nat) : ((g : Int) / 2 ^ i) % 2 = ((bitN g i : Nat) : Int) := by
  rw [div_pow]; unfold bitN; omega
theorem tmod_bit (g i : Nat) : ((g : Int) / 2 ^ i).tmod 2 = ((bitN g i : Nat) : Int) := by
  rw [div_pow]
  unfold bitN
  generalize g / 2 ^ i = z
  rw [Int.tmod_eq_emod_of_nonneg (by omega)]
  omega
theorem or_small : ∀ (g : Fin 64) (i : Fin 6), bitN g.val i.val = 0 → (g.val ||| 2 ^ i.val) = g.val + 2 ^ i.val := by decide +kernel
theorem or_bit (g i : Nat) (hg : g < 64) (hi : i < 6) (h0 : bitN g i = 0) : bits .or .i64 (g : Int) (2 ^ i) = ((g + 2 ^ i : Nat) : Int) := by
  have hp : 2 ^ i < 64 := by
    have : 2 ^ i ≤ 2 ^ 5 := Nat.pow_le_pow_right (by omega) (by omega)
    omega
  have e : ((2 : Int) ^ i) = ((2 ^ i : Nat) : Int) := by rw [Int.natCast_pow]; rfl
  rw [e, bits_or_i64 g (2 ^ i) (by omega) (by omega), or_small ⟨g, hg⟩ ⟨i, hi⟩ h0]
theorem add_lt_small : ∀ (n : Fin 7) (g : Fin 64) (i : Fin 6), g.val < 2 ^ n.val → i.val < n.val → bitN g.val i.val = 0 → g.val + 2 ^ i.val < 2 ^ n.val := by decide +kernel
theorem szN_small : ∀ (n : Fin 7) (g : Fin 64) (i : Fin 6), i.val < n.val → bitN g.val i.val = 0 → szN n.val g.val + 1 ≤ n.val := by decide +kernel
theorem szN_le (n g : Nat) : szN n g ≤ n := by
  induction n with
  | zero => simp [szN]
  | succ n ih => have := bit_le g n; simp only [szN]; omega
end Go.Proofs.YtjhmgkoghapocaaDoor
