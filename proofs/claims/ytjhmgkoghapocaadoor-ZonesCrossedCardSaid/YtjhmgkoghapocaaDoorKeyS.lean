/- Plain: what a key is, by the program's loop and by the reference's trim. -/
import Derived.Lib.SlTrimSet
import Derived.Lib.Bytealg
namespace Go.Proofs.YtjhmgkoghapocaaDoor
def lowC (c : UInt8) : Bool := decide (97 ≤ c.toNat) && decide (c.toNat ≤ 122)
def digC (c : UInt8) : Bool := decide (48 ≤ c.toNat) && decide (c.toNat ≤ 57)
def keyC (c : UInt8) : Bool := lowC c || digC c || c == 45 || c == 95
/-- A key. -/
def keyL : List UInt8 → Bool
  | [] => false
  | c :: l => decide ((c :: l).length ≤ 40) && lowC c && (c :: l).all keyC
def keyB (s : ByteArray) : Bool := keyL s.data.toList
def smallL : List UInt8 := [97, 98, 99, 100, 101, 102, 103, 104, 105, 106, 107, 108, 109, 110, 111, 112, 113, 114, 115, 116, 117, 118, 119, 120, 121, 122]
def csetL : List UInt8 := smallL ++ [48, 49, 50, 51, 52, 53, 54, 55, 56, 57, 45, 95]
theorem all_u8 {p : UInt8 → Bool} (h : ∀ n : Fin 256, p (UInt8.ofNat n.val) = true) (c : UInt8) : p c = true := by
  have := h ⟨c.toNat, c.toNat_lt⟩
  simpa using this
theorem cset_key (c : UInt8) : csetL.contains c = keyC c := by
  have := all_u8 (p := fun c => csetL.contains c == keyC c) (by decide +kernel) c
  simpa using this
theorem small_low (c : UInt8) : decide (0 ≤ Go.Lib.indexByte smallL c) = lowC c := by
  have := all_u8 (p := fun c => decide (0 ≤ Go.Lib.indexByte smallL c) == lowC c) (by decide +kernel) c
  simpa using this
theorem drop_nil {p : UInt8 → Bool} : ∀ {l : List UInt8}, l.dropWhile p = [] ↔ l.all p = true
  | [] => by simp
  | c :: l => by
    by_cases h : p c = true
    · rw [List.dropWhile_cons_of_pos h, drop_nil]; simp [h]
    · rw [List.dropWhile_cons_of_neg h]; simp [h]
theorem drop_all {p : UInt8 → Bool} : ∀ {l : List UInt8}, (l.dropWhile p).all p = true → l.all p = true
  | [], h => h
  | c :: l, h => by
    by_cases hc : p c = true
    · rw [List.dropWhile_cons_of_pos hc] at h; simp [hc]; simpa using drop_all h
    · rw [List.dropWhile_cons_of_neg hc] at h; exact h
theorem all_drop {p : UInt8 → Bool} {l : List UInt8} (h : l.all p = true) : (l.dropWhile p).all p = true := by
  rw [drop_nil.2 h]; rfl
theorem trim_nil (l cs : List UInt8) : Go.Lib.trimS l cs = [] ↔ l.all (cs.contains ·) = true := by
  unfold Go.Lib.trimS Go.Lib.trimLeftS Go.Lib.trimRightS
  rw [drop_nil]
  simp only [List.all_reverse]
  constructor
  · intro h; have := drop_all h; simpa using this
  · intro h; exact all_drop (by simpa using h)
theorem trim_key (l : List UInt8) : (Go.Lib.trimS l csetL).isEmpty = l.all keyC := by
  have h := trim_nil l csetL
  have e : (fun c => csetL.contains c) = keyC := by funext c; exact cset_key c
  rw [e] at h
  cases h1 : l.all keyC
  · cases h2 : Go.Lib.trimS l csetL
    · rw [h.1 h2] at h1; cases h1
    · rfl
  · rw [h.2 h1]; rfl
end Go.Proofs.YtjhmgkoghapocaaDoor
