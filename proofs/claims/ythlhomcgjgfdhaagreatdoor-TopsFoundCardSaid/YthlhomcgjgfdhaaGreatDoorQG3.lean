/- Plain: what a key is, by the program's loop and by the reference's trim. -/
import Derived.Lib.SlTrimSet
import Derived.Lib.Bytealg
import Derived.Test.YthlhomcgjgfdhaaGreatDoorQG0
import Derived.Laws.Cover1
import Derived.Test.YthlhomcgjgfdhaaGreatDoorQShelfK
namespace Go.Proofs.YthlhomcgjgfdhaaGreatDoor
theorem all_u8 {p : UInt8 → Bool} (h : ∀ n : Fin 256, p (UInt8.ofNat n.val) = true) (c : UInt8) : p c = true := by
  have := h ⟨c.toNat, c.toNat_lt⟩
  simpa using this
theorem drop_nil {p : UInt8 → Bool} : ∀ {l : List UInt8}, l.dropWhile p = [] ↔ l.all p = true
  | [] => by simp
  | c :: l => by
    by_cases h : p c = true
    · rw [List.dropWhile_cons_of_pos h, drop_nil]; simp [h]
    · rw [List.dropWhile_cons_of_neg h]; simp [h]
theorem drop_all {p : UInt8 → Bool} : ∀ {l : List UInt8}, (l.dropWhile p).all p = true → l.all p = true
  | [], h => h
  | c :: l, h => by
    by_cases hc : p c = true
    · rw [List.dropWhile_cons_of_pos hc] at h; simp [hc]; simpa using drop_all h
    · rw [List.dropWhile_cons_of_neg hc] at h; exact h
theorem all_drop {p : UInt8 → Bool} {l : List UInt8} (h : l.all p = true) : (l.dropWhile p).all p = true := by
  rw [drop_nil.2 h]; rfl
theorem trim_nil (l cs : List UInt8) : Go.Lib.trimS l cs = [] ↔ l.all (cs.contains ·) = true := by
  unfold Go.Lib.trimS Go.Lib.trimLeftS Go.Lib.trimRightS
  rw [drop_nil]
  simp only [List.all_reverse]
  constructor
  · intro h; have := drop_all h; simpa using this
  · intro h; exact all_drop (by simpa using h)
end Go.Proofs.YthlhomcgjgfdhaaGreatDoor
/- Plain functions: what is wrong with keys, parts, costs, dues, steps; gains, refunds. -/
namespace Go.Proofs.YthlhomcgjgfdhaaGreatDoor

def maxCt : Int := 1000000000
def centB (n : Int) : Bool := outB n 0 maxCt
structure Due where
  key : ByteArray
  cents : Int
instance : Inhabited Due := ⟨⟨default, 0⟩⟩
def encS (s : ByteArray) : List Value := [.string s]
structure Frac where
  num : Int
  den : Int
instance : Inhabited Frac := ⟨⟨0, 0⟩⟩
def encFrac (d : Frac) : List Value := [.int .i64 d.num, .int .i64 d.den]
def endMs : Int := 345686400000
end Go.Proofs.YthlhomcgjgfdhaaGreatDoor
/- Sorted keys: the program's check and the reference's. -/
namespace Go.Proofs.YthlhomcgjgfdhaaGreatDoor
open Go.RowKit

def Small (l : List ByteArray) : Prop := ∀ s ∈ l, s.size ≤ 1000000
end Go.Proofs.YthlhomcgjgfdhaaGreatDoor
/- slices.ContainsFunc over numbers and dues, slices.EqualFunc of keys and dues: each for every function value that answers plainly. -/
namespace Go.Proofs.YthlhomcgjgfdhaaGreatDoor
open Go.RowKit

def Enters (g : Nat) : Prop := ∀ args w, (callFunc g args).run Tryz.prog w = .ok (.enter g args) w

end Go.Proofs.YthlhomcgjgfdhaaGreatDoor
/- Cells behind calls that make memory alone. Of no program. -/
namespace Go.Proofs.YthlhomcgjgfdhaaGreatDoor
open Go.RowKit

theorem nx_cell {w w' : World} {b o : Nat} {v : Value} (hn : Nx w w') (hb : b < w.heap.size) (h : w.cell? ⟨b, o, none⟩ = some v) : w'.cell? ⟨b, o, none⟩ = some v := (Below.cell hn (p := ⟨b, _, none⟩) hb).trans h
end Go.Proofs.YthlhomcgjgfdhaaGreatDoor
