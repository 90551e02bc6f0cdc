/- A whole shared fairly: the program's walk, its second half. -/
import Derived.Test.YtjhmgkoghapocaaDoorFairOf
import Derived.Test.YtjhmgkoghapocaaDoorStSortI
import Derived.Test.YtjhmgkoghapocaaDoorStage
import Derived.RegionTactic
import Derived.BigRegion
import Derived.Deep.DeepCutAuto
namespace Go.Proofs.YtjhmgkoghapocaaDoor
open Go.RowKit Go.Sort Go.Proofs Go.Shelf

/-- Dues, or a fault. -/
def DuesU (F : Int) (R : List Due → Prop) (w : World) (e : Ending) (w' : World) : Prop :=
  ∃ (A : Option Addr) (c : Nat) (ds : List Due), e = .returned (.tuple #[.slice A ds.length c, .int .i64 F]) ∧ (F = 0 → R ds) ∧ (F ≠ 0 → ds = []) ∧ Rd w' w.heap.size A 2 encDue ds ∧ Nx w w'
theorem DuesU.no {F : Int} {R : List Due → Prop} {w w' : World} (h : F ≠ 0) (hn : Nx w w') : DuesU F R w (.returned (.tuple #[.slice none 0 0, .int .i64 F])) w' := ⟨none, 0, [], rfl, fun h0 => absurd h0 h, fun _ => rfl, Rd.nil, hn⟩

/-- Behind the makes: an order, what is left, and the box of the variable that holds it. -/
def FairMid (k : Nat) (w5 : World) (vo vb : Value) (W : World) : Prop :=
  ∃ go gr gb : Nat, vo = .slice (some ⟨go, 0, none⟩) k k ∧ vb = .pointer (some ⟨gb, 0, none⟩) ∧ (w5.heap.size ≤ go ∧ w5.heap.size ≤ gr ∧ w5.heap.size ≤ gb ∧ go ≠ gr ∧ go ≠ gb ∧ gr ≠ gb) ∧
    W.ownsRow w5.heap.size 3 1 (.slice (some ⟨go, 0, none⟩) k k) k ((List.replicate k (0 : Int)).flatMap encI) ∧ W.ownsRow w5.heap.size 3 1 (.slice (some ⟨gr, 0, none⟩) k k) k ((List.replicate k (0 : Int)).flatMap encI) ∧
    W.heap[gb]? = some (.cells #[.slice (some ⟨gr, 0, none⟩) k k] 22 (0, 0)) ∧ Nx w5 W

/-- The sort of no places. -/
theorem w_SortOrder0 (b cap : Nat) (fv : Value) (w : World) : Calls Tryd.prog 48 #[.slice (some ⟨b, 0, none⟩) 0 cap, fv] w fun e w' => e = .returned (.tuple #[]) ∧ w = w' := by
  have HI := hide (show ∀ W, Calls Tryd.prog 102 #[.slice (some ⟨b, 0, none⟩) 0 cap, .int .i64 0, .int .i64 0, fv] W fun e w' => e = .returned (.tuple #[]) ∧ W = w' from by
    intro W
    go_enter Tryd.func102, Tryd.ntmps102
    go_wp2_with fail
    refine wp_loop_rounds 1 ?_
    rw [rounds_succ]
    go_wp2_with fail
    go_end0
    exact ⟨rfl, rfl⟩)
  have HT := hide (show ∀ W, Calls Tryd.prog 81 #[.slice (some ⟨b, 0, none⟩) 0 cap, .int .i64 0, fv] W fun e w' => e = .returned (.tuple #[]) ∧ W = w' from by
    intro W
    go_enter Tryd.func81, Tryd.ntmps81
    go_wp2_with fail
    refine wp_loop_rounds 1 ?_
    rw [rounds_succ]
    go_wp2_with (go_at_call 102; refine (HI.out _).mono ?_; rintro e w1 ⟨rfl, rfl⟩)
    refine wp_loop_rounds 1 ?_
    rw [rounds_succ]
    go_wp2_with fail
    go_end0
    exact ⟨rfl, rfl⟩)
  go_enter Tryd.func48, Tryd.ntmps48
  go_wp2_with (go_at_call 81; refine (HT.out _).mono ?_; rintro e w1 ⟨rfl, rfl⟩)
  go_end0
  exact ⟨rfl, rfl⟩
def ordL (k : Nat) : List Int := (List.range k).map (fun (i : Nat) => (i : Int))
theorem ordL_len (k : Nat) : (ordL k).length = k := by simp [ordL]
theorem ordL_get (k i : Nat) (h : i < (ordL k).length) : (ordL k)[i] = (i : Int) := by simp [ordL]
theorem flat_ints (L : List Nat) : (L.map (fun (i : Nat) => (i : Int))).flatMap encI = L.map (fun (i : Nat) => Value.int .i64 (i : Int)) := by
  induction L with
  | nil => rfl
  | cons x L ih => rw [List.map_cons, List.flatMap_cons, ih]; rfl
/-- The places sorted, however many. -/
theorem w_SortOrd {w : World} {base b k gb gr : Nat} (rs : List Int) (hsz : k < 20) (h : w.ownsRow base 3 1 (.slice (some ⟨b, 0, none⟩) k k) k ((ordL k).flatMap encI))
    (hbox : w.cell? ⟨gb, 0, none⟩ = some (.slice (some ⟨gr, 0, none⟩) k k)) (hrs : ∀ i, i < k → w.cell? ⟨gr, i, none⟩ = some (.int .i64 (rs.getD i 0))) (hb : gb ≠ b) (hr : gr ≠ b) :
    Calls Tryd.prog 48 #[.slice (some ⟨b, 0, none⟩) k k, .func (.func 49) #[] #[.pointer (some ⟨gb, 0, none⟩)]] w fun en w' => en = .returned (.tuple #[]) ∧
      ∃ ys : List Nat, ys.Perm (List.range k) ∧ ys.Pairwise (beats rs) ∧ w'.ownsRow base 3 1 (.slice (some ⟨b, 0, none⟩) k k) k ((ys.map (fun (i : Nat) => (i : Int))).flatMap encI) ∧ Gr b w w' := by
  rcases k with _ | k
  · refine (w_SortOrder0 _ _ _ _).mono ?_
    rintro e w' ⟨rfl, rfl⟩
    exact ⟨rfl, [], by simp, List.Pairwise.nil, h, Gr.refl _ _⟩
  · unfold ordL at h
    rw [flat_ints] at h
    refine (w_SortOrder rs hsz h hbox hrs hb hr).mono ?_
    rintro e w' ⟨rfl, ys, h1, h2, h3, h4⟩
    exact ⟨rfl, ys, h1, h2, by rw [flat_ints]; exact h3, h4⟩
theorem zip_set (l : List ByteArray) (B : List Int) (a : Nat) (ha : a < l.length) (z : Int) : (List.zipWith Due.mk l B).set a ⟨l[a], z⟩ = List.zipWith Due.mk l (B.set a z) := by
  apply List.ext_getElem
  · simp
  · intro i h1 h2
    rw [List.getElem_set]
    by_cases e : a = i
    · subst e; simp
    · simp [e]
theorem div_fit {F x : Int} (h1 : (1 : Int) ≤ F) (h2 : -7680000000000 ≤ x ∧ x ≤ 7680000000000) : -10000000000000 ≤ x / F ∧ x / F ≤ 10000000000000 := by
  constructor
  · have : -7680000000000 ≤ x / F := by
      rw [Int.le_ediv_iff_mul_le (by omega)]
      have : (-7680000000000 : Int) * F ≤ -7680000000000 * 1 := Int.mul_le_mul_of_nonpos_left (by omega) (by omega)
      omega
    omega
  · have : x / F ≤ 7680000000000 := by
      refine Int.ediv_le_of_le_mul (by omega) ?_
      have : (7680000000000 : Int) * 1 ≤ 7680000000000 * F := Int.mul_le_mul_of_nonneg_left (by omega) (by omega)
      omega
    omega
noncomputable def codeF (r : Nat) : Code := fromReg r (Tryd.f7.body.getD .skip)
end Go.Proofs.YtjhmgkoghapocaaDoor
