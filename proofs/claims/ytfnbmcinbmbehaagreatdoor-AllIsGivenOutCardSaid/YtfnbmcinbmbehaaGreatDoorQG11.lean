/- A whole shared fairly: the reference's. -/
import Derived.Test.YtfnbmcinbmbehaaGreatDoorQGain
import Derived.StillTailTactics
import Derived.Test.YtfnbmcinbmbehaaGreatDoorQG5
namespace Go.Proofs.YtfnbmcinbmbehaaGreatDoor
open Go.RowKit Go.Sort Go.Proofs Go.Shelf

def factL (k : Nat) : List Int := (List.range k).map (fun j => ((factN j : Nat) : Int))
theorem factL_len (k : Nat) : (factL k).length = k := by simp [factL]
theorem factL_snoc (k : Nat) : factL (k + 1) = factL k ++ [((factN k : Nat) : Int)] := by unfold factL; rw [List.range_succ, List.map_append]; rfl
theorem factL_get (k j : Nat) (h : j < (factL k).length) : (factL k)[j] = ((factN j : Nat) : Int) := by simp [factL]
theorem factN_bd : ∀ j : Fin 8, 1 ≤ factN j.val ∧ factN j.val ≤ 5040 := by decide
theorem fact_bd (j : Nat) (h : j ≤ 7) : 1 ≤ factN j ∧ factN j ≤ 5040 := factN_bd ⟨j, by omega⟩
theorem w_small : ∀ (n : Fin 7) (s : Fin 7), s.val + 1 ≤ n.val → factN s.val * factN (n.val - 1 - s.val) ≤ 120 := by decide
theorem wN_bd (n g : Nat) (hn : n ≤ 6) (hs : szN n g + 1 ≤ n) : wN n g ≤ 120 := by
  unfold wN
  exact w_small ⟨n, by omega⟩ ⟨szN n g, by omega⟩ hs
theorem getD_bd {cs : List Int} (h : ∀ x ∈ cs, 0 ≤ x ∧ x ≤ 1000000000) (k : Nat) : 0 ≤ cs.getD k 0 ∧ cs.getD k 0 ≤ 1000000000 := by
  rw [List.getD_eq_getElem?_getD]
  cases h1 : cs[k]? with
  | none => simp
  | some x => exact h x (List.mem_of_getElem? h1)
theorem szN_at (n g i : Nat) (hn : n ≤ 6) (hg : g < 64) (hi : i < n) (h0 : bitN g i = 0) : szN n g + 1 ≤ n := szN_small ⟨n, by omega⟩ ⟨g, hg⟩ ⟨i, by omega⟩ hi h0
theorem term_bd (n : Nat) (hn : n ≤ 6) (cs : List Int) (h : ∀ x ∈ cs, 0 ≤ x ∧ x ≤ 1000000000) (g i : Nat) (hg : g < 64) (hi : i < n) : -120000000000 ≤ term n cs g i ∧ term n cs g i ≤ 120000000000 := by
  unfold term
  by_cases h0 : bitN g i = 0
  · rw [if_pos h0]
    have h1 := wN_bd n g hn (szN_at n g i hn hg hi h0)
    have h2 := getD_bd h (g + 2 ^ i)
    have h3 := getD_bd h g
    generalize cs.getD (g + 2 ^ i) 0 = a at *
    generalize cs.getD g 0 = b at *
    generalize wN n g = W at *
    have h4 : (W : Int) * (a - b) ≤ W * 1000000000 := Int.mul_le_mul_of_nonneg_left (by omega) (by omega)
    have h5 : (W : Int) * (-1000000000) ≤ W * (a - b) := Int.mul_le_mul_of_nonneg_left (by omega) (by omega)
    omega
  · rw [if_neg h0]; omega
theorem numTo_bd (n : Nat) (hn : n ≤ 6) (cs : List Int) (h : ∀ x ∈ cs, 0 ≤ x ∧ x ≤ 1000000000) (g i : Nat) (hg : g ≤ 64) (hi : i < n) : -(g * 120000000000 : Int) ≤ numTo n cs g i ∧ numTo n cs g i ≤ g * 120000000000 := by
  induction g with
  | zero => simp [numTo]
  | succ g ih =>
    have h1 := ih (by omega)
    have h2 := term_bd n hn cs h g i (by omega) hi
    simp only [numTo]
    omega
theorem numsF_len (n : Nat) (cs : List Int) (g : Nat) : (numsF n cs g).length = n := by simp [numsF]
theorem numsF_get (n : Nat) (cs : List Int) (g i : Nat) (h : i < (numsF n cs g).length) : (numsF n cs g)[i] = numTo n cs g i := by simp [numsF]
theorem set_self {L : List Int} {k : Nat} (hk : k < L.length) {x : Int} (h : L[k] = x) : L.set k x = L := by
  apply List.ext_getElem
  · simp
  · intro i h1 h2
    rw [List.getElem_set]
    split
    · rename_i e; subst e; exact h.symm
    · rfl
theorem fillN_at (L : List Int) (k : Nat) (hk : k < L.length) : (fillN L k)[k]'(by rw [fillN_len _ _ (by omega)]; exact hk) = 0 := by
  have hl : (L.take k).length = k := by rw [List.length_take]; omega
  unfold fillN
  rw [List.getElem_append_right (by omega)]
  simp

theorem el_Due : ElemOf Tryz.prog 38 44 2 24 := ElemOf.mk' (z := .agg #[.string ByteArray.empty, .int .i64 0]) Tryz.underlying38 (by kernel_rfl) rfl
theorem encDue_len (x : Due) : (encDue x).length = 2 := rfl
theorem encDue_one (x : Due) : ∀ v ∈ encDue x, v.oneCell' = true := by
  intro v hv; simp [encDue] at hv; rcases hv with rfl | rfl <;> rfl
theorem run_make_dues (n : Nat) (hn : n ≤ 100000) (w : World) : (Instr.makeSlice 38 (.int .i64 (n : Int)) (.int .i64 (n : Int))).run Tryz.prog w = .ok (.slice (some ⟨w.heap.size, 0, none⟩) n n) (w.alloc (.cells (madeCells #[.string ByteArray.empty, .int .i64 0] (n * 2)) 44)) := by
  obtain ⟨i, h1, h2, h3, h4⟩ := info_parts (show (Tryz.prog.info? 44).map (fun i => (i.zero, i.size, i.bytes)) = some (some (.agg #[.string ByteArray.empty, .int .i64 0]), 2, 24) by kernel_rfl)
  have h := run_make (P := Tryz.prog) w 38 44 i (.agg #[.string ByteArray.empty, .int .i64 0]) Tryz.underlying38 h1 h2 .i64 .i64 (n : Int) (n : Int) (by omega) (by omega) (by rw [h4]; omega) (by omega)
  rw [h]
  simp [h3, Value.cells]
theorem made_dues (n : Nat) : (madeCells #[.string ByteArray.empty, .int .i64 0] (n * 2)).toList = (List.replicate n (⟨ByteArray.empty, 0⟩ : Due)).flatMap encDue := by
  apply List.ext_getElem?
  intro j
  by_cases hj : j < n * 2
  · have h1 : (madeCells #[.string ByteArray.empty, .int .i64 0] (n * 2)).toList[j]? = some (#[Value.string ByteArray.empty, .int .i64 0][j % 2]!) := by
      simp [madeCells, hj]
    have h2 : (List.replicate n (⟨ByteArray.empty, 0⟩ : Due))[j / 2]? = some ⟨ByteArray.empty, 0⟩ := by
      rw [List.getElem?_replicate, if_pos (by omega)]
    have hm : j % 2 = 0 ∨ j % 2 = 1 := by omega
    have e : j / 2 * 2 + j % 2 = j := by omega
    rcases hm with hm | hm
    · have := flat_get (xs := List.replicate n (⟨ByteArray.empty, 0⟩ : Due)) encDue_len (j / 2) _ h2 (j % 2) (.string ByteArray.empty) (by rw [hm]; rfl)
      rw [e] at this
      rw [h1, this, hm]; rfl
    · have := flat_get (xs := List.replicate n (⟨ByteArray.empty, 0⟩ : Due)) encDue_len (j / 2) _ h2 (j % 2) (.int .i64 0) (by rw [hm]; rfl)
      rw [e] at this
      rw [h1, this, hm]; rfl
  · rw [List.getElem?_eq_none (by simp [madeCells]; omega), List.getElem?_eq_none (by rw [flat_len encDue_len]; simp; omega)]
theorem own_madeD (w : World) (n base : Nat) (hn : n ≤ 100000) (hb : base ≤ w.heap.size) {Z : Array Value} (hZ : Z.toList = (List.replicate n (⟨ByteArray.empty, 0⟩ : Due)).flatMap encDue) : (w.alloc (.cells Z 44)).ownsRow base 44 2 (.slice (some ⟨w.heap.size, 0, none⟩) n n) n ((List.replicate n (⟨ByteArray.empty, 0⟩ : Due)).flatMap encDue) := by
  have := own_lit (w := w.alloc (.cells Z 44)) (e := 44) (g := w.heap.size) (n := n) (m := n) (base := base) (xs := List.replicate n (⟨ByteArray.empty, 0⟩ : Due)) encDue_len (hnew rfl) hb hZ (by simp) (Nat.le_refl _) (by unfold maxLen; omega)
  rwa [List.take_of_length_le (by simp)] at this
theorem Nx.cellS {a w : World} (h : Nx a w) {p : Addr} {v : Value} (hc : a.cell? p = some v) : w.cell? p = some v :=
  (Below.cell h (World.block_lt_of_cell? a _ hc)).trans hc
section
variable {α : Type}
/-- A list filled up to k, the rest d. -/
def fillG (d : α) (L : List α) (k : Nat) : List α := L.take k ++ List.replicate (L.length - k) d
theorem fillG_len (d : α) (L : List α) (k : Nat) (hk : k ≤ L.length) : (fillG d L k).length = L.length := by unfold fillG; simp; omega
theorem fillG_zero (d : α) (L : List α) : fillG d L 0 = List.replicate L.length d := by simp [fillG]
theorem fillG_all (d : α) (L : List α) : fillG d L L.length = L := by simp [fillG]
theorem fillG_set (d : α) (L : List α) (k : Nat) (hk : k < L.length) : (fillG d L k).set k L[k] = fillG d L (k + 1) := by
  unfold fillG
  obtain ⟨m, hm⟩ : ∃ m, L.length - k = m + 1 := ⟨L.length - k - 1, by omega⟩
  have hm2 : L.length - (k + 1) = m := by omega
  have hl : (L.take k).length = k := by rw [List.length_take]; omega
  rw [hm, hm2, List.replicate_succ, List.set_append_right _ _ (by omega), hl, Nat.sub_self, List.set_cons_zero, List.take_succ_eq_append_getElem hk, List.append_assoc]; rfl
theorem rd_own {w : World} {base g cap n K : Nat} {e : TypeId} {enc : α → List Value} {xs : List α} (hk : ∀ x, (enc x).length = K) (hn : xs.length = n) (h : w.ownsRow base e K (.slice (some ⟨g, 0, none⟩) n cap) n (xs.flatMap enc)) : Rd w base (some ⟨g, 0, none⟩) K enc xs := by
  obtain ⟨A, c, ev, hR, _⟩ := Rd.of_own hk hn.symm h
  injection ev with e1 _ _
  rw [e1]; exact hR
end
end Go.Proofs.YtfnbmcinbmbehaaGreatDoor
/- Sums by key in a map; their list in new memory. -/
namespace Go.Proofs.YtfnbmcinbmbehaaGreatDoor
open Go.RowKit Go.Sort Go.Shelf Go.Maps Go.Proofs

theorem law_str : Keyed Tryz.prog 9 := string_keyed Tryz.underlying9
abbrev MpK (w : World) (b n : Nat) (f : ByteArray → Option Int) : Prop := MoI Tryz.prog 9 3 Value.string domS w b n f
theorem zeroIntK (w : World) : (zeroValue 3).run Tryz.prog w = .ok (.int .i64 0) w := by kernel_rfl

/-- A slice of dues in new memory. -/
def DuesR (f : ByteArray → Option Int) (zero : Bool) (w : World) (e : Ending) (w' : World) : Prop :=
  ∃ (A : Option Addr) (c : Nat) (ys : List Due), e = .returned (.slice A ys.length c) ∧ DuesOf f zero ys ∧ Rd w' w.heap.size A 2 encDue ys ∧ ys.length ≤ 65536 ∧ Nx w w'
theorem coll_startD {D : DataW Unit} {f : ByteArray → Option Int} {zero : Bool} (hM : MoD Tryz.prog 9 Value.string domS D f) : CollK f zero (has D) [] :=
  collK_start fun k hk => by rw [hM.has_ (hM.dm k hk) (keyS_mk Tryz.underlying9 (hM.dm k hk))]; exact hk
end Go.Proofs.YtfnbmcinbmbehaaGreatDoor
