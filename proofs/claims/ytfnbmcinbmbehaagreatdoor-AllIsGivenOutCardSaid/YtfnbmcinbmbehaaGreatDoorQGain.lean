/- Groups that would pay less alone. -/
import Derived.Test.YtfnbmcinbmbehaaGreatDoorQG9
namespace Go.Proofs.YtfnbmcinbmbehaaGreatDoor
open Go.RowKit Go.Sort Go.Proofs Go.Shelf

theorem el_S : ElemOf Tryz.prog 30 9 1 16 := ElemOf.mk' (z := .string ByteArray.empty) Tryz.underlying30 (by kernel_rfl) rfl
theorem encS_len (x : ByteArray) : (encS x).length = 1 := rfl
theorem encS_one (x : ByteArray) : ∀ v ∈ encS x, v.oneCell' = true := by
  intro v hv; simp [encS] at hv; subst hv; rfl
theorem sumG_bd (cs : List Int) (hc : ∀ x ∈ cs, -1000000000 ≤ x ∧ x ≤ 1000000000) (g k : Nat) : -(k * 1000000000 : Int) ≤ sumG cs g k ∧ sumG cs g k ≤ k * 1000000000 := by
  induction k with
  | zero => simp [sumG]
  | succ k ih =>
    have h : -1000000000 ≤ cs.getD k 0 ∧ cs.getD k 0 ≤ 1000000000 := by
      rw [List.getD_eq_getElem?_getD]
      cases h : cs[k]? with
      | none => simp
      | some x => exact hc x (List.mem_of_getElem? h)
    have e : ((k + 1 : Nat) : Int) = (k : Int) + 1 := by omega
    simp only [sumG]
    split <;> omega
theorem whoTo_len (rides : List ByteArray) (g k : Nat) : (whoTo rides g k).length ≤ k := by
  induction k with
  | zero => exact Nat.le_refl _
  | succ k ih =>
    simp only [whoTo]
    split
    · rw [List.length_append]; simp; omega
    · omega
theorem gainL_drop (rides : List ByteArray) (ct cs : List Int) (m g : Nat) (hg : g < m) : gainL rides ct cs ((List.range m).drop g) = if cs.getD g 0 < sumG ct g rides.length then whoTo rides g rides.length else gainL rides ct cs ((List.range m).drop (g + 1)) := by
  rw [List.drop_eq_getElem_cons (by simpa using hg)]
  simp [gainL]
/-- The first group that would pay less. -/
def gainV (rides : List ByteArray) (cs : List Int) (ds : List Due) : List ByteArray := gainL rides (ds.map (·.cents)) cs (List.range (2 ^ rides.length))
/-- Keys, or a fault. -/
def KeysU (F : Int) (who : List ByteArray) (w : World) (e : Ending) (w' : World) : Prop :=
  ∃ (A : Option Addr) (c : Nat) (zs : List ByteArray), e = .returned (.tuple #[.slice A zs.length c, .int .i64 F]) ∧ zs = (if F = 0 then who else []) ∧ Rd w' w.heap.size A 1 encS zs ∧ Nx w w'
theorem KeysU.no {F : Int} {who : List ByteArray} {w w' : World} (h : F ≠ 0) (hn : Nx w w') : KeysU F who w (.returned (.tuple #[.slice none 0 0, .int .i64 F])) w' := ⟨none, 0, [], rfl, by rw [if_neg h], Rd.nil, hn⟩

theorem duesF_right {l : List ByteArray} {ds : List Due} (h : duesF l ds = 0) : l = ds.map (·.key) ∧ ds.any badD = false := by
  unfold duesF at h
  by_cases h1 : l = ds.map (·.key)
  · rw [if_pos h1] at h
    cases h2 : ds.any badD
    · exact ⟨h1, rfl⟩
    · rw [show (ds.any fun d => outB d.cents (-maxCt) maxCt) = true from h2] at h; simp at h
  · rw [if_neg h1] at h; omega
theorem fairF_right {l : List ByteArray} {cs : List Int} (h : fairF l cs = 0) : l.length ≤ 10 ∧ cs.length = 2 ^ l.length ∧ cs.getD 0 0 = 0 ∧ ∀ x ∈ cs, 0 ≤ x ∧ x ≤ 1000000000 := by
  unfold fairF at h
  by_cases h1 : keysF l = 0
  · rw [if_pos h1] at h
    by_cases h2 : cs.length = 2 ^ l.length
    · rw [if_pos h2] at h
      by_cases h3 : cs.getD 0 0 ≠ 0 ∨ cs.any centB = true
      · rw [if_pos h3] at h; omega
      · refine ⟨keysF_len h1, h2, Classical.byContradiction fun h4 => h3 (.inl h4), fun x hx => centB_bd ?_⟩
        cases h5 : centB x
        · rfl
        · exact absurd (.inr (List.any_eq_true.2 ⟨x, hx, h5⟩)) h3
    · rw [if_neg h2] at h; omega
  · rw [if_neg h1] at h; exact absurd h h1
theorem badD_bd {ds : List Due} (h : ds.any badD = false) : ∀ x ∈ ds.map (·.cents), -1000000000 ≤ x ∧ x ≤ 1000000000 := by
  intro x hx
  obtain ⟨d, hd, rfl⟩ := List.mem_map.1 hx
  have : badD d = false := by
    cases h1 : badD d
    · rfl
    · exact absurd (List.any_eq_true.2 ⟨d, hd, h1⟩) (by rw [h]; simp)
  have := outB_false.1 this
  unfold maxCt at this
  exact this

theorem bit_zero (i : Nat) : bitN 0 i = 0 := by unfold bitN; simp
theorem sumG_zero (cs : List Int) (k : Nat) : sumG cs 0 k = 0 := by
  induction k with
  | zero => rfl
  | succ k ih => simp only [sumG]; rw [bit_zero, if_neg (by omega), ih]
end Go.Proofs.YtfnbmcinbmbehaaGreatDoor
