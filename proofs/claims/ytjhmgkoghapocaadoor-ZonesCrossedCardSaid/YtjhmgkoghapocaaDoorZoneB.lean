/- Strings in a list: by halving a sorted one, by looking at all. -/
import Derived.Test.YtjhmgkoghapocaaDoorShelfZ
import Derived.Test.YtjhmgkoghapocaaDoorZoneS
import Derived.Test.YtjhmgkoghapocaaDoorRis
import Derived.Shelf.Spec.SearchS
import Derived.Shelf.Slices.Turned
namespace Go.Proofs.YtjhmgkoghapocaaDoor
open Go.RowKit Go.Proofs Go.Shelf

theorem less_iff (a b : ByteArray) : Op.bytesLess a.toList b.toList = true ↔ ltS a b := by
  rw [bytesLess_eq, Lib.toList_data, Lib.toList_data, decide_eq_true_eq]; rfl
/-- Where x would stand in a sorted list. -/
theorem place (x : ByteArray) : ∀ l : List ByteArray, l.Pairwise ltS → ∃ k, k ≤ l.length ∧ (∀ t (h : t < l.length), t < k → ltS l[t] x) ∧ (∀ t (h : t < l.length), k ≤ t → ¬ ltS l[t] x)
  | [], _ => ⟨0, by simp, fun t h => absurd h (by simp), fun t h => absurd h (by simp)⟩
  | a :: l, hs => by
    rw [List.pairwise_cons] at hs
    obtain ⟨k, h1, h2, h3⟩ := place x l hs.2
    by_cases ha : ltS a x
    · refine ⟨k + 1, by simp; omega, fun t h ht => ?_, fun t h ht => ?_⟩
      · rcases t with _ | t
        · exact ha
        · exact h2 t (by simpa using h) (by omega)
      · rcases t with _ | t
        · omega
        · exact h3 t (by simpa using h) (by omega)
    · refine ⟨0, by simp, fun t h ht => by omega, fun t h ht hl => ?_⟩
      rcases t with _ | t
      · exact ha hl
      · have hm : l[t]'(by simpa using h) ∈ l := List.getElem_mem _
        exact ha (ltS_trans (hs.1 _ hm) hl)
theorem pair_lt {l : List ByteArray} (hs : l.Pairwise ltS) (i j : Nat) (hij : i < j) (hj : j < l.length) : ltS (l[i]'(by omega)) l[j] := by
  rw [List.pairwise_iff_getElem] at hs
  exact hs i j (by omega) hj hij

theorem w_BinS (lo : Nat) (A : Option Addr) (c : Nat) (l : List ByteArray) (x : ByteArray) (w : World) (hR : Rd w lo A 1 encS l) (hl : l.length ≤ 65536) (hs : l.Pairwise ltS) :
    Calls Tryd.prog 88 #[.slice A l.length c, .string x] w fun e w' => ∃ r : Int, e = .returned (.tuple #[.int .i64 r, .bool (memB l x)]) ∧ Nx w w' := by
  by_cases h0 : l.length = 0
  · have e : l = [] := List.eq_nil_of_length_eq_zero h0
    subst e
    have hcon := Any2.slices_BinarySearch_string_empty Tryd.binStr A c x w
    change Calls Tryd.prog 88 _ _ _ at hcon
    exact hcon.mono fun _ _ ⟨h1, h2⟩ => ⟨0, h1, h2 ▸ Nx.refl _⟩
  · obtain ⟨b, off, rfl, _, hb, _, hc⟩ := hR.open_ (Nx.refl w) (by omega)
    have hcell : ∀ j, j < l.length → w.cell? ⟨b, off + j, none⟩ = some (.string (l.getD j x)) := fun j hj => by
      have := hc j hj 0 _ rfl
      rw [List.getD_eq_getElem?_getD, List.getElem?_eq_getElem hj]
      simpa using this
    have hcon := Any2.slices_BinarySearch_string Tryd.binStr b off l.length c (fun t => l.getD t x) x w (by omega) hcell
    change Calls Tryd.prog 88 _ _ _ at hcon
    obtain ⟨k, h1, h2, h3⟩ := place x l hs
    have hg : ∀ t (h : t < l.length), l.getD t x = l[t] := fun t h => by rw [List.getD_eq_getElem?_getD, List.getElem?_eq_getElem h]; rfl
    have hbs : Lib.bsGo (fun t => Op.bytesLess (l.getD t x).toList x.toList) l.length 0 l.length = k := by
      refine Lib.bsGo_spec _ k (fun t ht => ?_) (fun t ht => ?_) _ _ _ (by omega) (by omega) h1
      · show Op.bytesLess (l.getD t x).toList x.toList = true
        rw [less_iff, hg t (by omega)]
        exact h2 t (by omega) ht
      · show Op.bytesLess (l.getD t x).toList x.toList = false
        rw [← Bool.not_eq_true, less_iff]
        by_cases hlt : t < l.length
        · rw [hg t hlt]; exact h3 t hlt ht
        · rw [List.getD_eq_getElem?_getD, List.getElem?_eq_none (by omega)]
          exact ltS_irrefl _
    rw [hbs] at hcon
    refine hcon.mono ?_
    rintro e w' ⟨he, q, rfl⟩
    refine ⟨k, ?_, (Nx.refl _).drewN q⟩
    suffices hbm : decide (k < l.length ∧ l.getD k x = x) = memB l x by rw [he, hbm]
    rw [Bool.eq_iff_iff, decide_eq_true_eq, memB_iff]
    constructor
    · rintro ⟨hk, e⟩
      have e2 : l[k] = x := by rw [← hg k hk]; exact e
      rw [← e2]; exact List.getElem_mem hk
    · intro hm
      obtain ⟨i, hi, e⟩ := List.mem_iff_getElem.1 hm
      have hik : k ≤ i := by
        refine Classical.byContradiction fun hc => ?_
        have := h2 i hi (by omega)
        rw [e] at this; exact ltS_irrefl _ this
      have ek : i = k := by
        refine Classical.byContradiction fun hc => ?_
        have := pair_lt hs k i (by omega) hi
        rw [e] at this
        exact h3 k (by omega) (Nat.le_refl _) this
      subst ek
      exact ⟨hi, by rw [hg i hi, e]⟩
theorem w_ContS (lo : Nat) (A : Option Addr) (c : Nat) (l : List ByteArray) (x : ByteArray) (w : World) (hR : Rd w lo A 1 encS l) (hl : l.length ≤ 65536) :
    Calls Tryd.prog 67 #[.slice A l.length c, .string x] w fun e w' => e = .returned (.bool (memB l x)) ∧ Nx w w' := by
  by_cases h0 : l.length = 0
  · have e : l = [] := List.eq_nil_of_length_eq_zero h0
    subst e
    have hcon := Any.slices_Contains_string_empty Tryd.containsStr A c x w
    change Calls Tryd.prog 67 _ _ _ at hcon
    exact hcon.mono fun _ _ ⟨h1, h2⟩ => ⟨h1, h2 ▸ Nx.refl _⟩
  · obtain ⟨b, off, rfl, _, hb, _, hc⟩ := hR.open_ (Nx.refl w) (by omega)
    have hcell : ∀ j, j < l.length → w.cell? ⟨b, off + j, none⟩ = some (.string (l.getD j ByteArray.empty)) := fun j hj => by
      have := hc j hj 0 _ rfl
      rw [List.getD_eq_getElem?_getD, List.getElem?_eq_getElem hj]
      simpa using this
    have hcon := Any.slices_Contains_string Tryd.containsStr b off l.length c l x w (Nat.le_refl _) (by omega) hcell
    change Calls Tryd.prog 67 _ _ _ at hcon
    have e : Lib.containsS (l.take l.length) x = memB l x := by
      rw [List.take_length, Bool.eq_iff_iff, Lib.containsS_iff, memB_iff]
    rw [e] at hcon
    exact hcon.mono fun _ _ ⟨h1, h2⟩ => ⟨h1, h2 ▸ Nx.refl _⟩
end Go.Proofs.YtjhmgkoghapocaaDoor
