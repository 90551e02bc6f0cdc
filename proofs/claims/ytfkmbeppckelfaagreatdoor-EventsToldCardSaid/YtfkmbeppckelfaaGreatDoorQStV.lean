/- The stream's event. -/
import Derived.Test.YtfkmbeppckelfaaGreatDoorQStE
import Derived.Test.YtfkmbeppckelfaaGreatDoorQG19
import Derived.Test.YtfkmbeppckelfaaGreatDoorQG22
import Derived.Deep.RegionHeld
namespace Go.Proofs.YtfkmbeppckelfaaGreatDoor
open Go.RowKit Go.Maps

/-- All rides' names are no giants. -/
theorem run_small {l : List Ev} (hok : ∀ x ∈ l, okEv x) (at_ : Int) : ∀ k j s, (runR l at_ k).rides j = some s → s.ride.size ≤ 1000 ∧ s.car.size ≤ 1000
  | 0, j, s, h => by cases h
  | k + 1, j, s, h => by
    have ih := run_small hok at_ k
    have he : eB.size ≤ 1000 := by decide
    unfold runR at h
    cases hx : l[k]? with
    | none => rw [hx] at h; exact ih j s h
    | some x =>
      rw [hx] at h
      simp only at h
      have hxo := hok x (List.mem_of_getElem? hx)
      split at h
      · unfold stepL at h
        split at h
        · exact ih j s h
        · split at h
          · exact ih j s h
          · simp only at h
            split at h
            · unfold doR at h
              simp only at h
              have hfr : ∀ j s, (if x.kind = 8 then (fun k_1 => ((runR l at_ k).rides k_1).map (freed x.car)) else (runR l at_ k).rides) j = some s → s.ride.size ≤ 1000 ∧ s.car.size ≤ 1000 := by
                intro j s h
                split at h
                · cases hr : (runR l at_ k).rides j with
                  | none => simp [hr] at h
                  | some t =>
                    simp [hr] at h
                    subst h
                    have := ih j t hr
                    unfold freed
                    split
                    · exact ⟨this.1, he⟩
                    · exact this
                · exact ih j s h
              split at h
              · exact hfr j s h
              · unfold updF at h
                split at h
                · injection h with h
                  subst h
                  have hg : (((runR l at_ k).rides x.ride).getD st0).ride.size ≤ 1000 ∧ (((runR l at_ k).rides x.ride).getD st0).car.size ≤ 1000 := by
                    cases hr : (runR l at_ k).rides x.ride with
                    | none => exact ⟨he, he⟩
                    | some t => exact ih _ t hr
                  unfold rideR
                  split
                  · exact ⟨hxo.ride, he⟩
                  · split
                    · exact ⟨hg.1, hxo.car⟩
                    · split
                      · exact hg
                      · split
                        · exact hg
                        · split
                          · exact hg
                          · split
                            · exact hg
                            · exact hg
                · exact hfr j s h
            · exact ih j s h
      · exact ih j s h
theorem stsR_small {l : List Ev} (hok : ∀ x ∈ l, okEv x) (at_ : Int) (ks : List ByteArray) : ∀ s ∈ stsR (runR l at_ l.length).rides ks, s.ride.size ≤ 1000 ∧ s.car.size ≤ 1000 := by
  intro s hs
  unfold stsR at hs
  obtain ⟨k, _, rfl⟩ := List.mem_map.1 hs
  cases hr : (runR l at_ l.length).rides k with
  | none => exact ⟨by decide, by decide⟩
  | some t => exact run_small hok at_ _ k t hr
/-- An event in a block of its own, right in its sizes. -/
def BoxE (b : Nat) (w : World) : Prop := ∃ x : Ev, okEv x ∧ w.heap[b]? = some (.cells (evA x) 31 (0, 0))
theorem boxE_ev (b : Nat) : EvBox b 0 (BoxE b) where
  get w h := by
    obtain ⟨x, hok, hb⟩ := h
    exact ⟨x, hok, fun j u hu => by rw [Nat.zero_add]; exact (cell_of_row w b j _ _ _ hb).trans (by rw [← hu]; show (evA x)[j]? = _; rw [← Array.getElem?_toList]; rfl)⟩
  frz w j h := by obtain ⟨x, _, hb⟩ := h; simp [World.frozen?, hb]
  lt w h := by obtain ⟨x, _, hb⟩ := h; exact (Array.getElem?_eq_some_iff.1 hb).1
  setS w j t h hj ht := by
    obtain ⟨x, hok, hb⟩ := h
    have hs := heap_set (i := 0 + j) (u := .string t) hb
    rcases hj with rfl | rfl | rfl | rfl | rfl
    · exact ⟨{ x with source := t }, ⟨ht, hok.ride, hok.car, hok.node, hok.from_, hok.no, hok.at_, hok.kind, hok.up, hok.down, hok.number⟩, hs⟩
    · exact ⟨{ x with ride := t }, ⟨hok.source, ht, hok.car, hok.node, hok.from_, hok.no, hok.at_, hok.kind, hok.up, hok.down, hok.number⟩, hs⟩
    · exact ⟨{ x with car := t }, ⟨hok.source, hok.ride, ht, hok.node, hok.from_, hok.no, hok.at_, hok.kind, hok.up, hok.down, hok.number⟩, hs⟩
    · exact ⟨{ x with node := t }, ⟨hok.source, hok.ride, hok.car, ht, hok.from_, hok.no, hok.at_, hok.kind, hok.up, hok.down, hok.number⟩, hs⟩
    · exact ⟨{ x with from_ := t }, ⟨hok.source, hok.ride, hok.car, hok.node, ht, hok.no, hok.at_, hok.kind, hok.up, hok.down, hok.number⟩, hs⟩
  setI w j z h hj hz := by
    obtain ⟨x, hok, hb⟩ := h
    have hs := heap_set (i := 0 + j) (u := .int .i64 z) hb
    rcases hj with rfl | rfl | rfl | rfl | rfl | rfl
    · exact ⟨{ x with no := z }, ⟨hok.source, hok.ride, hok.car, hok.node, hok.from_, hz, hok.at_, hok.kind, hok.up, hok.down, hok.number⟩, hs⟩
    · exact ⟨{ x with at_ := z }, ⟨hok.source, hok.ride, hok.car, hok.node, hok.from_, hok.no, hz, hok.kind, hok.up, hok.down, hok.number⟩, hs⟩
    · exact ⟨{ x with kind := z }, ⟨hok.source, hok.ride, hok.car, hok.node, hok.from_, hok.no, hok.at_, hz, hok.up, hok.down, hok.number⟩, hs⟩
    · exact ⟨{ x with up := z }, ⟨hok.source, hok.ride, hok.car, hok.node, hok.from_, hok.no, hok.at_, hok.kind, hz, hok.down, hok.number⟩, hs⟩
    · exact ⟨{ x with down := z }, ⟨hok.source, hok.ride, hok.car, hok.node, hok.from_, hok.no, hok.at_, hok.kind, hok.up, hz, hok.number⟩, hs⟩
    · exact ⟨{ x with number := z }, ⟨hok.source, hok.ride, hok.car, hok.node, hok.from_, hok.no, hok.at_, hok.kind, hok.up, hok.down, hz⟩, hs⟩
  same w w' h e _ := by obtain ⟨x, hok, hb⟩ := h; exact ⟨x, hok, e.trans hb⟩
end Go.Proofs.YtfkmbeppckelfaaGreatDoor
