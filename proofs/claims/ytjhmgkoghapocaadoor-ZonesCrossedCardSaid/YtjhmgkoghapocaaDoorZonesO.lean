/- Zones in the making. -/
import Derived.Test.YtjhmgkoghapocaaDoorZoneF
import Derived.Test.YtjhmgkoghapocaaDoorLegsS
namespace Go.Proofs.YtjhmgkoghapocaaDoor
open Go.RowKit Go.Sort Go.Proofs Go.Shelf

theorem el_Zone : ElemOf Tryd.prog 55 93 2 40 := ElemOf.mk' (z := .agg #[.string ByteArray.empty, .slice none 0 0]) Tryd.underlying55 (by kernel_rfl) rfl
theorem encZone_len (x : Zone) : (encZone x).length = 2 := rfl
theorem encZone_one (x : Zone) : ∀ v ∈ encZone x, v.oneCell' = true := by
  intro v hv; simp [encZone] at hv; rcases hv with rfl | rfl <;> rfl
def rowZ (x : Zone) : Value := .slice x.a x.nodes.length x.cap
/-- Zones in the making: each one's nodes a row of the call's own, all of them apart. -/
structure OwnZones (w : World) (base nb g : Nat) (zs : List Zone) : Prop where
  row : w.ownsRow base 93 2 (.slice (some ⟨g, 0, none⟩) zs.length zs.length) zs.length (zs.flatMap encZone)
  each : ∀ i (h : i < zs.length), w.ownsRow nb 9 1 (rowZ zs[i]) zs[i].nodes.length (zs[i].nodes.flatMap encS) ∧ Small zs[i].nodes ∧ zs[i].key.size ≤ 1000000
  apart : ∀ i j (h : i < zs.length) (h' : j < zs.length), i ≠ j → ∀ b, (rowZ zs[i]).ownBlock = some b → (rowZ zs[j]).ownBlock ≠ some b
theorem OwnZones.gr {w w' : World} {s base nb g : Nat} {zs : List Zone} (h : OwnZones w base nb g zs) (hn : Gr s w w') (hs : s < base) (hb : base ≤ nb) : OwnZones w' base nb g zs :=
  ⟨own_gr h.row hn hs, fun i hi => ⟨own_gr (h.each i hi).1 hn (by omega), (h.each i hi).2⟩, h.apart⟩
theorem OwnZones.nx {w w' : World} {base nb g : Nat} {zs : List Zone} (h : OwnZones w base nb g zs) (hn : Nx w w') : OwnZones w' base nb g zs :=
  ⟨own_nx h.row hn, fun i hi => ⟨own_nx (h.each i hi).1 hn, (h.each i hi).2⟩, h.apart⟩
theorem OwnZones.rd {w : World} {base nb g : Nat} {zs : List Zone} (h : OwnZones w base nb g zs) (hb : base ≤ nb) (h4 : ∀ x ∈ zs, x.nodes.length ≤ 400) : RdZones w base (some ⟨g, 0, none⟩) zs :=
  ⟨rd_ownv encZone_len rfl h.row, fun x hx => by
    obtain ⟨i, hi, e⟩ := List.mem_iff_getElem.1 hx
    obtain ⟨r1, r2, r3⟩ := h.each i hi
    rw [e] at r1 r2 r3
    exact ⟨(rd_ownv encS_len rfl r1).low hb, r2, h4 x hx, r3⟩⟩
/-- One zone gets one node more. -/
theorem OwnZones.app {w w' : World} {base nb g g5 c5 q : Nat} {zs : List Zone} {nd : ByteArray} (h : OwnZones w base nb g zs) (hq : q < zs.length) (hg : w.grownBy w' (rowZ zs[q]).ownBlock)
    (hn : w'.ownsRow nb 9 1 (.slice (some ⟨g5, 0, none⟩) (zs[q].nodes.length + 1) c5) (zs[q].nodes.length + 1) (zs[q].nodes.flatMap encS ++ [.string nd]))
    (hat : (rowZ zs[q]).ownBlock = some g5 ∨ g5 = w.heap.size) (hs : nd.size ≤ 1000000) :
    OwnZones (w'.setCell ⟨g, q * 2 + 1, none⟩ (.slice (some ⟨g5, 0, none⟩) (zs[q].nodes.length + 1) c5)) base nb g (zs.set q ⟨zs[q].key, some ⟨g5, 0, none⟩, c5, zs[q].nodes ++ [nd]⟩) := by
  have hr := h.row.kept hg (own_apart h.row (h.each q hq).1 (by decide))
  have hset := own_set encZone_len rfl hr q hq 1 (by omega) (.slice (some ⟨g5, 0, none⟩) (zs[q].nodes.length + 1) c5) ⟨zs[q].key, some ⟨g5, 0, none⟩, c5, zs[q].nodes ++ [nd]⟩ (by simp [encZone]) (q * 2 + 1) rfl
  have hl : (zs.set q ⟨zs[q].key, some ⟨g5, 0, none⟩, c5, zs[q].nodes ++ [nd]⟩).length = zs.length := List.length_set ..
  have keep : ∀ {v : Value} {m : Nat} {xs : List Value}, w'.ownsRow nb 9 1 v m xs → (w'.setCell ⟨g, q * 2 + 1, none⟩ (.slice (some ⟨g5, 0, none⟩) (zs[q].nodes.length + 1) c5)).ownsRow nb 9 1 v m xs := fun hv =>
    hv.kept ((Gr.refl g _).setS (p := ⟨g, q * 2 + 1, none⟩) (.inl rfl) (.slice (some ⟨g5, 0, none⟩) (zs[q].nodes.length + 1) c5)) (own_apart hv hr (by decide))
  refine ⟨by rw [hl]; exact hset, fun i hi => ?_, fun i j hi hj hij b hb => ?_⟩
  · have hi' : i < zs.length := by rw [hl] at hi; exact hi
    rw [List.getElem_set]
    by_cases e : q = i
    · subst e
      rw [if_pos rfl]
      refine ⟨?_, ?_, (h.each q hq).2.2⟩
      · show (w'.setCell _ _).ownsRow nb 9 1 (.slice (some ⟨g5, 0, none⟩) (zs[q].nodes ++ [nd]).length c5) (zs[q].nodes ++ [nd]).length ((zs[q].nodes ++ [nd]).flatMap encS)
        rw [List.length_append, List.flatMap_append]
        exact keep hn
      · intro t ht
        rcases List.mem_append.1 ht with ht | ht
        · exact (h.each q hq).2.1 t ht
        · simp at ht; subst ht; exact hs
    · rw [if_neg e]
      obtain ⟨r1, r2⟩ := h.each i hi'
      refine ⟨keep (r1.kept hg ?_), r2⟩
      cases ho : (rowZ zs[i]).ownBlock with
      | none => exact .inl rfl
      | some b => exact .inr (fun hc => h.apart i q hi' hq (fun e2 => e e2.symm) b ho hc.symm)
  · have hi' : i < zs.length := by rw [hl] at hi; exact hi
    have hj' : j < zs.length := by rw [hl] at hj; exact hj
    rw [List.getElem_set] at hb ⊢
    have key : ∀ t (ht : t < zs.length), t ≠ q → (rowZ zs[t]).ownBlock ≠ some g5 := fun t ht hne hc => by
      rcases hat with hat | hat
      · exact h.apart t q ht hq hne g5 hc hat
      · have := ((h.each t ht).1.lt g5 hc).2
        omega
    by_cases e1 : q = i
    · rw [if_pos e1] at hb
      rw [if_neg (fun e2 => hij (e1.symm.trans e2))]
      have eb : b = g5 := by
        have : (rowZ ⟨zs[q].key, some ⟨g5, 0, none⟩, c5, zs[q].nodes ++ [nd]⟩).ownBlock = some g5 := rfl
        rw [this] at hb; injection hb with hb; exact hb.symm
      subst eb
      exact key j hj' (fun e2 => hij (e1.symm.trans e2.symm))
    · rw [if_neg e1] at hb
      by_cases e2 : q = j
      · rw [if_pos e2]
        intro hc
        have eb : b = g5 := by
          have : (rowZ ⟨zs[q].key, some ⟨g5, 0, none⟩, c5, zs[q].nodes ++ [nd]⟩).ownBlock = some g5 := rfl
          rw [this] at hc; injection hc with hc; exact hc.symm
        subst eb
        exact key i hi' (fun e3 => e1 e3.symm) hb
      · rw [if_neg e2]
        exact h.apart i j hi' hj' hij b hb
/-- One zone gets another key and other nodes. -/
theorem OwnZones.twist {w : World} {base nb b2 g q n c : Nat} {a : Option Addr} {zs : List Zone} {nodes : List ByteArray} {ky : ByteArray} (h : OwnZones w base nb g zs) (hq : q < zs.length) (hbn : base ≤ nb) (hb : base ≤ b2) (hr : w.ownsRow b2 9 1 (.slice a n c) n (nodes.flatMap encS)) (hn : n = nodes.length) (hs : Small nodes) (hk : ky.size ≤ 1000000) (h4 : nodes.length ≤ 400) (h5 : ∀ x ∈ zs, x.nodes.length ≤ 400) :
    RdZones ((w.setCell ⟨g, q * 2, none⟩ (.string ky)).setCell ⟨g, q * 2 + 1, none⟩ (.slice a n c)) base (some ⟨g, 0, none⟩) (zs.set q ⟨ky, a, c, nodes⟩) := by
  subst hn
  have o1 := own_set encZone_len rfl h.row q hq 0 (by omega) (.string ky) ⟨ky, zs[q].a, zs[q].cap, zs[q].nodes⟩ (by simp [encZone]) (q * 2) rfl
  have o2 := own_set encZone_len (by rw [List.length_set]) o1 q (by rw [List.length_set]; exact hq) 1 (by omega) (.slice a nodes.length c) ⟨ky, a, c, nodes⟩ (by simp [encZone]) (q * 2 + 1) (by omega)
  rw [List.set_set] at o2
  have keep : ∀ {v : Value} {m b : Nat} {xs : List Value}, w.ownsRow b 9 1 v m xs → ((w.setCell ⟨g, q * 2, none⟩ (.string ky)).setCell ⟨g, q * 2 + 1, none⟩ (.slice a nodes.length c)).ownsRow b 9 1 v m xs := fun hv => by
    have k1 := hv.kept ((Gr.refl g _).setS (p := ⟨g, q * 2, none⟩) (.inl rfl) (.string ky)) (own_apart hv h.row (by decide))
    exact k1.kept ((Gr.refl g _).setS (p := ⟨g, q * 2 + 1, none⟩) (.inl rfl) (.slice a nodes.length c)) (own_apart k1 o1 (by decide))
  have hR : Rd ((w.setCell ⟨g, q * 2, none⟩ (.string ky)).setCell ⟨g, q * 2 + 1, none⟩ (.slice a nodes.length c)) base (some ⟨g, 0, none⟩) 2 encZone (zs.set q ⟨ky, a, c, nodes⟩) := rd_ownv encZone_len (by rw [List.length_set]) o2
  refine ⟨hR, fun x hx => ?_⟩
  rcases List.mem_or_eq_of_mem_set hx with hx | rfl
  · obtain ⟨i, hi, e⟩ := List.mem_iff_getElem.1 hx
    obtain ⟨r1, r2, r3⟩ := h.each i hi
    rw [e] at r1 r2 r3
    exact ⟨(rd_ownv encS_len rfl (keep r1)).low hbn, r2, h5 x hx, r3⟩
  · exact ⟨(rd_ownv encS_len rfl (keep hr)).low hb, hs, h4, hk⟩
end Go.Proofs.YtjhmgkoghapocaaDoor
