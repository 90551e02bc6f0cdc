/- The reference's out times: what may be bettered, and the loops. -/
import Derived.Test.YtbjbeddjaajdaaaGreatDoorQG16
import Derived.Test.YtbjbeddjaajdaaaGreatDoorQG13
import Derived.Test.YtbjbeddjaajdaaaGreatDoorQG14
import Derived.Test.YtbjbeddjaajdaaaGreatDoorQG21
import Derived.Test.YtbjbeddjaajdaaaGreatDoorQArcT
import Derived.Test.YtbjbeddjaajdaaaGreatDoorQG28
import Derived.Deep.LoopGhost
namespace Go.Proofs.YtbjbeddjaajdaaaGreatDoor
open Go.RowKit

def intRowO (l : List Int) : Obj := .cells (l.map (Value.int .i64)).toArray 3 (0, 0)
theorem intRowO_set (l : List Int) (i : Nat) (v : Int) : (l.map (Value.int .i64)).toArray.setIfInBounds i (.int .i64 v) = ((l.set i v).map (Value.int .i64)).toArray := by
  apply Array.ext'
  simp [List.map_set]
theorem intRowO_cell {w : World} {g : Nat} {l : List Int} (h : w.heap[g]? = some (intRowO l)) {i : Nat} (hi : i < l.length) : w.cell? ⟨g, i, none⟩ = some (.int .i64 (gi l i)) := by
  refine (cell_of_row w g i _ _ _ h).trans ?_
  rw [← Array.getElem?_toList]
  simp [hi, gi]
/-- The roads' box, the row, the row's box. -/
structure OM (w0 w : World) (A B C : Option Addr) (nn m nb ca cb cc : Nat) (o : List Int) : Prop where
  nx : Nx w0 w
  box : w.heap[w0.heap.size]? = some (.cells #[.slice A nn ca, .slice B m cb, .slice C nb cc] 30 (0, 0))
  row : w.heap[w0.heap.size + 1]? = some (intRowO o)
  var_ : w.heap[w0.heap.size + 2]? = some (.cells #[.slice (some ⟨w0.heap.size + 1, 0, none⟩) m m] 22 (0, 0))
  len : o.length = m
section
variable {w0 w w' : World} {A B C : Option Addr} {nn m nb ca cb cc : Nat} {o : List Int}
theorem OM.step (h : OM w0 w A B C nn m nb ca cb cc o) (hn : Nx w w') : OM w0 w' A B C nn m nb ca cb cc o :=
  ⟨h.nx.trans hn, (hn.block _ (Array.getElem?_eq_some_iff.1 h.box).1).trans h.box, (hn.block _ (Array.getElem?_eq_some_iff.1 h.row).1).trans h.row, (hn.block _ (Array.getElem?_eq_some_iff.1 h.var_).1).trans h.var_, h.len⟩
theorem OM.set (h : OM w0 w A B C nn m nb ca cb cc o) (i : Nat) (v : Int) : OM w0 (w.setCell ⟨w0.heap.size + 1, i, none⟩ (.int .i64 v)) A B C nn m nb ca cb cc (o.set i v) := by
  refine ⟨h.nx.setCell (by show _ ≤ w0.heap.size + 1; omega) _, (Below.heap_setCell _ _ _ _ (by show w0.heap.size ≠ w0.heap.size + 1; omega)).trans h.box, ?_, (Below.heap_setCell _ _ _ _ (by show w0.heap.size + 2 ≠ w0.heap.size + 1; omega)).trans h.var_, by simpa using h.len⟩
  rw [heap_set h.row, intRowO_set]; rfl
theorem OM.b1 (h : OM w0 w A B C nn m nb ca cb cc o) : w.cell? ⟨w0.heap.size, 1, none⟩ = some (.slice B m cb) := (cell_of_row w _ 1 _ _ _ h.box).trans rfl
theorem OM.v0 (h : OM w0 w A B C nn m nb ca cb cc o) : w.cell? ⟨w0.heap.size + 2, 0, none⟩ = some (.slice (some ⟨w0.heap.size + 1, 0, none⟩) m m) := (cell_of_row w _ 0 _ _ _ h.var_).trans rfl
end
set_option maxRecDepth 100000 in
set_option maxHeartbeats 4000000 in
theorem w_better (w0 w : World) (lo : Nat) (A B C : Option Addr) (nn nb ca cb cc : Nat) (ns : List Node) (rs : List Arc) (bs : List Ban) (o : List Int) (i : Nat) (t : Int)
    (hA : RdArcs w0 lo B rs) (hal : rs.length ≤ 400) (hKO : ∀ x ∈ rs, KOk x.knots) (hS : OM w0 w A B C nn rs.length nb ca cb cc o) (hi : i < rs.length) (ht : 0 ≤ t) :
    Calls Tryz.prog 175 #[.int .i64 (i : Int), .int .i64 t, .pointer (some ⟨w0.heap.size, 0, none⟩), .pointer (some ⟨w0.heap.size + 2, 0, none⟩)] w
      fun e w' => e = .returned (.bool (betB (gphOf ns rs bs) o i t)) ∧ OM w0 w' A B C nn rs.length nb ca cb cc (betO (gphOf ns rs bs) o i t) ∧ Gr (w0.heap.size + 1) w w' := by
  by_cases he : t < 345686400000
  · have hAw := hA.nx hS.nx
    obtain ⟨hKx, hLx, hSx⟩ := hAw.2 rs[i] (List.getElem_mem hi)
    have hko := hKO rs[i] (List.getElem_mem hi)
    obtain ⟨b, off, rfl, _, hb, hbr, hc⟩ := hAw.1.open_ (Nx.refl w) (by omega)
    have a0 : w.cell? ⟨b, off + i * 5, none⟩ = some (.string rs[i].key) := hc i hi 0 _ rfl
    have a1 : w.cell? ⟨b, off + i * 5 + 1, none⟩ = some (.string rs[i].from_) := hc i hi 1 _ rfl
    have a2 : w.cell? ⟨b, off + i * 5 + 2, none⟩ = some (.string rs[i].to_) := hc i hi 2 _ rfl
    have a3 : w.cell? ⟨b, off + i * 5 + 3, none⟩ = some (.int .i64 rs[i].long) := hc i hi 3 _ rfl
    have a4 : w.cell? ⟨b, off + i * 5 + 4, none⟩ = some (.slice rs[i].ka rs[i].knots.length rs[i].kc) := hc i hi 4 _ rfl
    have HT := hide (w_ArcTime lo rs[i] t w hKx hko ⟨ht, by omega⟩)
    have htb := time_bd hko t
    have HOUT := hide (show (gphOf ns rs bs).out i t = t + timeI rs[i].knots t by show t + timeI (arcX rs i).knots t = _; rw [arcX_get hi])
    have b1 := hS.b1
    have v0 := hS.v0
    have HS := hide hS
    have HBB := hide (show betB (gphOf ns rs bs) o i t = decide (t + timeI rs[i].knots t < gi o i) by unfold betB; rw [HOUT.out, show decide (t < endT) = true from decide_eq_true he, Bool.true_and])
    have HBO := hide (show betO (gphOf ns rs bs) o i t = if betB (gphOf ns rs bs) o i t then o.set i (t + timeI rs[i].knots t) else o by unfold betO; rw [HOUT.out])
    have HI := hide hi
    clear hA hKO hS hAw hKx hLx hSx hko hc HOUT
    generalize timeI rs[i].knots t = z at *
    generalize rs[i].key = x0 at *
    generalize rs[i].from_ = x1 at *
    generalize rs[i].to_ = x2 at *
    generalize rs[i].long = x3 at *
    generalize rs[i].knots.length = x4 at *
    generalize rs[i].ka = x5 at *
    generalize rs[i].kc = x6 at *
    generalize betO (gphOf ns rs bs) o i t = BO at *
    generalize betB (gphOf ns rs bs) o i t = BB at *
    generalize hm : rs.length = m at *
    clear hm
    have i1 : (0 : Int) ≤ (i : Int) := by omega
    have i2 : (i : Int) < (m : Int) := by omega
    have q1 : IntKind.i64.wrap (t + z) = t + z := IntWalk.i64_in _ (by omega)
    have tE : decide (t ≥ 345686400000) = false := decide_eq_false (by omega)
    go_enter Tryz.func175, Tryz.ntmps175
    go_wp2_with fail
    refine HT.out.mono ?_
    rintro e w1 ⟨rfl, hn1⟩
    have HS1 := hide (HS.out.step hn1)
    have v1 := HS1.out.v0
    have hio : i < o.length := by rw [HS.out.len]; exact HI.out
    have x5' := intRowO_cell HS1.out.row hio
    have f5 : w1.frozen? ⟨w0.heap.size + 1, i, none⟩ = false := by simp [World.frozen?, HS1.out.row, intRowO]
    generalize gi o i = ov at *
    clear v0 b1 a0 a1 a2 a3 a4 hio
    by_cases hlt : t + z < ov
    · have tL : decide (ov ≤ t + z) = false := decide_eq_false (by omega)
      have hB : BB = true := by rw [HBB.out]; exact decide_eq_true hlt
      subst hB
      have HBO := hide (HBO.out.trans (if_pos rfl))
      clear hlt
      go_wp2_with fail
      go_ret
      rw [HBO.out]
      exact ⟨rfl, HS1.out.set i (t + z), ((Gr.of_nx hn1).setS (p := ⟨w0.heap.size + 1, i, none⟩) (.inl rfl) _)⟩
    · have tL : decide (ov ≤ t + z) = true := decide_eq_true (by omega)
      have hB : BB = false := by rw [HBB.out]; exact decide_eq_false hlt
      subst hB
      have HBO := hide (HBO.out.trans (if_neg (by simp)))
      clear hlt
      go_wp2_with fail
      go_ret
      rw [HBO.out]
      exact ⟨rfl, HS1.out, Gr.of_nx hn1⟩
  · have hB : betB (gphOf ns rs bs) o i t = false := by unfold betB; rw [show decide (t < endT) = false from decide_eq_false he, Bool.false_and]
    have hO : betO (gphOf ns rs bs) o i t = o := by unfold betO; rw [hB]; simp
    rw [hB, hO]
    have HS := hide hS
    clear hS hA hKO hB hO
    go_enter Tryz.func175, Tryz.ntmps175
    go_wp2_with fail
    go_ret
    exact ⟨rfl, HS.out, Gr.refl _ _⟩
end Go.Proofs.YtbjbeddjaajdaaaGreatDoor
