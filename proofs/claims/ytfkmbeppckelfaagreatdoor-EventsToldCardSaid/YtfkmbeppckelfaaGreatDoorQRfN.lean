/- The predicates of what is taken back. -/
import Derived.Test.YtfkmbeppckelfaaGreatDoorQRfI
import Derived.Deep.RegionHeld3
import Derived.Deep.RegionWith
import Derived.BigQuiet
namespace Go.Proofs.YtfkmbeppckelfaaGreatDoor
open Go.RowKit

/-- An event takes back the number i. -/
def undI (l : List Ev) (i : Int) (y : Ev) : Bool := (y.kind == 9) && (tgtI l y.from_ y.number == i)
set_option maxRecDepth 100000 in
set_option maxHeartbeats 2000000 in
theorem w_undone1 (lo q1 q2 : Nat) (A : Option Addr) (c : Nat) (l : List Ev) (i : Int) (y : Ev) (w : World) (hR : Rd w lo A 11 encEvt l) (hl : l.length ≤ 65536) (h1 : w.cell? ⟨q1, 0, none⟩ = some (.slice A l.length c)) (h2 : w.cell? ⟨q2, 0, none⟩ = some (.int .i64 i)) (hq1 : q1 < w.heap.size) (hq2 : q2 < w.heap.size) :
    Calls Tryz.prog 92 #[.agg #[.string y.source, .int .i64 y.no, .int .i64 y.at_, .int .i64 y.kind, .string y.ride, .string y.car, .string y.node, .int .i64 y.up, .int .i64 y.down, .string y.from_, .int .i64 y.number], .pointer (some ⟨q1, 0, none⟩), .pointer (some ⟨q2, 0, none⟩)] w fun e w' => e = .returned (.bool (undI l i y)) ∧ Nx w w' := by
  obtain ⟨w1, hw1⟩ : ∃ w1, w1 = w.alloc (.cells #[.string y.source, .int .i64 y.no, .int .i64 y.at_, .int .i64 y.kind, .string y.ride, .string y.car, .string y.node, .int .i64 y.up, .int .i64 y.down, .string y.from_, .int .i64 y.number] 31 (0, 0)) := ⟨_, rfl⟩
  have hn1 : Nx w w1 := hw1 ▸ (Nx.refl w).alloc _
  have hb1 : w1.heap[w.heap.size]? = some (.cells #[.string y.source, .int .i64 y.no, .int .i64 y.at_, .int .i64 y.kind, .string y.ride, .string y.car, .string y.node, .int .i64 y.up, .int .i64 y.down, .string y.from_, .int .i64 y.number] 31 (0, 0)) := by rw [hw1]; exact heap_alloc_new w _
  have hbl := (Array.getElem?_eq_some_iff.1 hb1).1
  have c1 := nx_cell hn1 hq1 h1
  have c2 := nx_cell hn1 hq2 h2
  have hl1 := Nat.lt_of_lt_of_le hq1 hn1.sz
  have hl2 := Nat.lt_of_lt_of_le hq2 hn1.sz
  have a0 : w1.cell? ⟨w.heap.size, 0, none⟩ = some (.string y.source) := cell_of_row w1 _ 0 _ _ _ hb1
  have a1 : w1.cell? ⟨w.heap.size, 1, none⟩ = some (.int .i64 y.no) := cell_of_row w1 _ 1 _ _ _ hb1
  have a2 : w1.cell? ⟨w.heap.size, 2, none⟩ = some (.int .i64 y.at_) := cell_of_row w1 _ 2 _ _ _ hb1
  have a3 : w1.cell? ⟨w.heap.size, 3, none⟩ = some (.int .i64 y.kind) := cell_of_row w1 _ 3 _ _ _ hb1
  have a4 : w1.cell? ⟨w.heap.size, 4, none⟩ = some (.string y.ride) := cell_of_row w1 _ 4 _ _ _ hb1
  have a5 : w1.cell? ⟨w.heap.size, 5, none⟩ = some (.string y.car) := cell_of_row w1 _ 5 _ _ _ hb1
  have a6 : w1.cell? ⟨w.heap.size, 6, none⟩ = some (.string y.node) := cell_of_row w1 _ 6 _ _ _ hb1
  have a7 : w1.cell? ⟨w.heap.size, 7, none⟩ = some (.int .i64 y.up) := cell_of_row w1 _ 7 _ _ _ hb1
  have a8 : w1.cell? ⟨w.heap.size, 8, none⟩ = some (.int .i64 y.down) := cell_of_row w1 _ 8 _ _ _ hb1
  have a9 : w1.cell? ⟨w.heap.size, 9, none⟩ = some (.string y.from_) := cell_of_row w1 _ 9 _ _ _ hb1
  have a10 : w1.cell? ⟨w.heap.size, 10, none⟩ = some (.int .i64 y.number) := cell_of_row w1 _ 10 _ _ _ hb1
  obtain ⟨bx, hbx⟩ : ∃ bx, bx = w.heap.size := ⟨_, rfl⟩
  rw [← hbx] at hbl a0 a1 a2 a3 a4 a5 a6 a7 a8 a9 a10
  have HU := hide (fun W (hn : Nx w1 W) => w_undoes lo A c l y W ((hR.nx hn1).nx hn) hl)
  have hun := hide (show undI l i y = ((y.kind == 9) && (tgtI l y.from_ y.number == i)) from rfl)
  generalize undI l i y = r at *
  generalize tgtI l y.from_ y.number = tg at *
  generalize l.length = n at *
  have HN1 := hide hn1
  clear hR hl hb1 h1 h2 hn1 hq1 hq2
  have q9 : (y.kind == 9) = true ∨ (y.kind == 9) = false := by cases (y.kind == 9) <;> simp
  go_enter Tryz.func92, Tryz.ntmps92
  go_upto_region 1 with fail
  rw [← hw1, ← hbx]
  clear hw1 hbx
  rcases q9 with q9 | q9
  · have hr := hide (show r = (tg == i) by rw [hun.out, q9]; rfl)
    go_region_with (first
      | (go_at_call 93; refine (HU.out _ (by first | exact Nx.refl _ | exact (Nx.refl _).drew)).mono ?_; rintro e w3 ⟨rfl, hn3⟩; (have k2 := nx_cell hn3 (by first | exact hl2 | simpa using hl2) (by first | exact c2 | (rw [World.cell?_drew]; exact c2)))))
    all_goals
      go_wp2_with fail
      go_ret
      exact ⟨by rw [hr.out] <;> rfl, by first | exact HN1.out.drew.trans hn3 | exact (HN1.out.trans hn3).drew | exact HN1.out.trans hn3 | exact (HN1.out.drew.trans hn3).drew⟩
  · have hr := hide (show r = false by rw [hun.out, q9]; rfl)
    go_quiet (fail)
    go_wp2_with fail
    go_ret
    exact ⟨by rw [hr.out] <;> rfl, HN1.out.drewN _⟩
set_option maxRecDepth 100000 in
set_option maxHeartbeats 2000000 in
theorem w_undF1 (lo q1 q2 : Nat) (A : Option Addr) (c : Nat) (l : List Ev) (i : Int) (y : Ev) (w : World) (hR : Rd w lo A 11 encEvt l) (hl : l.length ≤ 65536) (h1 : w.cell? ⟨q1, 0, none⟩ = some (.slice A l.length c)) (h2 : w.cell? ⟨q2, 0, none⟩ = some (.int .i64 i)) (hq1 : q1 < w.heap.size) (hq2 : q2 < w.heap.size) :
    Calls Tryz.prog 133 #[.agg #[.string y.source, .int .i64 y.no, .int .i64 y.at_, .int .i64 y.kind, .string y.ride, .string y.car, .string y.node, .int .i64 y.up, .int .i64 y.down, .string y.from_, .int .i64 y.number], .pointer (some ⟨q1, 0, none⟩), .pointer (some ⟨q2, 0, none⟩)] w fun e w' => e = .returned (.bool (undI l i y)) ∧ Nx w w' := by
  obtain ⟨w1, hw1⟩ : ∃ w1, w1 = w.alloc (.cells #[.string y.source, .int .i64 y.no, .int .i64 y.at_, .int .i64 y.kind, .string y.ride, .string y.car, .string y.node, .int .i64 y.up, .int .i64 y.down, .string y.from_, .int .i64 y.number] 31 (0, 0)) := ⟨_, rfl⟩
  have hn1 : Nx w w1 := hw1 ▸ (Nx.refl w).alloc _
  have hb1 : w1.heap[w.heap.size]? = some (.cells #[.string y.source, .int .i64 y.no, .int .i64 y.at_, .int .i64 y.kind, .string y.ride, .string y.car, .string y.node, .int .i64 y.up, .int .i64 y.down, .string y.from_, .int .i64 y.number] 31 (0, 0)) := by rw [hw1]; exact heap_alloc_new w _
  have hbl := (Array.getElem?_eq_some_iff.1 hb1).1
  have c1 := nx_cell hn1 hq1 h1
  have c2 := nx_cell hn1 hq2 h2
  have hl1 := Nat.lt_of_lt_of_le hq1 hn1.sz
  have hl2 := Nat.lt_of_lt_of_le hq2 hn1.sz
  have a0 : w1.cell? ⟨w.heap.size, 0, none⟩ = some (.string y.source) := cell_of_row w1 _ 0 _ _ _ hb1
  have a1 : w1.cell? ⟨w.heap.size, 1, none⟩ = some (.int .i64 y.no) := cell_of_row w1 _ 1 _ _ _ hb1
  have a2 : w1.cell? ⟨w.heap.size, 2, none⟩ = some (.int .i64 y.at_) := cell_of_row w1 _ 2 _ _ _ hb1
  have a3 : w1.cell? ⟨w.heap.size, 3, none⟩ = some (.int .i64 y.kind) := cell_of_row w1 _ 3 _ _ _ hb1
  have a4 : w1.cell? ⟨w.heap.size, 4, none⟩ = some (.string y.ride) := cell_of_row w1 _ 4 _ _ _ hb1
  have a5 : w1.cell? ⟨w.heap.size, 5, none⟩ = some (.string y.car) := cell_of_row w1 _ 5 _ _ _ hb1
  have a6 : w1.cell? ⟨w.heap.size, 6, none⟩ = some (.string y.node) := cell_of_row w1 _ 6 _ _ _ hb1
  have a7 : w1.cell? ⟨w.heap.size, 7, none⟩ = some (.int .i64 y.up) := cell_of_row w1 _ 7 _ _ _ hb1
  have a8 : w1.cell? ⟨w.heap.size, 8, none⟩ = some (.int .i64 y.down) := cell_of_row w1 _ 8 _ _ _ hb1
  have a9 : w1.cell? ⟨w.heap.size, 9, none⟩ = some (.string y.from_) := cell_of_row w1 _ 9 _ _ _ hb1
  have a10 : w1.cell? ⟨w.heap.size, 10, none⟩ = some (.int .i64 y.number) := cell_of_row w1 _ 10 _ _ _ hb1
  obtain ⟨bx, hbx⟩ : ∃ bx, bx = w.heap.size := ⟨_, rfl⟩
  rw [← hbx] at hbl a0 a1 a2 a3 a4 a5 a6 a7 a8 a9 a10
  have HU := hide (fun W (hn : Nx w1 W) => w_undoes lo A c l y W ((hR.nx hn1).nx hn) hl)
  have hun := hide (show undI l i y = ((y.kind == 9) && (tgtI l y.from_ y.number == i)) from rfl)
  generalize undI l i y = r at *
  generalize tgtI l y.from_ y.number = tg at *
  generalize l.length = n at *
  have HN1 := hide hn1
  clear hR hl hb1 h1 h2 hn1 hq1 hq2
  have q9 : (y.kind == 9) = true ∨ (y.kind == 9) = false := by cases (y.kind == 9) <;> simp
  go_enter Tryz.func133, Tryz.ntmps133
  go_upto_region 1 with fail
  rw [← hw1, ← hbx]
  clear hw1 hbx
  rcases q9 with q9 | q9
  · have hr := hide (show r = (tg == i) by rw [hun.out, q9]; rfl)
    go_region_with (first
      | (go_at_call 93; refine (HU.out _ (by first | exact Nx.refl _ | exact (Nx.refl _).drew)).mono ?_; rintro e w3 ⟨rfl, hn3⟩; (have k2 := nx_cell hn3 (by first | exact hl2 | simpa using hl2) (by first | exact c2 | (rw [World.cell?_drew]; exact c2)))))
    all_goals
      go_wp2_with fail
      go_ret
      exact ⟨by rw [hr.out] <;> rfl, by first | exact HN1.out.drew.trans hn3 | exact (HN1.out.trans hn3).drew | exact HN1.out.trans hn3 | exact (HN1.out.drew.trans hn3).drew⟩
  · have hr := hide (show r = false by rw [hun.out, q9]; rfl)
    go_quiet (fail)
    go_wp2_with fail
    go_ret
    exact ⟨by rw [hr.out] <;> rfl, HN1.out.drewN _⟩
end Go.Proofs.YtfkmbeppckelfaaGreatDoor
