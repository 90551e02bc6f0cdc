/- Whether a pass counts for a trip. -/
import Derived.Test.YtncnmadiiaidfaaGreatDoorQPasR
import Derived.Test.YtncnmadiiaidfaaGreatDoorQG14
import Derived.Test.YtncnmadiiaidfaaGreatDoorQG12
import Derived.Test.YtncnmadiiaidfaaGreatDoorQJouF
import Derived.Deep.DeepCutAuto
import Derived.Deep.RegionHeld
namespace Go.Proofs.YtncnmadiiaidfaaGreatDoor
open Go.RowKit

abbrev aggX (p : Pass) : Value := .agg #[.string p.key, .string p.rider, .int .i64 p.from_, .int .i64 p.to_, .slice p.a p.zones.length p.sc, .int .i64 p.pay, .int .i64 p.most]
theorem not_any_mem (zones l : List ByteArray) : (!(l.any (fun y => !memB zones y))) = l.all (memB zones) := by
  induction l with
  | nil => rfl
  | cons y l ih => simp only [List.any_cons, List.all_cons, Bool.not_or, Bool.not_not, ih]
theorem countsZ_eq (p : Pass) (t : Jour) (cr : List ByteArray) (z : Bool) (h : (!(cr.any (fun y => !memB p.zones y))) = z) : countsZ p t cr = (!(!decide (p.rider = t.rider) || decide (t.from_ < p.from_) || decide (p.to_ ≤ t.from_)) && (decide (p.zones.length = 0) || z)) := by
  unfold countsZ
  rw [← h, not_any_mem]

set_option maxRecDepth 100000 in
set_option maxHeartbeats 2000000 in
theorem w_counts (lo lx : Nat) (C : Option Addr) (cc : Nat) (x : Pass) (t : Jour) (cr : List ByteArray) (w : World) (hC : Rd w lo C 1 encS cr) (hcl : cr.length ≤ 65536) (hX : Rd w lx x.a 1 encS x.zones) (hx : x.zones.length ≤ 65536) :
    Calls Tryz.prog 74 #[aggX x, aggJ t, .slice C cr.length cc] w fun e w' => e = .returned (.bool (countsZ x t cr)) ∧ Nx w w' := by
  have HCT : Hid (∀ (q : Nat) (W : World), Nx w W → W.cell? ⟨q, 4, none⟩ = some (.slice x.a x.zones.length x.sc) → q < W.heap.size → Calls Tryz.prog 49 #[.slice C cr.length cc, .func (.func 116) #[] #[.pointer (some ⟨q, 0, none⟩)]] W fun e w' => e = .returned (.bool (cr.any (fun y => !memB x.zones y))) ∧ Nx W w') := hide (fun q W hn hq hql =>
    w_ContT 116 (fun y => !memB x.zones y) (.pointer (some ⟨q, 0, none⟩)) eg_cnt1 lo C cc cr W (fun y W' hn' => w_cnt1 x.zones x.a x.sc lx y q W' (nx_cell hn' hql hq) ((hX.nx hn).nx hn') hx) (hC.nx hn) hcl)
  clear hC hcl
  obtain ⟨z, hz⟩ : ∃ z, z = cr.any (fun y => !memB x.zones y) := ⟨_, rfl⟩
  have HE := hide (countsZ_eq x t cr (!z) (by rw [hz]))
  rw [← hz] at HCT
  generalize countsZ x t cr = V at *
  clear hz hX hx
  generalize cr.length = n at *
  obtain ⟨k1, k2, f2, f3, xa, cp, nds, f5, f6⟩ := x
  obtain ⟨j1, j2, ta, tc, tns, me, fr, to_⟩ := t
  dsimp only [aggX, aggJ] at *
  obtain ⟨m, hm⟩ : ∃ m, m = nds.length := ⟨_, rfl⟩
  rw [← hm] at HCT HE
  rw [← hm]
  clear hm
  obtain ⟨tn, htn⟩ : ∃ tn, tn = tns.length := ⟨_, rfl⟩
  skip
  rw [← htn]
  clear htn
  have q1 : (k2.toList == j2.toList) = decide (k2 = j2) := eqS_iff k2 j2
  go_enter Tryz.func74, Tryz.ntmps74
  go_upto_region 1 with fail
  obtain ⟨b1, hb1⟩ : ∃ b1, b1 = w.heap.size := ⟨_, rfl⟩
  obtain ⟨wb, hwb⟩ : ∃ wb, wb = (w.alloc (.cells #[.string k1, .string k2, .int .i64 f2, .int .i64 f3, .slice xa m cp, .int .i64 f5, .int .i64 f6] 55 (0, 0))).alloc (.cells #[.string j1, .string j2, .slice ta tn tc, .int .i64 me, .int .i64 fr, .int .i64 to_] 52 (0, 0)) := ⟨_, rfl⟩
  have HNB := hide (show Nx w wb from hwb ▸ ((Nx.refl w).alloc _).alloc _)
  have HB1 := hide (show wb.heap[b1]? = some (.cells #[.string k1, .string k2, .int .i64 f2, .int .i64 f3, .slice xa m cp, .int .i64 f5, .int .i64 f6] 55 (0, 0)) by rw [hwb, hb1]; exact (((Nx.refl _).alloc _).block _ (by simp)).trans (heap_alloc_new w _))
  have HB2 := hide (show wb.heap[b1 + 1]? = some (.cells #[.string j1, .string j2, .slice ta tn tc, .int .i64 me, .int .i64 fr, .int .i64 to_] 52 (0, 0)) by rw [hwb, hb1]; exact hnew (by simp))
  have hb1l := (Array.getElem?_eq_some_iff.1 HB1.out).1
  have hb2l := (Array.getElem?_eq_some_iff.1 HB2.out).1
  rw [← hwb, ← hb1]
  clear hwb hb1
  have a0 : wb.cell? ⟨b1, 0, none⟩ = some (.string k1) := cell_of_row wb b1 0 _ _ _ HB1.out
  have a1 : wb.cell? ⟨b1, 1, none⟩ = some (.string k2) := cell_of_row wb b1 1 _ _ _ HB1.out
  have a2 : wb.cell? ⟨b1, 2, none⟩ = some (.int .i64 f2) := cell_of_row wb b1 2 _ _ _ HB1.out
  have a3 : wb.cell? ⟨b1, 3, none⟩ = some (.int .i64 f3) := cell_of_row wb b1 3 _ _ _ HB1.out
  have a4 : wb.cell? ⟨b1, 4, none⟩ = some (.slice xa m cp) := cell_of_row wb b1 4 _ _ _ HB1.out
  have a5 : wb.cell? ⟨b1, 5, none⟩ = some (.int .i64 f5) := cell_of_row wb b1 5 _ _ _ HB1.out
  have a6 : wb.cell? ⟨b1, 6, none⟩ = some (.int .i64 f6) := cell_of_row wb b1 6 _ _ _ HB1.out
  have d0 : wb.cell? ⟨b1 + 1, 0, none⟩ = some (.string j1) := cell_of_row wb (b1 + 1) 0 _ _ _ HB2.out
  have d1 : wb.cell? ⟨b1 + 1, 1, none⟩ = some (.string j2) := cell_of_row wb (b1 + 1) 1 _ _ _ HB2.out
  have d2 : wb.cell? ⟨b1 + 1, 2, none⟩ = some (.slice ta tn tc) := cell_of_row wb (b1 + 1) 2 _ _ _ HB2.out
  have d3 : wb.cell? ⟨b1 + 1, 3, none⟩ = some (.int .i64 me) := cell_of_row wb (b1 + 1) 3 _ _ _ HB2.out
  have d4 : wb.cell? ⟨b1 + 1, 4, none⟩ = some (.int .i64 fr) := cell_of_row wb (b1 + 1) 4 _ _ _ HB2.out
  have d5 : wb.cell? ⟨b1 + 1, 5, none⟩ = some (.int .i64 to_) := cell_of_row wb (b1 + 1) 5 _ _ _ HB2.out
  obtain ⟨B1, hB1⟩ : ∃ B1, B1 = decide (k2 = j2) := ⟨_, rfl⟩
  rw [← hB1] at q1 HE
  go_cut [29] (fun v wx => v = .bool (!B1 || decide (fr < f2) || decide (f3 ≤ fr)) ∧ wx = wb)
  case first =>
    clear hB1
    cases B1
    · go_wp2_with fail
      go_meet
      exact ⟨rfl, rfl⟩
    · by_cases h2 : fr < f2
      · have t2 : decide (fr < f2) = true := decide_eq_true h2
        clear h2
        go_wp2_with fail
        go_meet
        exact ⟨by rw [t2]; rfl, rfl⟩
      · have t2 : decide (fr < f2) = false := decide_eq_false h2
        clear h2
        go_wp2_with fail
        go_meet
        exact ⟨by rw [t2]; rfl, rfl⟩
  case rest =>
  obtain ⟨rfl, hx⟩ := hcut
  subst hx
  clear q1 hB1
  generalize (!B1 || decide (fr < f2) || decide (f3 ≤ fr)) = T at *
  cases T
  · by_cases hm0 : m = 0
    · have HE2 := hide (show V = true by rw [HE.out, decide_eq_true hm0]; rfl)
      have tm : ((m : Int) == 0) = true := by rw [hm0]; rfl
      clear HE hm0
      go_wp2_with fail
      go_ret
      exact ⟨by rw [HE2.out]; first | done | rfl, HNB.out⟩
    · have HE2 := hide (show V = !z by rw [HE.out, decide_eq_false hm0]; simp)
      have tm : ((m : Int) == 0) = false := by simpa using hm0
      clear HE hm0
      go_wp2_with (go_at_call 49; refine (HCT.out b1 _ HNB.out a4 hb1l).mono ?_; rintro e w2 ⟨rfl, hn2⟩)
      go_ret
      exact ⟨by rw [HE2.out]; first | done | rfl, HNB.out.trans hn2⟩
  · have HE2 := hide (show V = false by rw [HE.out]; rfl)
    clear HE
    go_wp2_with fail
    go_ret
    exact ⟨by rw [HE2.out]; first | done | rfl, HNB.out⟩

end Go.Proofs.YtncnmadiiaidfaaGreatDoor
