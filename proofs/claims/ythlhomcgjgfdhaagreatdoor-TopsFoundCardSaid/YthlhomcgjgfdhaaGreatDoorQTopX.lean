/- demand.Top and demand.Text at a fault; rows of cells that are the same. -/
import Derived.Test.YthlhomcgjgfdhaaGreatDoorQTopW
import Derived.Test.YthlhomcgjgfdhaaGreatDoorQG6
import Derived.Test.YthlhomcgjgfdhaaGreatDoorQCheckT
import Derived.Test.YthlhomcgjgfdhaaGreatDoorQG0
namespace Go.Proofs.YthlhomcgjgfdhaaGreatDoor
open Go.RowKit Go.Sort Go.Shelf Go.Maps
attribute [local go_sem ↓] neq_Cell eql_Cell
attribute [local go_sem] gd_Cell

set_option maxRecDepth 100000 in
set_option maxHeartbeats 1000000 in
theorem w_EqualC (lo lo' : Nat) (A B : Option Addr) (c d : Nat) (l : List Cell) (w : World) (hA : Rd w lo A 2 encCell l) (hB : Rd w lo' B 2 encCell l) (hl : l.length ≤ 65536) :
    Calls Tryz.prog 13 #[.slice A l.length c, .slice B l.length d] w fun e w' => e = .returned (.bool true) ∧ Nx w w' := by
  generalize hn : l.length = n at *
  have HA := hide hA
  have HB := hide hB
  have HN := hide hn
  clear hA hB hn
  go_enter Tryz.func13, Tryz.ntmps13
  go_wp2
  go_loopw [5, 13] (fun _ i wr => ∃ k : Nat, k ≤ n ∧ i = .int .i64 k ∧ Nx w wr) (fun _ i _ => n - (intOf i).toNat)
  case atStart => exact ⟨0, Nat.zero_le _, rfl, Nx.refl _⟩
  case round =>
    obtain ⟨k, hk, rfl, hbw⟩ := hrel
    by_cases hlt : k < n
    · have hlt' : k < l.length := by have := HN.out; omega
      obtain ⟨b, off, rfl, _, hb, hbr, hc⟩ := HA.out.open_ hbw (by omega)
      obtain ⟨b', off', rfl, _, hb', hbr', hc'⟩ := HB.out.open_ hbw (by omega)
      have c0 : wr.cell? ⟨b, off + k * 2, none⟩ = some (.int .i64 l[k].x) := hc k hlt' 0 _ rfl
      have c1 : wr.cell? ⟨b, off + k * 2 + 1, none⟩ = some (.int .i64 l[k].y) := hc k hlt' 1 _ rfl
      have d0 : wr.cell? ⟨b', off' + k * 2, none⟩ = some (.int .i64 l[k].x) := hc' k hlt' 0 _ rfl
      have d1 : wr.cell? ⟨b', off' + k * 2 + 1, none⟩ = some (.int .i64 l[k].y) := hc' k hlt' 1 _ rfl
      clear hc hc'
      have q1 : (0 : Int) ≤ (k : Int) := by omega
      have q2 : (k : Int) < (n : Int) := by omega
      go_wp2_with fail
      go_quiet (fail)
      go_wp2
      go_roundw
      case rel => exact ⟨k + 1, by omega, by go_num, hbw.drewN _⟩
      case measure => simp [intOf]; omega
    · go_wp2
      go_ret
      exact ⟨rfl, hbw⟩

set_option maxRecDepth 100000 in
set_option maxHeartbeats 1000000 in
theorem w_TextTF (lo : Nat) (A : Option Addr) (c : Nat) (ts : List Tally) (w : World) (hR : Rd w lo A 4 encTally ts) (hl : ts.length ≤ 400) (h0 : talliesF ts ≠ 0) :
    Calls Tryz.prog 19 #[.slice A ts.length c] w fun e w' => e = .returned (.tuple #[.string ⟨#[]⟩, .int .i64 (talliesF ts)]) ∧ Nx w w' := by
  have HCT := hide (w_CheckTallies lo A c ts w hR hl)
  generalize talliesF ts = F at *
  have t1 : (F != 0) = true := by simpa using h0
  clear hR
  generalize ts.length = n at *
  go_enter Tryz.func19, Tryz.ntmps19
  go_wp2_with (go_at_call 48; refine HCT.out.mono ?_; rintro e w1 ⟨rfl, hn1⟩)
  go_ret2
  exact ⟨rfl, hn1⟩
def topF (l : List Tally) (h m : Int) : Int := orI [talliesF l, hourF h, if decide (m < 0) || decide (400 < m) then 1 else 0]
theorem out_val (m : Int) : outB m 0 400 = (decide (m < 0) || decide (400 < m)) := by
  cases h : outB m 0 400 with
  | false =>
    have h2 := outB_false.1 h
    symm
    simp
    omega
  | true =>
    symm
    cases h3 : (decide (m < 0) || decide (400 < m)) with
    | true => rfl
    | false =>
      have h4 : outB m 0 400 = false := outB_false.2 (by simp at h3; omega)
      rw [h4] at h; cases h
theorem topF_val (l : List Tally) (h m : Int) : topF l h m = if talliesF l = 0 then (if outB h 0 167 = true then 1 else if outB m 0 400 = true then 1 else 0) else talliesF l := by
  unfold topF
  rw [← out_val]
  unfold hourF argF
  simp only [orI]
  cases outB h 0 167 <;> cases outB m 0 400 <;> simp <;> (split <;> simp_all)
set_option maxRecDepth 100000 in
set_option maxHeartbeats 4000000 in
theorem w_TopX (lo : Nat) (A : Option Addr) (c : Nat) (l : List Tally) (h m : Int) (w : World) (hR : Rd w lo A 4 encTally l) (hl : l.length ≤ 400) (h0 : topF l h m ≠ 0) :
    Calls Tryz.prog 9 #[.slice A l.length c, .int .i64 h, .int .i64 m] w fun e w' => e = .returned (.tuple #[.slice none 0 0, .int .i64 (topF l h m)]) ∧ Nx w w' := by
  obtain ⟨w0, hw0⟩ : ∃ w0, w0 = w.alloc (.cells #[.int .i64 h] 3 (0, 0)) := ⟨_, rfl⟩
  obtain ⟨bh, hbh⟩ : ∃ bh, bh = w.heap.size := ⟨_, rfl⟩
  have HB0 := hide (show w0.heap[bh]? = some (.cells #[.int .i64 h] 3 (0, 0)) by rw [hw0, hbh]; exact heap_alloc_new w _)
  have HN0 := hide (show Nx w w0 from hw0 ▸ (Nx.refl w).alloc _)
  have hb0 : bh < w0.heap.size := (Array.getElem?_eq_some_iff.1 HB0.out).1
  have c0 : w0.cell? ⟨bh, 0, none⟩ = some (.int .i64 h) := cell_of_row w0 bh 0 _ _ _ HB0.out
  have HCT := hide (w_CheckTallies lo A c l w0 (hR.nx HN0.out) hl)
  obtain ⟨F, hF⟩ : ∃ F, F = talliesF l := ⟨_, rfl⟩
  obtain ⟨V, hV⟩ : ∃ V, V = topF l h m := ⟨_, rfl⟩
  rw [← hF] at HCT
  rw [← hV] at h0 ⊢
  rw [topF_val, ← hF] at hV
  obtain ⟨n, hn⟩ : ∃ n, n = l.length := ⟨_, rfl⟩
  rw [← hn] at HCT ⊢
  clear hR hl hn hF
  by_cases hf : F = 0
  · have t1 : (F != 0) = false := by simpa using hf
    have hv1 : V = 1 := by
      rw [if_pos hf] at hV
      split at hV
      · exact hV
      · split at hV
        · exact hV
        · exact absurd hV h0
    have HV := hide hv1
    cases ho1 : outB h 0 167 with
    | true =>
      clear hV h0 hf hv1
      go_enter Tryz.func9, Tryz.ntmps9
      go_upto_region 1 with fail
      rw [← hw0, ← hbh]
      clear hw0 hbh
      go_wp2_with (first
        | (go_at_call 48; refine HCT.out.mono ?_; rintro e w1 ⟨rfl, hn1⟩; (have c1 := nx_cell hn1 hb0 c0))
        | (go_at_call 49; refine (w_Out _ _ _ _).mono ?_; rintro e w' ⟨rfl, rfl⟩; rw [ho1]))
      go_ret2
      exact ⟨by rw [HV.out]; rfl, HN0.out.trans hn1⟩
    | false =>
      have ho2 : outB m 0 400 = true := by
        cases h2 : outB m 0 400 with
        | true => rfl
        | false =>
          exfalso
          apply h0
          rw [hV, if_pos hf, ho1, h2]; simp
      clear hV h0 hf hv1
      go_enter Tryz.func9, Tryz.ntmps9
      go_upto_region 1 with fail
      rw [← hw0, ← hbh]
      clear hw0 hbh
      go_wp2_with (first
        | (go_at_call 48; refine HCT.out.mono ?_; rintro e w1 ⟨rfl, hn1⟩; (have c1 := nx_cell hn1 hb0 c0))
        | (go_at_call 49; refine (w_Out _ _ _ _).mono ?_; rintro e w' ⟨rfl, rfl⟩; first | rw [ho1] | rw [ho2]))
      go_ret2
      exact ⟨by rw [HV.out]; rfl, HN0.out.trans hn1⟩
  · have t1 : (F != 0) = true := by simpa using hf
    have HV := hide (show V = F by rw [hV, if_neg hf])
    clear hV h0 hf
    go_enter Tryz.func9, Tryz.ntmps9
    go_upto_region 1 with fail
    rw [← hw0, ← hbh]
    clear hw0 hbh
    go_wp2_with (go_at_call 48; refine HCT.out.mono ?_; rintro e w1 ⟨rfl, hn1⟩)
    go_ret2
    exact ⟨by rw [HV.out]; rfl, HN0.out.trans hn1⟩
end Go.Proofs.YthlhomcgjgfdhaaGreatDoor
