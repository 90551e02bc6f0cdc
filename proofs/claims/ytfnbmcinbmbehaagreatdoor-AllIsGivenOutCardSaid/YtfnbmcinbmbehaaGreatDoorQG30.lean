/- Structs by value, small loops over lists. -/
import Derived.Test.YtfnbmcinbmbehaaGreatDoorQG27
import Derived.Test.YtfnbmcinbmbehaaGreatDoorQG0
import Derived.StillTailTactics
import Derived.Laws.StructEq
import Derived.Test.YtfnbmcinbmbehaaGreatDoorQReadyE
import Derived.Test.YtfnbmcinbmbehaaGreatDoorQG29
import Derived.Test.YtfnbmcinbmbehaaGreatDoorQG9
namespace Go.Proofs.YtfnbmcinbmbehaaGreatDoor
open Go.RowKit

def encCell (c : Cell) : List Value := [.int .i64 c.x, .int .i64 c.y]
def encCall (c : Call) : List Value := [.int .i64 c.at_, .int .i64 c.x, .int .i64 c.y]
def encTally (c : Tally) : List Value := [.int .i64 c.x, .int .i64 c.y, .int .i64 c.hour, .int .i64 c.many]

theorem w_CellOf_no (x y size : Int) (w : World) (h : (isPtB x y && !outB size 1 10000) = false) :
    Calls Tryz.prog 37 #[.int .i64 x, .int .i64 y, .int .i64 size] w fun e w' => e = .returned (.tuple #[.agg #[.int .i64 0, .int .i64 0], .int .i64 1]) ∧ Nx w w' := by
  cases h1 : isPtB x y
  · go_enter Tryz.func37, Tryz.ntmps37
    go_wp2_with (first | (go_at_call 64; refine (w_isPoint _ _ _).mono ?_; rintro e w' ⟨rfl, rfl⟩) | (go_at_call 22; refine (w_Out _ _ _ _).mono ?_; rintro e w' ⟨rfl, rfl⟩))
    exact bodyPost_ret (v := .tuple #[.agg #[.int .i64 0, .int .i64 0], .int .i64 1]) (by simp [results, Tryz.results37, go_sem]) rfl ⟨rfl, (Nx.refl _).alloc _⟩
  · rw [h1] at h
    cases h2 : outB size 1 10000
    · rw [h2] at h; cases h
    · go_enter Tryz.func37, Tryz.ntmps37
      go_wp2_with (first | (go_at_call 64; refine (w_isPoint _ _ _).mono ?_; rintro e w' ⟨rfl, rfl⟩) | (go_at_call 22; refine (w_Out _ _ _ _).mono ?_; rintro e w' ⟨rfl, rfl⟩))
      exact bodyPost_ret (v := .tuple #[.agg #[.int .i64 0, .int .i64 0], .int .i64 1]) (by simp [results, Tryz.results37, go_sem]) rfl ⟨rfl, (Nx.refl _).alloc _⟩
theorem w_CellOf_yes (x y size : Int) (w : World) (h1 : isPtB x y = true) (h2 : outB size 1 10000 = false) :
    Calls Tryz.prog 37 #[.int .i64 x, .int .i64 y, .int .i64 size] w fun e w' => e = .returned (.tuple #[.agg #[.int .i64 (x / size), .int .i64 (y / size)], .int .i64 0]) ∧ Nx w w' := by
  have g1 := isPtB_true.1 h1
  have g2 := outB_false.1 h2
  go_enter Tryz.func37, Tryz.ntmps37
  go_wp2_with (first | (go_at_call 64; refine (w_isPoint _ _ _).mono ?_; rintro e w' ⟨rfl, rfl⟩) | (go_at_call 22; refine (w_Out _ _ _ _).mono ?_; rintro e w' ⟨rfl, rfl⟩) | (go_at_call 31; refine (w_Down _ _ _ (by omega) (by omega)).mono ?_; rintro e w' ⟨rfl, rfl⟩))
  exact bodyPost_ret (v := .tuple #[.agg #[.int .i64 (x / size), .int .i64 (y / size)], .int .i64 0]) (by simp [results, Tryz.results37, go_sem]) rfl ⟨rfl, (Nx.refl _).alloc _⟩

set_option maxHeartbeats 400000 in
theorem w_OrI (lo : Nat) (A : Option Addr) (c : Nat) (zs : List Int) (w : World) (hR : Rd w lo A 1 encI zs) (hl : zs.length ≤ 65536) :
    Calls Tryz.prog 126 #[.slice A zs.length c] w fun e w' => e = .returned (.int .i64 (orI zs)) ∧ w = w' := by
  generalize hn : zs.length = n at *
  have HR := hide hR
  have HN := hide hn
  clear hR hn
  go_enter Tryz.func126, Tryz.ntmps126
  go_wp2
  go_loop [2, 5, 8] (fun _ _ i => ∃ k : Nat, k ≤ n ∧ i = .int .i64 k ∧ orI zs = orI (zs.drop k)) (fun _ _ i => n - (intOf i).toNat)
  case atStart => exact ⟨0, Nat.zero_le _, rfl, rfl⟩
  case round =>
    obtain ⟨k, hk, rfl, hq⟩ := hrel
    have HQ := hide hq
    clear hq
    by_cases hlt : k < n
    · have hlt' : k < zs.length := by have := HN.out; omega
      obtain ⟨b, off, rfl, _, hb, _, hc⟩ := HR.out.open_ (Nx.refl w) (by omega)
      have c0 : w.cell? ⟨b, off + k, none⟩ = some (.int .i64 zs[k]) := by have := hc k hlt' 0 _ rfl; simpa using this
      clear hc
      have HD := hide (orI_drop zs k hlt')
      by_cases hz : zs[k] = 0
      · have hz' : (zs[k] != 0) = false := by simpa using hz
        generalize zs[k] = z at *
        go_wp2
        go_round
        case rel => exact ⟨k + 1, by omega, by go_num, by rw [HQ.out, HD.out, if_pos hz]⟩
        case measure => simp [intOf]; omega
      · have hz' : (zs[k] != 0) = true := by simpa using hz
        generalize zs[k] = z at *
        go_wp2
        go_ret
        exact ⟨ret_int (by rw [HQ.out, HD.out, if_neg hz]), rfl⟩
    · go_wp2
      go_ret
      exact ⟨ret_int (by rw [HQ.out, List.drop_of_length_le (by have := HN.out; omega)]; rfl), rfl⟩


end Go.Proofs.YtfnbmcinbmbehaaGreatDoor
/- '==' and '!=' on structs. -/
namespace Go.Proofs.YtfnbmcinbmbehaaGreatDoor
open Go.RowKit

theorem gd_Cell : Tryz.prog.eqGuardType Tryz.prog.depth 77 = false := by kernel_rfl
theorem sin_Cell (d : Nat) (x y a b : Int) (w : World) : (Op.equalIn (d + 2) 77 (.agg #[.int .i64 x, .int .i64 y]) (.agg #[.int .i64 a, .int .i64 b])).run Tryz.prog w = .ok (x == a && y == b) w := by
  have u3 := Tryz.underlying3
  have a3 := Tryz.isAgg3
  have z3 := Tryz.sizeOf3
  have hS : Tryz.prog.underlying 77 = some (.struct (Tryz.prog.fieldsOf 77)) := by kernel_rfl
  have hp : Tryz.prog.stoodInHeld 77 = false := by kernel_rfl
  rw [run_equalIn_agg w (d + 1) 77 _ _ hS hp]
  simp only [Program.fieldsOf, Tryz.underlying77]
  go_simp
  by_cases h1 : x = a <;> by_cases h2 : y = b <;> simp [h1, h2]
theorem neq_Cell (x y a b : Int) (w : World) : (binOp .neq 77 (.agg #[.int .i64 x, .int .i64 y]) (.agg #[.int .i64 a, .int .i64 b])).run Tryz.prog w = .ok (.bool (!(x == a && y == b))) w := by
  rw [run_neq_struct, show (10000 : Nat) = 9998 + 2 from rfl, sin_Cell]; rfl
theorem eql_Cell (x y a b : Int) (w : World) : (binOp .eql 77 (.agg #[.int .i64 x, .int .i64 y]) (.agg #[.int .i64 a, .int .i64 b])).run Tryz.prog w = .ok (.bool (x == a && y == b)) w := by
  rw [run_eql_struct, show (10000 : Nat) = 9998 + 2 from rfl, sin_Cell]; rfl
end Go.Proofs.YtfnbmcinbmbehaaGreatDoor
/- 'ready' answers true. -/
namespace Go.Proofs.YtfnbmcinbmbehaaGreatDoor
open Go.RowKit
attribute [local go_sem ↓] neq_Cell eql_Cell

set_option maxRecDepth 100000 in
set_option maxHeartbeats 2000000 in
theorem w_ready (w : World) : Calls Tryz.prog 14 #[] w fun e w' => e = .returned (.bool true) ∧ Nx w w' := by
  have hEF : EvRight := fun W => w_eventFaultEx W
  have hF : partsF 10 [1, 1, 1] = 0 := by decide
  go_enter Tryz.func14, Tryz.ntmps14
  go_wp2_with fail
  have hK : Rd (w.alloc (.cells #[.int .i64 0, .int .i64 100, .int .i64 1000, .int .i64 600] 66)) 0 (some ⟨w.heap.size, 0, none⟩) 2 encKnot exKnots := Rd.lit (hnew rfl) (Nat.zero_le _) encKnot_len rfl
  refine (w_TimeOnEx 0 _ 2 _ hK).mono ?_
  rintro e w1 ⟨rfl, hn1⟩
  have hx1 : Nx w w1 := ((Nx.refl w).alloc _).trans hn1
  clear hK hn1
  go_wp2_with fail
  have hR1 : Rd (w1.alloc (.cells #[.int .i64 1, .int .i64 1, .int .i64 1] 3)) 0 (some ⟨w1.heap.size, 0, none⟩) 1 encI [1, 1, 1] := Rd.lit (hnew rfl) (Nat.zero_le _) (fun _ => rfl) rfl
  refine (w_Divide _ _ _ 10 [1, 1, 1] _ hR1 (by decide)).mono ?_
  rintro e w2 ⟨A, c, zs, rfl, hdv, _, hR2, hn2⟩
  have hz := divided_433 (hdv hF)
  subst hz
  rw [hF]
  have hx2 : Nx w1 w2 := ((Nx.refl w1).alloc _).trans hn2
  clear hdv hR1 hn2
  go_wp2_with fail
  refine (w_RidesEx hEF w2.heap.size 1 _ (hnew rfl)).mono ?_
  rintro e w3 ⟨A3, c3, rfl, hn3⟩
  have hx3 : Nx w2 w3 := ((Nx.refl w2).alloc _).trans hn3
  have hR3 := hR2.nx hx3
  clear hn3 hR2
  go_wp2_with fail
  refine (w_CellOf_yes (-1) 250 100 _ (by decide) (by decide)).mono ?_
  rintro e w4 ⟨rfl, hn4⟩
  have hR4 := hR3.nx hn4
  clear hR3
  have hR5 : Rd ((w4.alloc (.cells #[.int .i64 (-1 / 100), .int .i64 (250 / 100)] 77)).alloc (.cells #[.int .i64 4, .int .i64 3, .int .i64 3] 3)) 0 (some ⟨w4.heap.size + 1, 0, none⟩) 1 encI [4, 3, 3] := Rd.lit (hnew (by simp)) (Nat.zero_le _) (fun _ => rfl) rfl
  go_wp2_with (go_at_call 38; refine (w_EqualI _ _ _ _ _ _ [4, 3, 3] _ (hR4.nx (((Nx.refl _).alloc _).alloc _)) hR5 (by simp)).mono ?_; rintro e w6 ⟨rfl, hn6⟩; (have q0 : w6.cell? ⟨w4.heap.size, 0, none⟩ = some (.int .i64 (-1)) := nx_cell hn6 (by simp <;> omega) (show ((w4.alloc (.cells #[.int .i64 (-1 / 100), .int .i64 (250 / 100)] 77)).alloc (.cells #[.int .i64 4, .int .i64 3, .int .i64 3] 3)).cell? ⟨w4.heap.size, 0, none⟩ = some (.int .i64 (-1)) by go_simp)); (have q1 : w6.cell? ⟨w4.heap.size, 1, none⟩ = some (.int .i64 2) := nx_cell hn6 (by simp <;> omega) (show ((w4.alloc (.cells #[.int .i64 (-1 / 100), .int .i64 (250 / 100)] 77)).alloc (.cells #[.int .i64 4, .int .i64 3, .int .i64 3] 3)).cell? ⟨w4.heap.size, 1, none⟩ = some (.int .i64 2) by go_simp)))
  go_ret
  exact ⟨rfl, (((hx1.trans hx2).trans hx3).trans hn4).trans ((((Nx.refl w4).alloc _).alloc _).trans hn6)⟩
end Go.Proofs.YtfnbmcinbmbehaaGreatDoor
