/- Cells behind calls that make memory alone. Of no program. -/
import Derived.Test.YtbhlldpmklkeoaaGreatDoorQG1
import Derived.Test.YtbhlldpmklkeoaaGreatDoorQG4
import Derived.Test.YtbhlldpmklkeoaaGreatDoorQG10
import Derived.Test.YtbhlldpmklkeoaaGreatDoorQG8
import Derived.Deep.RegionHeld3
import Derived.Test.YtbhlldpmklkeoaaGreatDoorQRoadN
namespace Go.Proofs.YtbhlldpmklkeoaaGreatDoor
open Go.RowKit

theorem nx_cell {w w' : World} {b o : Nat} {v : Value} (hn : Nx w w') (hb : b < w.heap.size) (h : w.cell? ⟨b, o, none⟩ = some v) : w'.cell? ⟨b, o, none⟩ = some v := (Below.cell hn (p := ⟨b, _, none⟩) hb).trans h
theorem nx_rules {W w1 : World} (hb : Nx W w1) : (∀ b o, b < W.heap.size → w1.cell? ⟨b, o, none⟩ = W.cell? ⟨b, o, none⟩) ∧ (∀ b o, b < W.heap.size → w1.frozen? ⟨b, o, none⟩ = W.frozen? ⟨b, o, none⟩) :=
  ⟨fun b o h => Below.cell hb (p := ⟨b, o, none⟩) h, fun b o h => Below.frozen hb (p := ⟨b, o, none⟩) h⟩
end Go.Proofs.YtbhlldpmklkeoaaGreatDoor
/- Bans in their order. -/
namespace Go.Proofs.YtbhlldpmklkeoaaGreatDoor
open Go.RowKit

set_option maxHeartbeats 400000 in
theorem w_OrI (lo : Nat) (A : Option Addr) (c : Nat) (zs : List Int) (w : World) (hR : Rd w lo A 1 encI zs) (hl : zs.length ≤ 65536) :
    Calls Tryz.prog 63 #[.slice A zs.length c] w fun e w' => e = .returned (.int .i64 (orI zs)) ∧ w = w' := by
  generalize hn : zs.length = n at *
  have HR := hide hR
  have HN := hide hn
  clear hR hn
  go_enter Tryz.func63, Tryz.ntmps63
  go_wp2
  go_loop [2, 5, 8] (fun _ _ i => ∃ k : Nat, k ≤ n ∧ i = .int .i64 k ∧ orI zs = orI (zs.drop k)) (fun _ _ i => n - (intOf i).toNat)
  case atStart => exact ⟨0, Nat.zero_le _, rfl, rfl⟩
  case round =>
    obtain ⟨k, hk, rfl, hq⟩ := hrel
    have HQ := hide hq
    clear hq
    by_cases hlt : k < n
    · have hlt' : k < zs.length := by have := HN.out; omega
      obtain ⟨b, off, rfl, _, hb, _, hc⟩ := HR.out.open_ (Nx.refl w) (by omega)
      have c0 : w.cell? ⟨b, off + k, none⟩ = some (.int .i64 zs[k]) := by have := hc k hlt' 0 _ rfl; simpa using this
      clear hc
      have HD := hide (orI_drop zs k hlt')
      by_cases hz : zs[k] = 0
      · have hz' : (zs[k] != 0) = false := by simpa using hz
        have HZ := hide hz
        clear hz
        generalize zs[k] = z at *
        go_wp2
        go_round
        case rel => exact ⟨k + 1, by omega, by go_num, by rw [HQ.out, HD.out, if_pos HZ.out]⟩
        case measure => simp [intOf]; omega
      · have hz' : (zs[k] != 0) = true := by simpa using hz
        have HZ := hide hz
        clear hz
        generalize zs[k] = z at *
        go_wp2
        go_ret
        exact ⟨ret_int (by rw [HQ.out, HD.out, if_neg HZ.out]), rfl⟩
    · have ek : k = n := by omega
      subst ek
      clear hlt
      go_wp2
      go_ret
      exact ⟨ret_int (by rw [HQ.out, List.drop_of_length_le (by have := HN.out; omega)]; rfl), rfl⟩

theorem w_OrI2 (a b : Int) (g c : Nat) (w : World) (hg : w.heap[g]? = some (.cells #[.int .i64 a, .int .i64 b] 3 (0, 0))) :
    Calls Tryz.prog 63 #[.slice (some ⟨g, 0, none⟩) 2 c] w fun e w' => e = .returned (.int .i64 (if a = 0 then b else a)) ∧ w = w' := by
  have h := w_OrI 0 _ c [a, b] w (Rd.lit hg (Nat.zero_le _) (fun _ => rfl) rfl) (by simp)
  rw [orI_two] at h
  exact h
set_option maxRecDepth 100000 in
set_option maxHeartbeats 1000000 in
theorem w_byBan (x y : Ban) (w : World) : Calls Tryz.prog 38 #[.agg #[.string x.from_, .string x.to_], .agg #[.string y.from_, .string y.to_]] w fun e w' => e = .returned (.int .i64 (banC x y)) ∧ Nx w w' := by
  have HOR := hide (fun g c W (hg : W.heap[g]? = some (.cells #[.int .i64 (cmpS x.from_ y.from_), .int .i64 (cmpS x.to_ y.to_)] 3 (0, 0))) => w_OrI2 _ _ g c W hg)
  rw [show (if cmpS x.from_ y.from_ = 0 then cmpS x.to_ y.to_ else cmpS x.from_ y.from_) = banC x y from rfl] at HOR
  obtain ⟨x1, x2⟩ := x
  obtain ⟨y1, y2⟩ := y
  generalize banC _ _ = z at *
  obtain ⟨wa, hwa⟩ : ∃ wa, wa = (w.alloc (.cells #[.string x1, .string x2] 70)).alloc (.cells #[.string y1, .string y2] 70) := ⟨_, rfl⟩
  have hna : Nx w wa := hwa ▸ ((Nx.refl w).alloc _).alloc _
  have hsz : wa.heap.size = w.heap.size + 1 + 1 := by rw [hwa]; simp
  have c0 : wa.cell? ⟨w.heap.size, 0, none⟩ = some (.string x1) := by rw [hwa]; go_simp
  have c1 : wa.cell? ⟨w.heap.size, 1, none⟩ = some (.string x2) := by rw [hwa]; go_simp
  have c2 : wa.cell? ⟨w.heap.size + 1, 0, none⟩ = some (.string y1) := by rw [hwa]; go_simp
  have c3 : wa.cell? ⟨w.heap.size + 1, 1, none⟩ = some (.string y2) := by rw [hwa]; go_simp
  go_enter Tryz.func38, Tryz.ntmps38
  go_wp2_with fail
  rw [← hwa]
  have HWA := hide hwa
  clear hwa
  go_region_held3 (fun w' => w'.cell? ⟨w.heap.size, 0, none⟩ = some (.string x1) ∧ w'.cell? ⟨w.heap.size, 1, none⟩ = some (.string x2) ∧ w'.cell? ⟨w.heap.size + 1, 0, none⟩ = some (.string y1) ∧ w'.cell? ⟨w.heap.size + 1, 1, none⟩ = some (.string y2))
    (go_keep)
    (first
      | (go_at_call 59; refine (w_CompareS _ _ _).mono ?_; rintro e w' ⟨rfl, rfl⟩)
      | (go_at_call 63; refine (HOR.out _ _ _ (hnew_drew hsz.symm)).mono ?_; rintro e w' ⟨rfl, rfl⟩))
  go_wp2_with fail
  go_ret
  exact ⟨rfl, by repeat (first | exact hna | refine Nx.drew ?_ | refine Nx.alloc ?_ _)⟩
end Go.Proofs.YtbhlldpmklkeoaaGreatDoor
/- Knots: what comes behind one; the program's check. -/
namespace Go.Proofs.YtbhlldpmklkeoaaGreatDoor
open Go.RowKit

theorem knot_at {l : List Knot} {k : Nat} (hk : k < l.length) : l.getD k default = l[k] := by rw [List.getD_eq_getElem?_getD, List.getElem?_eq_getElem hk]; rfl
set_option maxRecDepth 100000 in
set_option maxHeartbeats 1000000 in
theorem w_After (lo : Nat) (A : Option Addr) (c : Nat) (l : List Knot) (i : Nat) (w : World) (hR : Rd w lo A 2 encKnot l) (hl : l.length ≤ 65536) (hi : i < l.length) :
    Calls Tryz.prog 60 #[.slice A l.length c, .int .i64 (i : Int)] w fun e w' => e = .returned (.agg #[.int .i64 (afterK l i).at_, .int .i64 (afterK l i).time]) ∧ Nx w w' := by
  obtain ⟨b, off, rfl, _, hb, _, hc⟩ := hR.open_ (Nx.refl w) (by omega)
  by_cases hlt : i + 1 < l.length
  · have c0 : w.cell? ⟨b, off + (i + 1) * 2, none⟩ = some (.int .i64 l[i + 1].at_) := hc (i + 1) hlt 0 _ rfl
    have c1 : w.cell? ⟨b, off + (i + 1) * 2 + 1, none⟩ = some (.int .i64 l[i + 1].time) := hc (i + 1) hlt 1 _ rfl
    have HA := hide (show afterK l i = l[i + 1] by unfold afterK; rw [if_pos hlt, knot_at hlt])
    rw [HA.out]
    clear hc hR
    generalize l[i + 1] = y at *
    generalize l.length = n at *
    clear HA
    have q1 : IntKind.i64.wrap ((i : Int) + 1) = ((i + 1 : Nat) : Int) := by rw [IntWalk.i64_in _ (by omega)]; rfl
    have q2 : decide (((i + 1 : Nat) : Int) < (n : Int)) = true := by simp; omega
    have q3 : ((i + 1 : Nat) : Int).toNat = i + 1 := by omega
    go_enter Tryz.func60, Tryz.ntmps60
    go_wp2
    exact bodyPost_ret (v := .agg #[.int .i64 y.at_, .int .i64 y.time]) (by simp [results, Tryz.results60, go_sem]) rfl ⟨rfl, ((Nx.refl _).alloc _)⟩
  · have c1 : w.cell? ⟨b, off + 1, none⟩ = some (.int .i64 (l[0]'(by omega)).time) := by have := hc 0 (by omega) 1 _ rfl; simpa using this
    have HA := hide (show afterK l i = ⟨dayMs, (l[0]'(by omega)).time⟩ by unfold afterK; rw [if_neg hlt, knot_at (by omega)])
    rw [HA.out]
    clear hc hR
    generalize (l[0]'(by omega)).time = y at *
    generalize l.length = n at *
    clear HA
    go_enter Tryz.func60, Tryz.ntmps60
    go_wp2
    exact bodyPost_ret (v := .agg #[.int .i64 dayMs, .int .i64 y]) (by simp [results, Tryz.results60, go_sem, dayMs]) rfl ⟨rfl, ((Nx.refl _).alloc _)⟩
end Go.Proofs.YtbhlldpmklkeoaaGreatDoor
