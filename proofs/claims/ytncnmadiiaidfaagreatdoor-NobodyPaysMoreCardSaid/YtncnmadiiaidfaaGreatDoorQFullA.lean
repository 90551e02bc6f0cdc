/- What a trip costs by a price: the program's full. -/
import Derived.Test.YtncnmadiiaidfaaGreatDoorQG7
import Derived.Test.YtncnmadiiaidfaaGreatDoorQJouF
import Derived.Test.YtncnmadiiaidfaaGreatDoorQPriF
import Derived.Test.YtncnmadiiaidfaaGreatDoorQG12
import Derived.Deep.RegionHeld3
import Derived.Deep.DeepCutAuto
namespace Go.Proofs.YtncnmadiiaidfaaGreatDoor
open Go.RowKit

abbrev aggP (p : Price) : Value := .agg #[.string p.key, .int .i64 p.base, .int .i64 p.metre, .int .i64 p.minute, .int .i64 p.cross, .int .i64 p.from_, .int .i64 p.to_, .int .i64 p.peak, .int .i64 p.least, .int .i64 p.most]
abbrev aggJ (t : Jour) : Value := .agg #[.string t.ride, .string t.rider, .slice t.a t.nodes.length t.cap, .int .i64 t.metres, .int .i64 t.from_, .int .i64 t.to_]
set_option maxRecDepth 100000 in
set_option maxHeartbeats 8000000 in
theorem w_full (lo lo' : Nat) (A : Option Addr) (c : Nat) (zs : List Zone) (p : Price) (t : Jour) (w : World)
    (hR : RdZones w lo A zs) (hl : zs.length ≤ 100) (hs : ∀ z ∈ zs, z.nodes.Pairwise ltS) (hB : Rd w lo' t.a 1 encS t.nodes) (hp : PriceOk p) (ht : JourOk t) :
    Calls Tryz.prog 72 #[.slice A zs.length c, aggP p, aggJ t] w fun e w' => e = .returned (.int .i64 (fullI zs p t)) ∧ Nx w w' := by
  have hL : (crossO zs t.nodes).length ≤ 2000 := Nat.le_trans (crossO_len _ _) ht.len.2
  have HX := hide (fun w' (hn : Nx w w') => w_crossed lo lo' A t.a c t.cap zs t.nodes w' (hR.nx hn) hl hs (hB.nx hn) (by have := ht.len.2; omega))
  have HZ := hide (cost_wrap hp ht hL)
  have hb := begs_wrap ht
  have hh := hourJ_bd ht
  have hm := ht.metres
  have hf := ht.time
  have hcb := costN_bd hp ht hL
  have hpb := peak_bd hp ht hL
  have HFI := hide (show fullI zs p t = min (max (costH p t (costN p t (crossO zs t.nodes).length)) p.least) p.most from rfl)
  have HCI := hide (fun n h h2 => costH_in (p := p) (t := t) (n := n) h h2)
  have HCL := hide (fun n h => costH_low (p := p) (t := t) (n := n) h)
  have HCH := hide (fun n h => costH_high (p := p) (t := t) (n := n) h)
  have hhq : (t.from_.tmod 86400000).tdiv 3600000 = hourJ t := by unfold hourJ; rw [Int.tmod_eq_emod_of_nonneg hf.1, Int.tdiv_eq_ediv_of_nonneg (by omega)]
  obtain ⟨C, hC⟩ : ∃ C, C = costN p t (crossO zs t.nodes).length := ⟨_, rfl⟩
  rw [← hC] at HZ HFI hcb hpb
  clear hC hp ht hR hB
  obtain ⟨k0, p1, p2, p3, p4, p5, p6, p7, p8, p9⟩ := p
  obtain ⟨k1, k2, xa, cp, nds, m, f, t⟩ := t
  dsimp only [aggP, aggJ] at *
  generalize hourJ ⟨k1, k2, xa, cp, nds, m, f, t⟩ = h at *
  generalize zs.length = zl at *
  generalize nds.length = n at *
  obtain ⟨g1, hg1⟩ : ∃ g, g = begI m 100 := ⟨_, rfl⟩
  obtain ⟨g2, hg2⟩ : ∃ g, g = begI (t - f) 60000 := ⟨_, rfl⟩
  rw [← hg1, ← hg2] at hb HZ
  have b1 := hb.1
  have b2 := hb.2
  have d1 : (m + 99).tdiv 100 = g1 := by rw [hg1, Int.tdiv_eq_ediv_of_nonneg (by omega)]; rfl
  have d2 : (t - f + 60000 - 1).tdiv 60000 = g2 := by rw [hg2, Int.tdiv_eq_ediv_of_nonneg (by omega)]; unfold begI; rw [show t - f + 60000 - 1 = t - f + (60000 - 1) from by omega]
  have e1 : IntKind.i64.wrap (m + 99) = m + 99 := IntWalk.i64_in _ (by omega)
  have e2 : IntKind.i64.wrap (t - f) = t - f := IntWalk.i64_in _ (by omega)
  have e3 : IntKind.i64.wrap (t - f + 60000) = t - f + 60000 := IntWalk.i64_in _ (by omega)
  have e4 : IntKind.i64.wrap (t - f + 60000 - 1) = t - f + 60000 - 1 := IntWalk.i64_in _ (by omega)
  clear hg1 hg2
  have f1 : IntKind.i64.wrap (f.tmod 86400000) = f.tmod 86400000 := IntWalk.i64_in _ (by rw [Int.tmod_eq_emod_of_nonneg hf.1]; omega)
  have f2 : IntKind.i64.wrap h = h := IntWalk.i64_in _ (by omega)
  have f3 : IntKind.i64.wrap (f % 86400000) = f % 86400000 := IntWalk.i64_in _ (by omega)
  have hhr : f % 86400000 / 3600000 = h := by rw [← hhq, Int.tmod_eq_emod_of_nonneg hf.1, Int.tdiv_eq_ediv_of_nonneg (by omega)]
  have HF12 := hide (And.intro f1 (And.intro f2 (And.intro hhq (And.intro f3 hhr))))
  clear f1 f2 f3 hhq hhr
  go_enter Tryz.func72, Tryz.ntmps72
  go_wp2_with fail
  have HGF : Hid (∀ w4, Nx (((w.alloc (.cells #[.string k0, .int .i64 p1, .int .i64 p2, .int .i64 p3, .int .i64 p4, .int .i64 p5, .int .i64 p6, .int .i64 p7, .int .i64 p8, .int .i64 p9] 29)).alloc (.cells #[.string k1, .string k2, .slice xa n cp, .int .i64 m, .int .i64 f, .int .i64 t] 52)).drew) w4 → (fun w' : World => w'.cell? ⟨w.heap.size, 1, none⟩ = some (.int .i64 p1) ∧ w'.cell? ⟨w.heap.size, 2, none⟩ = some (.int .i64 p2) ∧ w'.cell? ⟨w.heap.size, 3, none⟩ = some (.int .i64 p3) ∧ w'.cell? ⟨w.heap.size, 4, none⟩ = some (.int .i64 p4) ∧ w'.cell? ⟨w.heap.size + 1, 2, none⟩ = some (.slice xa n cp) ∧ w'.cell? ⟨w.heap.size + 1, 3, none⟩ = some (.int .i64 m) ∧ w'.cell? ⟨w.heap.size + 1, 4, none⟩ = some (.int .i64 f) ∧ w'.cell? ⟨w.heap.size + 1, 5, none⟩ = some (.int .i64 t)) w4) := hide (fun w4 h => by
    refine ⟨?_, ?_, ?_, ?_, ?_, ?_, ?_, ?_⟩
    all_goals exact nx_cell h (by simp <;> omega) (by go_simp))
  have HGE : Hid (∀ w4, Nx (((w.alloc (.cells #[.string k0, .int .i64 p1, .int .i64 p2, .int .i64 p3, .int .i64 p4, .int .i64 p5, .int .i64 p6, .int .i64 p7, .int .i64 p8, .int .i64 p9] 29)).alloc (.cells #[.string k1, .string k2, .slice xa n cp, .int .i64 m, .int .i64 f, .int .i64 t] 52)).drew) w4 → (fun w' : World => w'.cell? ⟨w.heap.size, 5, none⟩ = some (.int .i64 p5) ∧ w'.cell? ⟨w.heap.size, 6, none⟩ = some (.int .i64 p6) ∧ w'.cell? ⟨w.heap.size, 7, none⟩ = some (.int .i64 p7) ∧ w'.cell? ⟨w.heap.size, 8, none⟩ = some (.int .i64 p8) ∧ w'.cell? ⟨w.heap.size, 9, none⟩ = some (.int .i64 p9) ∧ w'.cell? ⟨w.heap.size + 1, 4, none⟩ = some (.int .i64 f)) w4) := hide (fun w4 h => by
    refine ⟨?_, ?_, ?_, ?_, ?_, ?_⟩
    all_goals exact nx_cell h (by simp <;> omega) (by go_simp))
  go_region_held3 (fun w' => w'.cell? ⟨w.heap.size, 1, none⟩ = some (.int .i64 p1) ∧ w'.cell? ⟨w.heap.size, 2, none⟩ = some (.int .i64 p2) ∧ w'.cell? ⟨w.heap.size, 3, none⟩ = some (.int .i64 p3) ∧ w'.cell? ⟨w.heap.size, 4, none⟩ = some (.int .i64 p4) ∧ w'.cell? ⟨w.heap.size + 1, 2, none⟩ = some (.slice xa n cp) ∧ w'.cell? ⟨w.heap.size + 1, 3, none⟩ = some (.int .i64 m) ∧ w'.cell? ⟨w.heap.size + 1, 4, none⟩ = some (.int .i64 f) ∧ w'.cell? ⟨w.heap.size + 1, 5, none⟩ = some (.int .i64 t))
    (first | exact HGF.out _ ‹_› | go_keep)
    (first
      | (go_at_call 73; refine (HX.out _ (((Nx.refl _).alloc _).alloc _).drew).mono ?_; rintro e w4 ⟨A4, c4, rfl, hR4, hn4⟩))
  rw [HZ.out]
  obtain ⟨q5, q6, q7, q8, q9, r4⟩ := HGE.out _ hn4
  have hnw : Nx w w4 := (((Nx.refl _).alloc _).alloc _).drew.trans hn4
  have HNW := hide hnw
  clear hn4 hR4 hnw HZ HX HGF HGE
  obtain ⟨f1, f2, hhq, f3, hhr⟩ := HF12.out
  clear d1 d2 e1 e2 e3 e4 b1 b2 hb
  by_cases h5 : p5 ≤ h
  · by_cases h6 : h < p6
    · have HE := hide (HCI.out C h5 h6)
      have t5 : decide (h ≥ p5) = true := decide_eq_true h5
      have t6 : decide (h < p6) = true := decide_eq_true h6
      obtain ⟨X, hX⟩ : ∃ X, X = C * p7 := ⟨_, rfl⟩
      rw [← hX] at HE hpb
      have x1 : C * p7 = X := hX.symm
      clear hX
      have x2 : IntKind.i64.wrap X = X := IntWalk.i64_in _ (by omega)
      have x3 : IntKind.i64.wrap (X + 99) = X + 99 := IntWalk.i64_in _ (by omega)
      have x4 : (X + 99).tdiv 100 = begI X 100 := by rw [Int.tdiv_eq_ediv_of_nonneg (by omega)]; rfl
      have x6 : (X + 99) / 100 = begI X 100 := rfl
      have xb := begI_bd (n := X) (part := 100) (B := 100000000000000000) (by omega) hpb.1 (by omega)
      have x5 : IntKind.i64.wrap (begI X 100) = begI X 100 := IntWalk.i64_in _ (by omega)
      generalize begI X 100 = Y at *
      go_wp2_with fail
      go_ret
      exact ⟨ret_int (by rw [HFI.out, HE.out]), HNW.out⟩
    · have HE := hide (HCH.out C (by omega))
      have t5 : decide (h ≥ p5) = true := decide_eq_true h5
      have t6 : decide (h < p6) = false := decide_eq_false h6
      go_wp2_with fail
      go_ret
      exact ⟨ret_int (by rw [HFI.out, HE.out]), HNW.out⟩
  · have HE := hide (HCL.out C (by omega))
    have t5 : decide (h ≥ p5) = false := decide_eq_false h5
    go_wp2_with fail
    go_ret
    exact ⟨ret_int (by rw [HFI.out, HE.out]), HNW.out⟩
end Go.Proofs.YtncnmadiiaidfaaGreatDoor
