/- Cheapest, at a fault. -/
import Derived.Test.YtdnmcpojjndjbaaGreatDoorQFullB
import Derived.Deep.DeepCutAuto
namespace Go.Proofs.YtdnmcpojjndjbaaGreatDoor
open Go.RowKit

theorem results_tmp4 {fn : Func} {t u v x : Tmp} (h : fn.results = #[.tmp t, .tmp u, .tmp v, .tmp x]) (tmps : Array Value) (P : Program) (w : World) :
    (results fn tmps).run P w = .ok (.tuple #[tmps.getD t undef, tmps.getD u undef, tmps.getD v undef, tmps.getD x undef]) w := by
  simp [results, h]

set_option maxRecDepth 100000 in
set_option maxHeartbeats 8000000 in
theorem w_CheapX (A B : Option Addr) (c d : Nat) (zs : List Zone) (ps : List Price) (t : Jour) (w : World)
    (hR : RdZones w 0 A zs) (hl : zs.length ≤ 100) (hP : RdPrices w 0 B ps) (hlp : ps.length ≤ 50) (hB : Rd w 0 t.a 1 encS t.nodes) (hS : Small t.nodes) (hl' : t.nodes.length ≤ 2000) (hk1 : t.ride.size ≤ 1000000) (hk2 : t.rider.size ≤ 1000000)
    (F : Int) (hF : faultT zs ps [t] = F) (h0 : F ≠ 0) :
    Calls Tryz.prog 16 #[.slice A zs.length c, .slice B ps.length d, aggJ t] w fun e w' => e = .returned (.tuple #[.string ByteArray.empty, .int .i64 0, .bool false, .int .i64 F]) ∧ Nx w w' := by
  have HCZ := hide (fun w' (hn : Nx w w') => w_CheckZones 0 A c zs w' (hR.nx hn) hl)
  have HCP := hide (fun w' (hn : Nx w w') => w_CheckPrices 0 B d ps w' (hP.nx hn) hlp)
  have HCJ := hide (fun (g : Nat) (w' : World) (hn : Nx w w') (hg : Rd w' 0 (some ⟨g, 0, none⟩) 6 encJ [t]) => w_CheckTrips 0 (some ⟨g, 0, none⟩) 1 [t] w' ⟨hg, fun x hx => by rw [List.mem_singleton.1 hx]; exact ⟨hB.nx hn, hS, hl', hk1, hk2⟩⟩ (by simp))
  have HF := hide (show orI [zonesF zs, pricesF ps, joursF [t]] = F from hF)
  have t0 : (F != 0) = true := by simpa using h0
  generalize zonesF zs = F1 at *
  generalize pricesF ps = F2 at *
  generalize joursF [t] = F3 at *
  clear hR hB hS hF hP
  obtain ⟨k1, k2, xa, cp, nds, m, f, t⟩ := t
  dsimp only [aggJ] at *
  generalize zs.length = zl at *
  generalize ps.length = pl at *
  generalize hn : nds.length = n at *
  have HN := hide hn
  clear hn
  go_enter Tryz.func16, Tryz.ntmps16
  go_wp2_with fail
  have HGF : Hid (∀ w4, Nx ((w.alloc (.cells #[.string k1, .string k2, .slice xa n cp, .int .i64 m, .int .i64 f, .int .i64 t] 44)).drew) w4 → (fun w' : World => w'.cell? ⟨w.heap.size, 0, none⟩ = some (.string k1) ∧ w'.cell? ⟨w.heap.size, 1, none⟩ = some (.string k2) ∧ w'.cell? ⟨w.heap.size, 2, none⟩ = some (.slice xa n cp) ∧ w'.cell? ⟨w.heap.size, 3, none⟩ = some (.int .i64 m) ∧ w'.cell? ⟨w.heap.size, 4, none⟩ = some (.int .i64 f) ∧ w'.cell? ⟨w.heap.size, 5, none⟩ = some (.int .i64 t)) w4) := hide (fun w4 h => by
    refine ⟨?_, ?_, ?_, ?_, ?_, ?_⟩
    all_goals exact nx_cell h (by simp <;> omega) (by go_simp))
  have HB0 : Hid (Nx w ((w.alloc (.cells #[.string k1, .string k2, .slice xa n cp, .int .i64 m, .int .i64 f, .int .i64 t] 44)).drew)) := hide (((Nx.refl _).alloc _).drew)
  go_region_held3 (fun w' => w'.cell? ⟨w.heap.size, 0, none⟩ = some (.string k1) ∧ w'.cell? ⟨w.heap.size, 1, none⟩ = some (.string k2) ∧ w'.cell? ⟨w.heap.size, 2, none⟩ = some (.slice xa n cp) ∧ w'.cell? ⟨w.heap.size, 3, none⟩ = some (.int .i64 m) ∧ w'.cell? ⟨w.heap.size, 4, none⟩ = some (.int .i64 f) ∧ w'.cell? ⟨w.heap.size, 5, none⟩ = some (.int .i64 t))
    (first | exact HGF.out _ hb3 | exact HGF.out _ (hb3.alloc _) | exact HGF.out _ ((hb3.alloc _).alloc _) | exact HGF.out _ hb2 | exact HGF.out _ (hb2.alloc _) | exact HGF.out _ ((hb2.alloc _).alloc _) | exact HGF.out _ hb1 | exact HGF.out _ (hb1.alloc _) | exact HGF.out _ ((hb1.alloc _).alloc _) | exact HGF.out _ (Nx.refl _) | exact HGF.out _ ((Nx.refl _).alloc _) | exact HGF.out _ (((Nx.refl _).alloc _).alloc _))
    (first
      | (go_at_call 35; refine (HCZ.out _ (by first | exact HB0.out.trans hb3 | exact HB0.out.trans (hb3.alloc _) | exact HB0.out.trans ((hb3.alloc _).alloc _) | exact HB0.out.trans hb2 | exact HB0.out.trans (hb2.alloc _) | exact HB0.out.trans ((hb2.alloc _).alloc _) | exact HB0.out.trans hb1 | exact HB0.out.trans (hb1.alloc _) | exact HB0.out.trans ((hb1.alloc _).alloc _) | exact HB0.out.trans (Nx.refl _) | exact HB0.out.trans ((Nx.refl _).alloc _) | exact HB0.out.trans (((Nx.refl _).alloc _).alloc _))).mono ?_; rintro e w1 ⟨rfl, hn1⟩; (have hb1 : Nx (w.alloc (.cells #[.string k1, .string k2, .slice xa n cp, .int .i64 m, .int .i64 f, .int .i64 t] 44)).drew w1 := by first | exact (Nx.refl _).trans hn1 | exact ((Nx.refl _).alloc _).trans hn1 | exact (((Nx.refl _).alloc _).alloc _).trans hn1))
      | (go_at_call 8; refine (HCP.out _ (by first | exact HB0.out.trans hb3 | exact HB0.out.trans (hb3.alloc _) | exact HB0.out.trans ((hb3.alloc _).alloc _) | exact HB0.out.trans hb2 | exact HB0.out.trans (hb2.alloc _) | exact HB0.out.trans ((hb2.alloc _).alloc _) | exact HB0.out.trans hb1 | exact HB0.out.trans (hb1.alloc _) | exact HB0.out.trans ((hb1.alloc _).alloc _) | exact HB0.out.trans (Nx.refl _) | exact HB0.out.trans ((Nx.refl _).alloc _) | exact HB0.out.trans (((Nx.refl _).alloc _).alloc _))).mono ?_; rintro e w2 ⟨rfl, hn2⟩; (have hb2 : Nx (w.alloc (.cells #[.string k1, .string k2, .slice xa n cp, .int .i64 m, .int .i64 f, .int .i64 t] 44)).drew w2 := by first | exact hb1.trans hn2 | exact (hb1.alloc _).trans hn2 | exact ((hb1.alloc _).alloc _).trans hn2))
      | (go_at_call 10; refine (HCJ.out _ _ (by first | exact HB0.out.trans hb3 | exact HB0.out.trans (hb3.alloc _) | exact HB0.out.trans ((hb3.alloc _).alloc _) | exact HB0.out.trans hb2 | exact HB0.out.trans (hb2.alloc _) | exact HB0.out.trans ((hb2.alloc _).alloc _) | exact HB0.out.trans hb1 | exact HB0.out.trans (hb1.alloc _) | exact HB0.out.trans ((hb1.alloc _).alloc _) | exact HB0.out.trans (Nx.refl _) | exact HB0.out.trans ((Nx.refl _).alloc _) | exact HB0.out.trans (((Nx.refl _).alloc _).alloc _)) ?_).mono ?_; (· (repeat (first | (refine Rd.lit (hnew ?_) (Nat.zero_le _) (fun _ => rfl) ?_ <;> first | rfl | (rw [← HN.out]; rfl) | (simp; done)) | refine Rd.nx ?_ hn3 | refine Rd.nx ?_ hn2 | refine Rd.nx ?_ hn1 | refine Rd.nx ?_ (Nx.alloc (Nx.refl _) _) | refine Rd.nx ?_ (Nx.drew (Nx.refl _))))); rintro e w3 ⟨rfl, hn3⟩; (have hb3 : Nx (w.alloc (.cells #[.string k1, .string k2, .slice xa n cp, .int .i64 m, .int .i64 f, .int .i64 t] 44)).drew w3 := by first | exact hb2.trans hn3 | exact (hb2.alloc _).trans hn3 | exact ((hb2.alloc _).alloc _).trans hn3))
      | (go_at_call 34; refine (w_FirstE 0 _ _ [F1, F2, F3] _ (Rd.lit (hnew rfl) (Nat.zero_le _) (fun _ => rfl) rfl) (by simp)).mono ?_; rw [HF.out]; rintro e w4 ⟨rfl, rfl⟩))
  all_goals go_wp2_with fail
  all_goals ((try simp only [Exit.inBlock, Exit.then]); refine bodyPost_ret (results_tmp4 rfl _ _ _) rfl ?_)
  all_goals exact ⟨rfl, HB0.out.trans (hb3.alloc _)⟩
end Go.Proofs.YtdnmcpojjndjbaaGreatDoor
