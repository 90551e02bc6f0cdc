/- Full, of right zones, price and trip. -/
import Derived.Test.YtdnmcpojjndjbaaGreatDoorQG11
import Derived.Deep.DeepCutAuto
namespace Go.Proofs.YtdnmcpojjndjbaaGreatDoor
open Go.RowKit

theorem orI_zero3 {a b c : Int} (h : orI [a, b, c] = 0) : a = 0 ∧ b = 0 ∧ c = 0 := by
  unfold orI at h
  by_cases ha : a = 0
  · subst ha
    simp at h
    unfold orI at h
    by_cases hb : b = 0
    · subst hb
      simp at h
      unfold orI at h
      by_cases hc : c = 0
      · exact ⟨rfl, rfl, hc⟩
      · simp [hc] at h
    · simp [hb] at h
  · simp [ha] at h

set_option maxRecDepth 100000 in
set_option maxHeartbeats 8000000 in
theorem w_FullO (A : Option Addr) (c : Nat) (zs : List Zone) (p : Price) (t : Jour) (w : World)
    (hR : RdZones w 0 A zs) (hl : zs.length ≤ 100) (hB : Rd w 0 t.a 1 encS t.nodes) (hS : Small t.nodes) (hl' : t.nodes.length ≤ 2000) (hk : p.key.size ≤ 1000000) (hk1 : t.ride.size ≤ 1000000) (hk2 : t.rider.size ≤ 1000000)
    (hF : faultT zs [p] [t] = 0) :
    Calls Tryz.prog 12 #[.slice A zs.length c, aggP p, aggJ t] w fun e w' => e = .returned (.tuple #[.int .i64 (fullI zs p t), .int .i64 0]) ∧ Nx w w' := by
  obtain ⟨z1, z2, z3⟩ := orI_zero3 hF
  have HFU := hide (fun w' (hn : Nx w w') => w_full 0 0 A c zs p t w' (hR.nx hn) hl (zonesF_sorted z1) (hB.nx hn) (pricesF_ok z2 p (by simp)) (joursF_ok z3 t (by simp)))
  clear z1 z2 z3
  have HCZ := hide (fun w' (hn : Nx w w') => w_CheckZones 0 A c zs w' (hR.nx hn) hl)
  have HCP := hide (fun (g : Nat) (w' : World) (hg : Rd w' 0 (some ⟨g, 0, none⟩) 10 encP [p]) => w_CheckPrices 0 (some ⟨g, 0, none⟩) 1 [p] w' ⟨hg, fun x hx => by rw [List.mem_singleton.1 hx]; exact hk⟩ (by simp))
  have HCJ := hide (fun (g : Nat) (w' : World) (hn : Nx w w') (hg : Rd w' 0 (some ⟨g, 0, none⟩) 6 encJ [t]) => w_CheckTrips 0 (some ⟨g, 0, none⟩) 1 [t] w' ⟨hg, fun x hx => by rw [List.mem_singleton.1 hx]; exact ⟨hB.nx hn, hS, hl', hk1, hk2⟩⟩ (by simp))
  have HF := hide (show orI [zonesF zs, pricesF [p], joursF [t]] = 0 from hF)
  generalize zonesF zs = F1 at *
  generalize pricesF [p] = F2 at *
  generalize joursF [t] = F3 at *
  clear hR hB hS hF
  obtain ⟨k0, p1, p2, p3, p4, p5, p6, p7, p8, p9⟩ := p
  obtain ⟨k1, k2, xa, cp, nds, m, f, t⟩ := t
  dsimp only [aggP, aggJ] at *
  generalize zs.length = zl at *
  generalize hn : nds.length = n at *
  have HN := hide hn
  clear hn
  go_enter Tryz.func12, Tryz.ntmps12
  go_wp2_with fail
  have HGF : Hid (∀ w4, Nx (((w.alloc (.cells #[.string k0, .int .i64 p1, .int .i64 p2, .int .i64 p3, .int .i64 p4, .int .i64 p5, .int .i64 p6, .int .i64 p7, .int .i64 p8, .int .i64 p9] 30)).alloc (.cells #[.string k1, .string k2, .slice xa n cp, .int .i64 m, .int .i64 f, .int .i64 t] 44)).drew) w4 → (fun w' : World => w'.cell? ⟨w.heap.size, 0, none⟩ = some (.string k0) ∧ w'.cell? ⟨w.heap.size, 1, none⟩ = some (.int .i64 p1) ∧ w'.cell? ⟨w.heap.size, 2, none⟩ = some (.int .i64 p2) ∧ w'.cell? ⟨w.heap.size, 3, none⟩ = some (.int .i64 p3) ∧ w'.cell? ⟨w.heap.size, 4, none⟩ = some (.int .i64 p4) ∧ w'.cell? ⟨w.heap.size, 5, none⟩ = some (.int .i64 p5) ∧ w'.cell? ⟨w.heap.size, 6, none⟩ = some (.int .i64 p6) ∧ w'.cell? ⟨w.heap.size, 7, none⟩ = some (.int .i64 p7) ∧ w'.cell? ⟨w.heap.size, 8, none⟩ = some (.int .i64 p8) ∧ w'.cell? ⟨w.heap.size, 9, none⟩ = some (.int .i64 p9) ∧ w'.cell? ⟨w.heap.size + 1, 0, none⟩ = some (.string k1) ∧ w'.cell? ⟨w.heap.size + 1, 1, none⟩ = some (.string k2) ∧ w'.cell? ⟨w.heap.size + 1, 2, none⟩ = some (.slice xa n cp) ∧ w'.cell? ⟨w.heap.size + 1, 3, none⟩ = some (.int .i64 m) ∧ w'.cell? ⟨w.heap.size + 1, 4, none⟩ = some (.int .i64 f) ∧ w'.cell? ⟨w.heap.size + 1, 5, none⟩ = some (.int .i64 t)) w4) := hide (fun w4 h => by
    refine ⟨?_, ?_, ?_, ?_, ?_, ?_, ?_, ?_, ?_, ?_, ?_, ?_, ?_, ?_, ?_, ?_⟩
    all_goals exact nx_cell h (by simp <;> omega) (by go_simp))
  have HB0 : Hid (Nx w (((w.alloc (.cells #[.string k0, .int .i64 p1, .int .i64 p2, .int .i64 p3, .int .i64 p4, .int .i64 p5, .int .i64 p6, .int .i64 p7, .int .i64 p8, .int .i64 p9] 30)).alloc (.cells #[.string k1, .string k2, .slice xa n cp, .int .i64 m, .int .i64 f, .int .i64 t] 44)).drew)) := hide ((((Nx.refl _).alloc _).alloc _).drew)
  go_region_held3 (fun w' => w'.cell? ⟨w.heap.size, 0, none⟩ = some (.string k0) ∧ w'.cell? ⟨w.heap.size, 1, none⟩ = some (.int .i64 p1) ∧ w'.cell? ⟨w.heap.size, 2, none⟩ = some (.int .i64 p2) ∧ w'.cell? ⟨w.heap.size, 3, none⟩ = some (.int .i64 p3) ∧ w'.cell? ⟨w.heap.size, 4, none⟩ = some (.int .i64 p4) ∧ w'.cell? ⟨w.heap.size, 5, none⟩ = some (.int .i64 p5) ∧ w'.cell? ⟨w.heap.size, 6, none⟩ = some (.int .i64 p6) ∧ w'.cell? ⟨w.heap.size, 7, none⟩ = some (.int .i64 p7) ∧ w'.cell? ⟨w.heap.size, 8, none⟩ = some (.int .i64 p8) ∧ w'.cell? ⟨w.heap.size, 9, none⟩ = some (.int .i64 p9) ∧ w'.cell? ⟨w.heap.size + 1, 0, none⟩ = some (.string k1) ∧ w'.cell? ⟨w.heap.size + 1, 1, none⟩ = some (.string k2) ∧ w'.cell? ⟨w.heap.size + 1, 2, none⟩ = some (.slice xa n cp) ∧ w'.cell? ⟨w.heap.size + 1, 3, none⟩ = some (.int .i64 m) ∧ w'.cell? ⟨w.heap.size + 1, 4, none⟩ = some (.int .i64 f) ∧ w'.cell? ⟨w.heap.size + 1, 5, none⟩ = some (.int .i64 t))
    (first | exact HGF.out _ hb3 | exact HGF.out _ (hb3.alloc _) | exact HGF.out _ ((hb3.alloc _).alloc _) | exact HGF.out _ hb2 | exact HGF.out _ (hb2.alloc _) | exact HGF.out _ ((hb2.alloc _).alloc _) | exact HGF.out _ hb1 | exact HGF.out _ (hb1.alloc _) | exact HGF.out _ ((hb1.alloc _).alloc _) | exact HGF.out _ (Nx.refl _) | exact HGF.out _ ((Nx.refl _).alloc _) | exact HGF.out _ (((Nx.refl _).alloc _).alloc _))
    (first
      | (go_at_call 35; refine (HCZ.out _ (by first | exact HB0.out.trans hb3 | exact HB0.out.trans (hb3.alloc _) | exact HB0.out.trans ((hb3.alloc _).alloc _) | exact HB0.out.trans hb2 | exact HB0.out.trans (hb2.alloc _) | exact HB0.out.trans ((hb2.alloc _).alloc _) | exact HB0.out.trans hb1 | exact HB0.out.trans (hb1.alloc _) | exact HB0.out.trans ((hb1.alloc _).alloc _) | exact HB0.out.trans (Nx.refl _) | exact HB0.out.trans ((Nx.refl _).alloc _) | exact HB0.out.trans (((Nx.refl _).alloc _).alloc _))).mono ?_; rintro e w1 ⟨rfl, hn1⟩; (have hb1 : Nx ((w.alloc (.cells #[.string k0, .int .i64 p1, .int .i64 p2, .int .i64 p3, .int .i64 p4, .int .i64 p5, .int .i64 p6, .int .i64 p7, .int .i64 p8, .int .i64 p9] 30)).alloc (.cells #[.string k1, .string k2, .slice xa n cp, .int .i64 m, .int .i64 f, .int .i64 t] 44)).drew w1 := by first | exact (Nx.refl _).trans hn1 | exact ((Nx.refl _).alloc _).trans hn1 | exact (((Nx.refl _).alloc _).alloc _).trans hn1))
      | (go_at_call 8; refine (HCP.out _ _ ?_).mono ?_; (· (repeat (first | (refine Rd.lit (hnew ?_) (Nat.zero_le _) (fun _ => rfl) ?_ <;> first | rfl | (rw [← HN.out]; rfl) | (simp; done)) | refine Rd.nx ?_ hn3 | refine Rd.nx ?_ hn2 | refine Rd.nx ?_ hn1 | refine Rd.nx ?_ (Nx.alloc (Nx.refl _) _) | refine Rd.nx ?_ (Nx.drew (Nx.refl _))))); rintro e w2 ⟨rfl, hn2⟩; (have hb2 : Nx ((w.alloc (.cells #[.string k0, .int .i64 p1, .int .i64 p2, .int .i64 p3, .int .i64 p4, .int .i64 p5, .int .i64 p6, .int .i64 p7, .int .i64 p8, .int .i64 p9] 30)).alloc (.cells #[.string k1, .string k2, .slice xa n cp, .int .i64 m, .int .i64 f, .int .i64 t] 44)).drew w2 := by first | exact hb1.trans hn2 | exact (hb1.alloc _).trans hn2 | exact ((hb1.alloc _).alloc _).trans hn2))
      | (go_at_call 10; refine (HCJ.out _ _ (by first | exact HB0.out.trans hb3 | exact HB0.out.trans (hb3.alloc _) | exact HB0.out.trans ((hb3.alloc _).alloc _) | exact HB0.out.trans hb2 | exact HB0.out.trans (hb2.alloc _) | exact HB0.out.trans ((hb2.alloc _).alloc _) | exact HB0.out.trans hb1 | exact HB0.out.trans (hb1.alloc _) | exact HB0.out.trans ((hb1.alloc _).alloc _) | exact HB0.out.trans (Nx.refl _) | exact HB0.out.trans ((Nx.refl _).alloc _) | exact HB0.out.trans (((Nx.refl _).alloc _).alloc _)) ?_).mono ?_; (· (repeat (first | (refine Rd.lit (hnew ?_) (Nat.zero_le _) (fun _ => rfl) ?_ <;> first | rfl | (rw [← HN.out]; rfl) | (simp; done)) | refine Rd.nx ?_ hn3 | refine Rd.nx ?_ hn2 | refine Rd.nx ?_ hn1 | refine Rd.nx ?_ (Nx.alloc (Nx.refl _) _) | refine Rd.nx ?_ (Nx.drew (Nx.refl _))))); rintro e w3 ⟨rfl, hn3⟩; (have hb3 : Nx ((w.alloc (.cells #[.string k0, .int .i64 p1, .int .i64 p2, .int .i64 p3, .int .i64 p4, .int .i64 p5, .int .i64 p6, .int .i64 p7, .int .i64 p8, .int .i64 p9] 30)).alloc (.cells #[.string k1, .string k2, .slice xa n cp, .int .i64 m, .int .i64 f, .int .i64 t] 44)).drew w3 := by first | exact hb2.trans hn3 | exact (hb2.alloc _).trans hn3 | exact ((hb2.alloc _).alloc _).trans hn3))
      | (go_at_call 34; refine (w_FirstE 0 _ _ [F1, F2, F3] _ (Rd.lit (hnew rfl) (Nat.zero_le _) (fun _ => rfl) rfl) (by simp)).mono ?_; rw [HF.out]; rintro e w4 ⟨rfl, rfl⟩))
  all_goals
    obtain ⟨s0, s1, s2, s3, s4, s5, s6, s7, s8, s9, r0, r1, r2, r3, r4, r5⟩ := HGF.out _ (hb3.alloc (.cells #[.int .i64 F1, .int .i64 F2, .int .i64 F3] 35))
    go_wp2_with (go_at_call 36; refine (HFU.out _ (HB0.out.trans (hb3.alloc _))).mono ?_; rintro e w5 ⟨rfl, hn5⟩)
    go_ret2
    exact ⟨rfl, (HB0.out.trans (hb3.alloc _)).trans hn5⟩
end Go.Proofs.YtdnmcpojjndjbaaGreatDoor
