/- Cheapest, of right arguments. -/
import Derived.Test.YtdnmcpojjndjbaaGreatDoorQCheX
import Derived.Test.YtdnmcpojjndjbaaGreatDoorQG11
import Derived.Deep.DeepCutAuto
namespace Go.Proofs.YtdnmcpojjndjbaaGreatDoor
open Go.RowKit

set_option maxRecDepth 100000 in
set_option maxHeartbeats 8000000 in
theorem w_CheapO (A B : Option Addr) (c d : Nat) (zs : List Zone) (ps : List Price) (t : Jour) (w : World)
    (hR : RdZones w 0 A zs) (hl : zs.length ≤ 100) (hP : RdPrices w 0 B ps) (hlp : ps.length ≤ 50) (hB : Rd w 0 t.a 1 encS t.nodes) (hS : Small t.nodes) (hl' : t.nodes.length ≤ 2000) (hk1 : t.ride.size ≤ 1000000) (hk2 : t.rider.size ≤ 1000000)
    (hF : faultT zs ps [t] = 0) :
    Calls Tryz.prog 16 #[.slice A zs.length c, .slice B ps.length d, aggJ t] w fun e w' => e = .returned (.tuple #[.string (bestK (cheapP (fun p => fullI zs p t) none ps)), .int .i64 (bestN (fun p => fullI zs p t) (cheapP (fun p => fullI zs p t) none ps)), .bool (cheapP (fun p => fullI zs p t) none ps).isSome, .int .i64 0]) ∧ Nx w w' := by
  obtain ⟨z1, z2, z3⟩ := orI_zero3 hF
  have HOK := hide (pricesF_ok z2)
  have HFU := hide (fun (p : Price) (hp : PriceOk p) w' (hn : Nx w w') => w_full 0 0 A c zs p t w' (hR.nx hn) hl (zonesF_sorted z1) (hB.nx hn) hp (joursF_ok z3 t (by simp)))
  clear z1 z2 z3
  have HPR := hide hP.1
  have HCZ := hide (fun w' (hn : Nx w w') => w_CheckZones 0 A c zs w' (hR.nx hn) hl)
  have HCP := hide (fun w' (hn : Nx w w') => w_CheckPrices 0 B d ps w' (hP.nx hn) hlp)
  have HCJ := hide (fun (g : Nat) (w' : World) (hn : Nx w w') (hg : Rd w' 0 (some ⟨g, 0, none⟩) 6 encJ [t]) => w_CheckTrips 0 (some ⟨g, 0, none⟩) 1 [t] w' ⟨hg, fun x hx => by rw [List.mem_singleton.1 hx]; exact ⟨hB.nx hn, hS, hl', hk1, hk2⟩⟩ (by simp))
  have HF := hide (show orI [zonesF zs, pricesF ps, joursF [t]] = 0 from hF)
  generalize zonesF zs = F1 at *
  generalize pricesF ps = F2 at *
  generalize joursF [t] = F3 at *
  clear hR hB hS hF hP
  generalize hg : (fun p => fullI zs p t) = g at *
  have HFG := hide (fun p => show fullI zs p t = g p from congrFun hg p)
  clear hg
  obtain ⟨k1, k2, xa, cp, nds, m, f, t⟩ := t
  dsimp only [aggP, aggJ] at *
  generalize zs.length = zl at *
  generalize hpl : ps.length = pl at *
  have HPL := hide hpl
  clear hpl
  generalize hn : nds.length = n at *
  have HN := hide hn
  clear hn
  go_enter Tryz.func16, Tryz.ntmps16
  go_wp2_with fail
  have HGF : Hid (∀ w4, Nx ((w.alloc (.cells #[.string k1, .string k2, .slice xa n cp, .int .i64 m, .int .i64 f, .int .i64 t] 44)).drew) w4 → (fun w' : World => w'.cell? ⟨w.heap.size, 0, none⟩ = some (.string k1) ∧ w'.cell? ⟨w.heap.size, 1, none⟩ = some (.string k2) ∧ w'.cell? ⟨w.heap.size, 2, none⟩ = some (.slice xa n cp) ∧ w'.cell? ⟨w.heap.size, 3, none⟩ = some (.int .i64 m) ∧ w'.cell? ⟨w.heap.size, 4, none⟩ = some (.int .i64 f) ∧ w'.cell? ⟨w.heap.size, 5, none⟩ = some (.int .i64 t)) w4) := hide (fun w4 h => by
    refine ⟨?_, ?_, ?_, ?_, ?_, ?_⟩
    all_goals exact nx_cell h (by simp <;> omega) (by go_simp))
  have HB0 : Hid (Nx w ((w.alloc (.cells #[.string k1, .string k2, .slice xa n cp, .int .i64 m, .int .i64 f, .int .i64 t] 44)).drew)) := hide (((Nx.refl _).alloc _).drew)
  go_region_held3 (fun w' => w'.cell? ⟨w.heap.size, 0, none⟩ = some (.string k1) ∧ w'.cell? ⟨w.heap.size, 1, none⟩ = some (.string k2) ∧ w'.cell? ⟨w.heap.size, 2, none⟩ = some (.slice xa n cp) ∧ w'.cell? ⟨w.heap.size, 3, none⟩ = some (.int .i64 m) ∧ w'.cell? ⟨w.heap.size, 4, none⟩ = some (.int .i64 f) ∧ w'.cell? ⟨w.heap.size, 5, none⟩ = some (.int .i64 t))
    (first | exact HGF.out _ hb3 | exact HGF.out _ (hb3.alloc _) | exact HGF.out _ ((hb3.alloc _).alloc _) | exact HGF.out _ hb2 | exact HGF.out _ (hb2.alloc _) | exact HGF.out _ ((hb2.alloc _).alloc _) | exact HGF.out _ hb1 | exact HGF.out _ (hb1.alloc _) | exact HGF.out _ ((hb1.alloc _).alloc _) | exact HGF.out _ (Nx.refl _) | exact HGF.out _ ((Nx.refl _).alloc _) | exact HGF.out _ (((Nx.refl _).alloc _).alloc _))
    (first
      | (go_at_call 35; refine (HCZ.out _ (by first | exact HB0.out.trans hb3 | exact HB0.out.trans (hb3.alloc _) | exact HB0.out.trans ((hb3.alloc _).alloc _) | exact HB0.out.trans hb2 | exact HB0.out.trans (hb2.alloc _) | exact HB0.out.trans ((hb2.alloc _).alloc _) | exact HB0.out.trans hb1 | exact HB0.out.trans (hb1.alloc _) | exact HB0.out.trans ((hb1.alloc _).alloc _) | exact HB0.out.trans (Nx.refl _) | exact HB0.out.trans ((Nx.refl _).alloc _) | exact HB0.out.trans (((Nx.refl _).alloc _).alloc _))).mono ?_; rintro e w1 ⟨rfl, hn1⟩; (have hb1 : Nx (w.alloc (.cells #[.string k1, .string k2, .slice xa n cp, .int .i64 m, .int .i64 f, .int .i64 t] 44)).drew w1 := by first | exact (Nx.refl _).trans hn1 | exact ((Nx.refl _).alloc _).trans hn1 | exact (((Nx.refl _).alloc _).alloc _).trans hn1))
      | (go_at_call 8; refine (HCP.out _ (by first | exact HB0.out.trans hb3 | exact HB0.out.trans (hb3.alloc _) | exact HB0.out.trans ((hb3.alloc _).alloc _) | exact HB0.out.trans hb2 | exact HB0.out.trans (hb2.alloc _) | exact HB0.out.trans ((hb2.alloc _).alloc _) | exact HB0.out.trans hb1 | exact HB0.out.trans (hb1.alloc _) | exact HB0.out.trans ((hb1.alloc _).alloc _) | exact HB0.out.trans (Nx.refl _) | exact HB0.out.trans ((Nx.refl _).alloc _) | exact HB0.out.trans (((Nx.refl _).alloc _).alloc _))).mono ?_; rintro e w2 ⟨rfl, hn2⟩; (have hb2 : Nx (w.alloc (.cells #[.string k1, .string k2, .slice xa n cp, .int .i64 m, .int .i64 f, .int .i64 t] 44)).drew w2 := by first | exact hb1.trans hn2 | exact (hb1.alloc _).trans hn2 | exact ((hb1.alloc _).alloc _).trans hn2))
      | (go_at_call 10; refine (HCJ.out _ _ (by first | exact HB0.out.trans hb3 | exact HB0.out.trans (hb3.alloc _) | exact HB0.out.trans ((hb3.alloc _).alloc _) | exact HB0.out.trans hb2 | exact HB0.out.trans (hb2.alloc _) | exact HB0.out.trans ((hb2.alloc _).alloc _) | exact HB0.out.trans hb1 | exact HB0.out.trans (hb1.alloc _) | exact HB0.out.trans ((hb1.alloc _).alloc _) | exact HB0.out.trans (Nx.refl _) | exact HB0.out.trans ((Nx.refl _).alloc _) | exact HB0.out.trans (((Nx.refl _).alloc _).alloc _)) ?_).mono ?_; (· (repeat (first | (refine Rd.lit (hnew ?_) (Nat.zero_le _) (fun _ => rfl) ?_ <;> first | rfl | (rw [← HN.out]; rfl) | (simp; done)) | refine Rd.nx ?_ hn3 | refine Rd.nx ?_ hn2 | refine Rd.nx ?_ hn1 | refine Rd.nx ?_ (Nx.alloc (Nx.refl _) _) | refine Rd.nx ?_ (Nx.drew (Nx.refl _))))); rintro e w3 ⟨rfl, hn3⟩; (have hb3 : Nx (w.alloc (.cells #[.string k1, .string k2, .slice xa n cp, .int .i64 m, .int .i64 f, .int .i64 t] 44)).drew w3 := by first | exact hb2.trans hn3 | exact (hb2.alloc _).trans hn3 | exact ((hb2.alloc _).alloc _).trans hn3))
      | (go_at_call 34; refine (w_FirstE 0 _ _ [F1, F2, F3] _ (Rd.lit (hnew rfl) (Nat.zero_le _) (fun _ => rfl) rfl) (by simp)).mono ?_; rw [HF.out]; rintro e w4 ⟨rfl, rfl⟩))
  all_goals
    have HB3 := hide hb3
    clear hn1 hn2 hn3 hb1 hb2 hb3
    go_wp2_with fail
    go_loopw [11, 12, 30] (fun kk nn i wr => ∃ k : Nat, k ≤ pl ∧ i = .int .i64 k ∧ Nx ((w.alloc (.cells #[.string k1, .string k2, .slice xa n cp, .int .i64 m, .int .i64 f, .int .i64 t] 44)).drew) wr ∧ kk = .string (bestK (cheapP g none (ps.take k))) ∧ nn = .int .i64 (bestN g (cheapP g none (ps.take k)))) (fun _ _ i _ => pl - (intOf i).toNat)
    case atStart => exact ⟨0, Nat.zero_le _, rfl, HB3.out.alloc _, rfl, rfl⟩
    case round =>
      obtain ⟨k, hk, rfl, hbw, rfl, rfl⟩ := hrel
      by_cases hlt : k < pl
      · have hlt' : k < ps.length := by have := HPL.out; omega
        have HT := hide (cheapP_take g ps k hlt')
        have hok := HOK.out ps[k] (List.getElem_mem hlt')
        obtain ⟨b, off, rfl, _, hbk, hbr, hc⟩ := HPR.out.open_ (HB0.out.trans hbw) (by omega)
        have c0 : wr.cell? ⟨b, off + k * 10, none⟩ = some (.string ps[k].key) := hc k hlt' 0 _ rfl
        have c1 : wr.cell? ⟨b, off + k * 10 + 1, none⟩ = some (.int .i64 ps[k].base) := hc k hlt' 1 _ rfl
        have c2 : wr.cell? ⟨b, off + k * 10 + 2, none⟩ = some (.int .i64 ps[k].metre) := hc k hlt' 2 _ rfl
        have c3 : wr.cell? ⟨b, off + k * 10 + 3, none⟩ = some (.int .i64 ps[k].minute) := hc k hlt' 3 _ rfl
        have c4 : wr.cell? ⟨b, off + k * 10 + 4, none⟩ = some (.int .i64 ps[k].cross) := hc k hlt' 4 _ rfl
        have c5 : wr.cell? ⟨b, off + k * 10 + 5, none⟩ = some (.int .i64 ps[k].from_) := hc k hlt' 5 _ rfl
        have c6 : wr.cell? ⟨b, off + k * 10 + 6, none⟩ = some (.int .i64 ps[k].to_) := hc k hlt' 6 _ rfl
        have c7 : wr.cell? ⟨b, off + k * 10 + 7, none⟩ = some (.int .i64 ps[k].peak) := hc k hlt' 7 _ rfl
        have c8 : wr.cell? ⟨b, off + k * 10 + 8, none⟩ = some (.int .i64 ps[k].least) := hc k hlt' 8 _ rfl
        have c9 : wr.cell? ⟨b, off + k * 10 + 9, none⟩ = some (.int .i64 ps[k].most) := hc k hlt' 9 _ rfl
        clear hc
        have HFK := hide (HFU.out ps[k] hok)
        have HGK := hide (HFG.out ps[k])
        have HKN := hide (keyB_ne hok.key)
        clear hok
        generalize ps[k] = q at *
        have HBW := hide hbw
        obtain ⟨s0, s1, s2, s3, s4, s5⟩ := HGF.out _ (hbw.alloc (.cells #[.string q.key, .int .i64 q.base, .int .i64 q.metre, .int .i64 q.minute, .int .i64 q.cross, .int .i64 q.from_, .int .i64 q.to_, .int .i64 q.peak, .int .i64 q.least, .int .i64 q.most] 30))
        cases hst : cheapP g none (ps.take k) with
        | none =>
          have HTN := hide (show cheapP g none (ps.take (k + 1)) = some q from by rw [HT.out, hst])
          dsimp only [bestK, bestN]
          clear hst
          go_wp2_with (go_at_call 36; refine (HFK.out _ ((HB0.out.trans HBW.out).alloc _)).mono ?_; rw [HGK.out]; rintro e w5 ⟨rfl, hn5⟩; (have g0 : w5.cell? ⟨wr.heap.size, 0, none⟩ = some (.string q.key) := nx_cell hn5 (by simp) (by go_simp)))
          go_roundw
          case rel => exact ⟨k + 1, by omega, by go_num, (HBW.out.alloc _).trans hn5, by rw [HTN.out] <;> rfl, by rw [HTN.out] <;> rfl⟩
          case measure => simp [intOf]; omega
        | some y =>
          have hky := keyB_ne (HOK.out y (List.mem_of_mem_take (cheapP_mem g _ y hst))).key
          dsimp only [bestK, bestN]
          generalize hgq : g q = gq at *
          generalize hgy : g y = gy at *
          by_cases hle : gq < gy
          · have HTN := hide (show cheapP g none (ps.take (k + 1)) = some q from by rw [HT.out, hst]; simp [hgy, hle])
            have HGQ := hide hgq
            clear hgq hgy hst
            have tl : decide (gq < gy) = true := decide_eq_true hle
            go_wp2_with (go_at_call 36; refine (HFK.out _ ((HB0.out.trans HBW.out).alloc _)).mono ?_; rw [HGK.out]; rintro e w5 ⟨rfl, hn5⟩; (have g0 : w5.cell? ⟨wr.heap.size, 0, none⟩ = some (.string q.key) := nx_cell hn5 (by simp) (by go_simp)))
            go_roundw
            case rel => exact ⟨k + 1, by omega, by go_num, (HBW.out.alloc _).trans hn5, by rw [HTN.out] <;> rfl, by rw [HTN.out]; show _ = Value.int .i64 (g q); rw [HGQ.out]⟩
            case measure => simp [intOf]; omega
          · have HTN := hide (show cheapP g none (ps.take (k + 1)) = some y from by rw [HT.out, hst]; simp [hgy, hle])
            have HGY := hide hgy
            clear hgq hgy hst
            have tl : decide (gq < gy) = false := decide_eq_false hle
            go_wp2_with (go_at_call 36; refine (HFK.out _ ((HB0.out.trans HBW.out).alloc _)).mono ?_; rw [HGK.out]; rintro e w5 ⟨rfl, hn5⟩; (have g0 : w5.cell? ⟨wr.heap.size, 0, none⟩ = some (.string q.key) := nx_cell hn5 (by simp) (by go_simp)))
            go_roundw
            case rel => exact ⟨k + 1, by omega, by go_num, (HBW.out.alloc _).trans hn5, by rw [HTN.out] <;> rfl, by rw [HTN.out]; show _ = Value.int .i64 (g y); rw [HGY.out]⟩
            case measure => simp [intOf]; omega
      · have ek : k = pl := by omega
        subst ek
        have HTN := hide (show ps.take k = ps from List.take_of_length_le (by have := HPL.out; omega))
        rw [HTN.out]
        cases hst : cheapP g none ps with
        | none =>
          dsimp only [bestK, bestN, Option.isSome]
          go_wp2_with fail
          (try simp only [Exit.inBlock, Exit.then])
          refine bodyPost_ret (results_tmp4 rfl _ _ _) rfl ?_
          exact ⟨by rw [hst]; rfl, HB0.out.trans hbw⟩
        | some y =>
          have hky := keyB_ne (HOK.out y (cheapP_mem g _ y hst)).key
          dsimp only [bestK, bestN, Option.isSome]
          go_wp2_with fail
          (try simp only [Exit.inBlock, Exit.then])
          refine bodyPost_ret (results_tmp4 rfl _ _ _) rfl ?_
          exact ⟨by rw [hst]; rfl, HB0.out.trans hbw⟩
end Go.Proofs.YtdnmcpojjndjbaaGreatDoor
