/- jitlaw1.RidesPriced returns true. -/
import Derived.Test.YtdnmcpojjndjbaaGreatDoorQLawRPb
import Derived.Deep.DeepCutAuto
import Derived.Deep.AppendLies
namespace Go.Proofs.YtdnmcpojjndjbaaGreatDoor
open Go.RowKit

theorem lit_keep {s g : Nat} {w w' : World} {o : Obj} (h : w.heap[g]? = some o) (hg : Gr s w w') (hs : g ≠ s) : w'.heap[g]? = some o := (hg.block g (Array.getElem?_eq_some_iff.1 h).1 (by intro e; injection e with e; exact hs e)).trans h
/-- What is drawn ahead of the first test. -/
structure RpA (s : Nat) (w0 wx : World) (D B C : Option Addr) (zs : List Zone) (ps : List Price) (ts : List Jour) (e : Nat) : Prop where
  zl : zs.length = 3
  pl : ps.length ≤ 3
  jl : 1 ≤ ts.length ∧ ts.length ≤ 3 ∧ ts.length ≤ e
  z : RdZones wx (s + 1) D zs
  p : RdPrices wx (s + 1) B ps
  j : RdJours wx (s + 1) C ts
  gr : Gr s w0 wx
  str : Str wx s 900
set_option maxRecDepth 100000 in
set_option maxHeartbeats 4000000 in
theorem w_lawRP (A : Option Addr) (n c : Nat) (w : World) (hn : n ≤ 9223372036854775807)
    (hL : 0 < n → ∃ b off, A = some ⟨b, off, none⟩ ∧ b < w.heap.size ∧ ∀ j, j < n → ∃ z : Int, w.cell? ⟨b, off + j, none⟩ = some (.int .i64 z) ∧ -9223372036854775808 ≤ z ∧ z ≤ 9223372036854775807) (hT : PowTab w) :
    Calls Tryz.prog 3 #[.slice A n c] w (TrueNx w) := by
  have hS0 : Str (w.alloc (.cells #[.slice A n c, .int .i64 0] 25)) w.heap.size 0 := str_new A n c w hn hL
  clear hL
  obtain ⟨s, hs⟩ : ∃ s, s = w.heap.size := ⟨_, rfl⟩
  obtain ⟨w0, hw0⟩ : ∃ w0, w0 = w.alloc (.cells #[.slice A n c, .int .i64 0] 25) := ⟨_, rfl⟩
  have HW0 := hide (show Nx w w0 from hw0 ▸ (Nx.refl w).alloc _)
  have HSS := hide (show w.heap.size ≤ s by omega)
  have HTG := hide (show ∀ w', Gr s w0 w' → PowTab w' from fun w' hg => tab_nx hT (Nx.of_gr ((Gr.of_nx HW0.out).trans hg) HSS.out))
  rw [← hw0, ← hs] at hS0
  have HS0 := hide hS0
  have hs0 := hS0.lt
  have hsz0 : w0.heap.size = s + 1 := by rw [hw0, hs]; simp
  have HZ0 := hide hsz0
  clear hS0 hT hsz0
  go_enter Tryz.func3, Tryz.ntmps3
  go_upto_region 2 with fail
  rw [← hw0, ← hs]
  clear hw0 hs
  go_cut [4, 5, 6] (fun v4 v5 v6 wx => ∃ (D B C : Option Addr) (c1 d e : Nat) (zs : List Zone) (ps : List Price) (ts : List Jour), v4 = .slice D zs.length c1 ∧ v5 = .slice B ps.length d ∧ v6 = .slice C ts.length e ∧ RpA s w0 wx D B C zs ps ts e)
  case first =>
    have hz0 := HZ0.out
    go_region_law
      (first
          | ((have h9 := HG6); clear h9; go_simp; go_at_call 7; refine (w_Journeys m s _ _ (by first | exact HS6.out | exact HS6.out.nx ((Nx.refl _).alloc _)) (by omega) (by omega) (fun w' hg => HTG.out _ (by first | exact (HGB.out.trans HG6.out).trans hg | exact ((HGB.out.trans HG6.out).alloc _).trans hg))).mono ?_; rintro e w7 ⟨C, cj, ts, rfl, htl, htc, hRj, hg7, hS7⟩; (have HJ7 := hide (hRj.low (lo' := s + 1) (by have := HS6.out.lt; first | omega | (simp; omega)))); (have HS7 := hide hS7); (have HL7 := hide (And.intro htl htc)); (have HG7 := hide (show Gr s w1 w7 by first | exact HG6.out.trans hg7 | exact (HG6.out.alloc _).trans hg7)); (have hx7 := hide hg7); clear hRj hS7 htl htc hg7)
          | ((have h9 := HG5); clear h9; go_simp; go_at_call 6; refine (w_Range 1 3 s _ _ (by first | exact HS5.out | exact HS5.out.nx ((Nx.refl _).alloc _)) (by omega) (by omega) (by omega)).mono ?_; rintro e w6 ⟨m, hm1, hm2, rfl, hg6, hS6⟩; obtain ⟨m, rfl⟩ := Int.eq_ofNat_of_zero_le (show 0 ≤ m by omega); (have HS6 := hide hS6); (have HG6 := hide (show Gr s w1 w6 by first | exact HG5.out.trans hg6 | exact (HG5.out.alloc _).trans hg6)); (have hx6 := hide hg6); clear hS6 hg6)
          | (go_simp; go_at_call 6; refine (w_Range 0 3 s _ _ (by first | exact HS4.out | exact HS4.out.nx ((Nx.refl _).alloc _)) (by omega) (by omega) (by omega)).mono ?_; rintro e w5 ⟨r, hr1, hr2, rfl, hg5, hS5⟩; obtain ⟨r, rfl⟩ := Int.eq_ofNat_of_zero_le hr1; (have HS5 := hide hS5); (have hr3 : r ≤ 3 := by omega); (have HG5 := hide (show Gr s w1 w5 by first | exact HG4.out.trans hg5 | exact (HG4.out.alloc _).trans hg5)); (have hx5 := hide hg5); clear hS5 hg5)
          | ((have h9 := HG3); clear h9; go_simp; go_at_call 5; refine (w_PriceOf ⟨#[112, 99]⟩ s _ _ HS3.out (by omega) (by decide)).mono ?_; rintro e w4 ⟨pc, rfl, hok4, hg4, hS4⟩; dsimp only [aggP]; (have HG4 := hide (HG3.out.trans hg4)); (have HS4 := hide hS4); (have HK4 := hide hok4.1); clear hg4 hS4 hok4)
          | ((have h9 := HG2); clear h9; go_simp; go_at_call 5; refine (w_PriceOf ⟨#[112, 98]⟩ s _ _ HS2.out (by omega) (by decide)).mono ?_; rintro e w3 ⟨pb, rfl, hok3, hg3, hS3⟩; dsimp only [aggP]; (have HG3 := hide (HG2.out.trans hg3)); (have HS3 := hide hS3); (have HK3 := hide hok3.1); clear hg3 hS3 hok3)
          | (go_simp; go_at_call 5; refine (w_PriceOf ⟨#[112, 97]⟩ s _ _ HS1.out (by omega) (by decide)).mono ?_; rintro e w2 ⟨pa, rfl, hok2, hg2, hS2⟩; dsimp only [aggP]; (have HG2 := hide (HG1.out.trans hg2)); (have HS2 := hide hS2); (have HK2 := hide hok2.1); clear hg2 hS2 hok2)
          | (go_simp; go_at_call 4; refine (w_Zones s 0 _ (HS0.out.nx (Nx.refl _).drew) (by omega)).mono ?_; rintro e w1 ⟨D, c1, zs, rfl, hzl, hRz, hg1, hS1⟩; (have HZ1 := hide (show RdZones w1 (s + 1) D zs from hRz.low (by show s + 1 ≤ w0.heap.size; omega))); (have HGB := hide (show Gr s w0 w1 from (Gr.refl s w0).drew.trans hg1)); (have HG1 := hide (Gr.refl s w1)); (have HS1 := hide hS1); (have HZL := hide hzl); clear hzl hRz hg1 hS1))
    all_goals
      (go_wp2
       go_meet
       have hs4 := HS4.out.lt
       have hs5 := HS5.out.lt
       have hs6 := HS6.out.lt
       have hs7 := HS7.out.lt
       have h7j := HL7.out
       have hgb := HGB.out.sz
       have h14 := HG4.out.sz
       have h15 := HG5.out.sz
       have h16 := HG6.out.sz
       have h17 := HG7.out.sz
       have n4 : w4.heap.size ≠ s := by omega
       have n5 : w5.heap.size ≠ s := by omega
       have n6 : w6.heap.size ≠ s := by omega
       have m4 : s + 1 ≤ w4.heap.size := by omega
       have m5 : s + 1 ≤ w5.heap.size := by omega
       have m6 : s + 1 ≤ w6.heap.size := by omega
       have m7 : s + 1 ≤ w7.heap.size := by omega
       have hlen : ([pa, pb, pc].take r).length = r := by simp; omega
       have heq : ∀ g : Nat, Value.slice (some ⟨g, 0, none⟩) r 3 = Value.slice (some ⟨g, 0, none⟩) ([pa, pb, pc].take r).length 3 := fun g => by rw [hlen]
       refine ⟨D, _, C, c1, 3, cj, zs, [pa, pb, pc].take r, ts, rfl, heq _, rfl, ?_⟩
       refine ⟨HZL.out, by rw [hlen]; exact hr3, ⟨by omega, by omega, by omega⟩, HZ1.out.gr (by first | exact HG7.out | exact HG7.out.alloc _) (by omega), ⟨Rd.take (xs := [pa, pb, pc]) (Rd.lit (lo := s + 1) (K := 10) (enc := encP) (t := 30) (cs := #[.string pa.key, .int .i64 pa.base, .int .i64 pa.metre, .int .i64 pa.minute, .int .i64 pa.cross, .int .i64 pa.from_, .int .i64 pa.to_, .int .i64 pa.peak, .int .i64 pa.least, .int .i64 pa.most, .string pb.key, .int .i64 pb.base, .int .i64 pb.metre, .int .i64 pb.minute, .int .i64 pb.cross, .int .i64 pb.from_, .int .i64 pb.to_, .int .i64 pb.peak, .int .i64 pb.least, .int .i64 pb.most, .string pc.key, .int .i64 pc.base, .int .i64 pc.metre, .int .i64 pc.minute, .int .i64 pc.cross, .int .i64 pc.from_, .int .i64 pc.to_, .int .i64 pc.peak, .int .i64 pc.least, .int .i64 pc.most]) (by first | exact hnew rfl | exact lit_keep (hnew rfl) hx7.out n6 | exact lit_keep (lit_keep (hnew rfl) hx6.out n5) hx7.out n5 | exact lit_keep (lit_keep (lit_keep (hnew rfl) hx5.out n4) hx6.out n4) hx7.out n4) (by first | exact m4 | exact m5 | exact m6 | exact m7) (fun _ => rfl) rfl) r, fun x hx => ?_⟩, (by first | exact HJ7.out | exact HJ7.out.nx ((Nx.refl _).alloc _)), (by first | exact HGB.out.trans HG7.out | exact (HGB.out.trans HG7.out).alloc _), (by first | exact HS7.out.more (by omega) | exact (HS7.out.nx ((Nx.refl _).alloc _)).more (by omega))⟩
       have hx := List.mem_of_mem_take hx
       simp only [List.mem_cons, List.not_mem_nil, or_false] at hx
       have k2 := HK2.out
       have k3 := HK3.out
       have k4 := HK4.out
       rcases hx with rfl | rfl | rfl <;> omega)
  case rest =>
  obtain ⟨D, B, C, c1, d, e, zs, ps, ts, rfl, rfl, rfl, hA⟩ := hcut
  obtain ⟨wa, hwa⟩ : ∃ wa, wa = wc := ⟨_, rfl⟩
  rw [← hwa] at hA ⊢
  have HA := hide hA
  have hjl := hA.jl
  have hpl := hA.pl
  have hzl := hA.zl
  clear hwa hA
  have HCP := hide (fun W (hn : Nx wa W) => w_CheckPrices (s + 1) B d ps W (HA.out.p.nx hn) (by omega))
  have HPF := hide (fun W (hn : Nx wa W) => w_PricesFault (s + 1) B d ps W (HA.out.p.nx hn) (by omega))
  have HCJ := hide (fun W (hn : Nx wa W) => w_CheckTrips (s + 1) C e ts W (HA.out.j.nx hn) (by omega))
  have HJF := hide (fun W (hn : Nx wa W) => w_JourneysFault (s + 1) C e ts W (HA.out.j.nx hn) (by omega))
  obtain ⟨nz, hnz⟩ : ∃ nz, nz = zs.length := ⟨_, rfl⟩
  obtain ⟨np, hnp⟩ : ∃ np, np = ps.length := ⟨_, rfl⟩
  obtain ⟨nj, hnj⟩ : ∃ nj, nj = ts.length := ⟨_, rfl⟩
  rw [← hnp] at HCP HPF
  rw [← hnj] at HCJ HJF hjl
  rw [← hnz, ← hnp, ← hnj]
  have HNZ := hide hnz
  have HNP := hide hnp
  have HNJ := hide hnj
  clear hnz hnp hnj hzl hpl
  generalize pricesF ps = F2 at *
  generalize joursF ts = F3 at *
  have tF2 : (F2 != F2) = false := by simp
  have tF3 : (F3 != F3) = false := by simp
  go_upto_region 5 with (first
    | (go_at_call 8; refine (HCP.out _ (Nx.refl _)).mono ?_; rintro e w1 ⟨rfl, hn1⟩)
    | (go_at_call 9; refine (HPF.out _ hn1).mono ?_; rintro e w2 ⟨rfl, hn2⟩)
    | (go_at_call 10; refine (HCJ.out _ (hn1.trans hn2)).mono ?_; rintro e w3 ⟨rfl, hn3⟩)
    | (go_at_call 11; refine (HJF.out _ ((hn1.trans hn2).trans hn3)).mono ?_; rintro e w4 ⟨rfl, hn4⟩))
  have HNA := hide (((hn1.trans hn2).trans hn3).trans hn4)
  have HSA := hide (HA.out.str.nx HNA.out)
  clear hn1 hn2 hn3 hn4 HCP HPF HCJ HJF tF2 tF3
  have j1 : 1 ≤ nj := hjl.1
  have j2 : (1 : Int) ≤ (nj : Int) := by omega
  have j3 : 1 ≤ e := by omega
  have j4 : (1 : Int) ≤ (e : Int) := by omega
  go_upto_region 6 with fail
  go_cut [8] (fun v wx => ∃ (b8 : Nat) (x : Price), v = .pointer (some ⟨b8, 0, none⟩) ∧ okP x ∧ wx.heap[b8]? = some (.cells (encP x).toArray 30 (0, 0)) ∧ Gr s w4 wx)
  case first =>
    go_wp2_with (go_at_call 5; refine (w_PriceOf ⟨#[112, 120]⟩ s _ _ HSA.out (by omega) (by decide)).mono ?_; rintro e w5 ⟨x, rfl, hok, hg5, hS5⟩; dsimp only [aggP]; (have HX5 := hide hok); (have HG5 := hide hg5); clear hok hg5 hS5)
    go_meet
    exact ⟨_, x, rfl, HX5.out, hnew rfl, HG5.out.alloc _⟩
  case rest =>
  obtain ⟨b8, x, rfl, hok, hbx, hgx⟩ := hcut
  have hgA : Gr s wa wc := (Gr.of_nx HNA.out).trans hgx
  have hJ := HA.out.j.gr hgA (by omega)
  have hlt : 0 < ts.length := by have := HNJ.out; omega
  obtain ⟨bt, ot, rfl, _, hbt, _, htc⟩ := hJ.1.open_ (Nx.refl wc) hlt
  have ht1 : ts.take 1 = [ts[0]] := by
    cases ts with
    | nil => exact absurd hlt (by simp)
    | cons t l => simp
  have h1 := hJ.1.take 1
  rw [ht1] at h1
  have h0 := hJ.2 ts[0] (List.getElem_mem hlt)
  have hC : RpB w wc D B bt ot b8 zs ps ts[0] x :=
    ⟨(HA.out.z.gr hgA (by omega)).low (Nat.zero_le _), by have := HA.out.zl; omega, (HA.out.p.gr hgA (by omega)).low (Nat.zero_le _), by have := HA.out.pl; omega,
     h0.1.low (Nat.zero_le _), h0.2.1, h0.2.2.1, h0.2.2.2.1, h0.2.2.2.2, hbt, fun j u hu => (by have := htc 0 hlt j u hu; simpa using this), h1.low (Nat.zero_le _), by have := hok.1; omega, hbx,
     Nx.of_gr (((Gr.of_nx HW0.out).trans HA.out.gr).trans hgA) HSS.out⟩
  refine ‹∀ (a : Act) (w_1 : World), Code.wp _ _ _ a w_1 → _› _ _ ?_
  exact st_RP7 hC HNZ.out.symm HNP.out.symm j1
end Go.Proofs.YtdnmcpojjndjbaaGreatDoor
