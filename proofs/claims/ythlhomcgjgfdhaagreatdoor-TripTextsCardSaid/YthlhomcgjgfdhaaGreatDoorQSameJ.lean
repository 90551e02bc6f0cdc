/- Trips that are the same: the reference's SameJourney, slices.EqualFunc over trips. -/
import Derived.Test.YthlhomcgjgfdhaaGreatDoorQG8
import Derived.Test.YthlhomcgjgfdhaaGreatDoorQJouF
import Derived.Test.YthlhomcgjgfdhaaGreatDoorQG20
import Derived.Laws.StructEq
import Derived.Deep.DeepMust
namespace Go.Proofs.YthlhomcgjgfdhaaGreatDoor
open Go.RowKit Go.Sort

theorem sin_WinJ (d : Nat) (x y : Int) (w : World) : (Op.equalIn (d + 2) 69 (.agg #[.int .i64 x, .int .i64 y]) (.agg #[.int .i64 x, .int .i64 y])).run Tryz.prog w = .ok true w := by
  have u3 := Tryz.underlying3
  have a3 := Tryz.isAgg3
  have z3 := Tryz.sizeOf3
  have hS : Tryz.prog.underlying 69 = some (.struct (Tryz.prog.fieldsOf 69)) := by kernel_rfl
  have hp : Tryz.prog.stoodInHeld 69 = false := by kernel_rfl
  rw [run_equalIn_agg w (d + 1) 69 _ _ hS hp]
  simp only [Program.fieldsOf, Tryz.underlying69]
  go_simp
  try simp
theorem eql_WinJ (x y : Int) (w : World) : (binOp .eql 69 (.agg #[.int .i64 x, .int .i64 y]) (.agg #[.int .i64 x, .int .i64 y])).run Tryz.prog w = .ok (.bool true) w := by
  rw [run_eql_struct, show (10000 : Nat) = 9998 + 2 from rfl, sin_WinJ]; rfl
theorem gd_WinJ : Tryz.prog.eqGuardType Tryz.prog.depth 69 = false := by kernel_rfl
attribute [local go_sem ↓] eql_WinJ
attribute [local go_sem] gd_WinJ
set_option maxRecDepth 100000 in
set_option maxHeartbeats 2000000 in
theorem w_sameJ (x y : Jour) (w : World) (h : coreJ x = coreJ y) (hx : Rd w 0 x.a 1 encS x.nodes) (hy : Rd w 0 y.a 1 encS y.nodes) (hl : x.nodes.length ≤ 65536) :
    Calls Tryz.prog 35 #[aggJ x, aggJ y] w fun e w' => e = .returned (.bool true) ∧ Nx w w' := by
  obtain ⟨e1, e2, e3, e4, e5, e6⟩ := coreJ_eq h
  unfold aggJ
  rw [← e3] at hy
  rw [← e1, ← e2, ← e3, ← e4, ← e5, ← e6]
  have HE := hide (fun W (hn : Nx w W) => w_EqualSS 0 0 x.a y.a x.cap y.cap x.nodes W (hx.nx hn) (hy.nx hn) hl)
  clear h e1 e2 e3 e4 e5 e6 hx hy
  have t1 : (x.ride.toList == x.ride.toList) = true := by rw [eqS_iff]; exact decide_eq_true rfl
  have t2 : (x.rider.toList == x.rider.toList) = true := by rw [eqS_iff]; exact decide_eq_true rfl
  generalize x.nodes.length = n at *
  generalize x.ride = k at *
  generalize x.rider = f at *
  generalize x.metres = lg at *
  generalize x.from_ = fr at *
  generalize x.to_ = tt at *
  obtain ⟨wa, hwa⟩ : ∃ wa, wa = (w.alloc (.cells #[.string k, .string f, .slice x.a n x.cap, .int .i64 lg, .int .i64 fr, .int .i64 tt] 71)).alloc (.cells #[.string k, .string f, .slice y.a n y.cap, .int .i64 lg, .int .i64 fr, .int .i64 tt] 71) := ⟨_, rfl⟩
  have hna : Nx w wa := hwa ▸ ((Nx.refl w).alloc _).alloc _
  have hsz : wa.heap.size = w.heap.size + 2 := by rw [hwa]; simp
  have b0 : wa.cell? ⟨w.heap.size, 0, none⟩ = some (.string k) := by rw [hwa]; go_simp
  have b1 : wa.cell? ⟨w.heap.size, 1, none⟩ = some (.string f) := by rw [hwa]; go_simp
  have b2 : wa.cell? ⟨w.heap.size, 2, none⟩ = some (.slice x.a n x.cap) := by rw [hwa]; go_simp
  have b3 : wa.cell? ⟨w.heap.size, 3, none⟩ = some (.int .i64 lg) := by rw [hwa]; go_simp
  have b4 : wa.cell? ⟨w.heap.size, 4, none⟩ = some (.int .i64 fr) := by rw [hwa]; go_simp
  have b5 : wa.cell? ⟨w.heap.size, 5, none⟩ = some (.int .i64 tt) := by rw [hwa]; go_simp
  have c0 : wa.cell? ⟨w.heap.size + 1, 0, none⟩ = some (.string k) := by rw [hwa]; go_simp
  have c1 : wa.cell? ⟨w.heap.size + 1, 1, none⟩ = some (.string f) := by rw [hwa]; go_simp
  have c2 : wa.cell? ⟨w.heap.size + 1, 2, none⟩ = some (.slice y.a n y.cap) := by rw [hwa]; go_simp
  have c3 : wa.cell? ⟨w.heap.size + 1, 3, none⟩ = some (.int .i64 lg) := by rw [hwa]; go_simp
  have c4 : wa.cell? ⟨w.heap.size + 1, 4, none⟩ = some (.int .i64 fr) := by rw [hwa]; go_simp
  have c5 : wa.cell? ⟨w.heap.size + 1, 5, none⟩ = some (.int .i64 tt) := by rw [hwa]; go_simp
  have HBX := hide (fun W (hx : Nx wa W) => (⟨nx_cell hx (by omega) b3, nx_cell hx (by omega) b4, nx_cell hx (by omega) b5, nx_cell hx (by omega) c3, nx_cell hx (by omega) c4, nx_cell hx (by omega) c5⟩ : W.cell? ⟨w.heap.size, 3, none⟩ = some (.int .i64 lg) ∧ W.cell? ⟨w.heap.size, 4, none⟩ = some (.int .i64 fr) ∧ W.cell? ⟨w.heap.size, 5, none⟩ = some (.int .i64 tt) ∧ W.cell? ⟨w.heap.size + 1, 3, none⟩ = some (.int .i64 lg) ∧ W.cell? ⟨w.heap.size + 1, 4, none⟩ = some (.int .i64 fr) ∧ W.cell? ⟨w.heap.size + 1, 5, none⟩ = some (.int .i64 tt)))
  have HWA := hide hwa
  have HNA := hide hna
  clear hwa hna hsz
  go_enter Tryz.func35, Tryz.ntmps35
  go_upto_region 1 with fail
  rw [← HWA.out]
  go_wp2_with (go_at_call 80; refine (HE.out _ HNA.out).mono ?_; rintro e w2 ⟨rfl, hn2⟩; (obtain ⟨g3, g4, g5, g9, g10, g11⟩ := HBX.out w2 hn2))
  go_ret
  exact ⟨rfl, HNA.out.trans hn2⟩
theorem eg_sameJ : Enters 35 := enters_of Tryz.func35 (by kernel_rfl) rfl
set_option maxRecDepth 100000 in
set_option maxHeartbeats 2000000 in
theorem w_EqualFJ (lo lo' : Nat) (A B : Option Addr) (c d : Nat) (l m : List Jour) (w : World) (hA : RdJours w lo A l) (hB : RdJours w lo' B m) (hl : l.length ≤ 65536) (hc : l.map coreJ = m.map coreJ) :
    Calls Tryz.prog 34 #[.slice A l.length c, .slice B m.length d, .func (.func 35) #[] #[]] w fun e w' => e = .returned (.bool true) ∧ Nx w w' := by
  have hlm : m.length = l.length := by have := congrArg List.length hc; simpa using this.symm
  have HC := hide (fun k (hk : k < l.length) (hk' : k < m.length) => (show coreJ l[k] = coreJ m[k] from by
    have h1 : (l.map coreJ)[k]? = (m.map coreJ)[k]? := by rw [hc]
    rw [List.getElem?_map, List.getElem?_map, List.getElem?_eq_getElem hk, List.getElem?_eq_getElem hk'] at h1
    simpa using h1))
  rw [hlm]
  have eg := eg_sameJ
  unfold Enters at eg
  obtain ⟨g, hge⟩ : ∃ g, g = 35 := ⟨_, rfl⟩
  have HG := hide (fun (x y : Jour) (w : World) (h : coreJ x = coreJ y) (hx : Rd w 0 x.a 1 encS x.nodes) (hy : Rd w 0 y.a 1 encS y.nodes) (hl : x.nodes.length ≤ 65536) => hge ▸ w_sameJ x y w h hx hy hl)
  rw [← hge] at eg ⊢
  clear hge
  obtain ⟨n, hn⟩ : ∃ n, n = l.length := ⟨_, rfl⟩
  rw [← hn] at hl hlm
  rw [← hn]
  have HA := hide hA
  have HB := hide hB
  have HN := hide hn
  have HM := hide hlm
  clear hA hB hn hc hlm
  go_enter Tryz.func34, Tryz.ntmps34
  go_wp2
  go_loopw [17] (fun i wr => ∃ k : Nat, k ≤ n ∧ i = .int .i64 k ∧ Nx w wr) (fun i _ => n - (intOf i).toNat)
  case atStart => exact ⟨0, Nat.zero_le _, rfl, Nx.refl _⟩
  case round =>
    obtain ⟨k, hk, rfl, hbw⟩ := hrel
    by_cases hlt : k < n
    · have hl1 : k < l.length := by have := HN.out; omega
      have hl2 : k < m.length := by have := HM.out; omega
      obtain ⟨b, off, rfl, _, hb, hbr, hc⟩ := (HA.out.nx hbw).1.open_ (Nx.refl _) (by omega)
      obtain ⟨b', off', rfl, _, hb', hbr', hc'⟩ := (HB.out.nx hbw).1.open_ (Nx.refl _) (by omega)
      have c0 : wr.cell? ⟨b, off + k * 6, none⟩ = some (.string l[k].ride) := hc k hl1 0 _ rfl
      have c1 : wr.cell? ⟨b, off + k * 6 + 1, none⟩ = some (.string l[k].rider) := hc k hl1 1 _ rfl
      have c2 : wr.cell? ⟨b, off + k * 6 + 2, none⟩ = some (.slice l[k].a l[k].nodes.length l[k].cap) := hc k hl1 2 _ rfl
      have c3 : wr.cell? ⟨b, off + k * 6 + 3, none⟩ = some (.int .i64 l[k].metres) := hc k hl1 3 _ rfl
      have c4 : wr.cell? ⟨b, off + k * 6 + 4, none⟩ = some (.int .i64 l[k].from_) := hc k hl1 4 _ rfl
      have c5 : wr.cell? ⟨b, off + k * 6 + 5, none⟩ = some (.int .i64 l[k].to_) := hc k hl1 5 _ rfl
      have d0 : wr.cell? ⟨b', off' + k * 6, none⟩ = some (.string m[k].ride) := hc' k hl2 0 _ rfl
      have d1 : wr.cell? ⟨b', off' + k * 6 + 1, none⟩ = some (.string m[k].rider) := hc' k hl2 1 _ rfl
      have d2 : wr.cell? ⟨b', off' + k * 6 + 2, none⟩ = some (.slice m[k].a m[k].nodes.length m[k].cap) := hc' k hl2 2 _ rfl
      have d3 : wr.cell? ⟨b', off' + k * 6 + 3, none⟩ = some (.int .i64 m[k].metres) := hc' k hl2 3 _ rfl
      have d4 : wr.cell? ⟨b', off' + k * 6 + 4, none⟩ = some (.int .i64 m[k].from_) := hc' k hl2 4 _ rfl
      have d5 : wr.cell? ⟨b', off' + k * 6 + 5, none⟩ = some (.int .i64 m[k].to_) := hc' k hl2 5 _ rfl
      have ra := (HA.out.nx hbw).2 l[k] (List.getElem_mem hl1)
      have rb := (HB.out.nx hbw).2 m[k] (List.getElem_mem hl2)
      have hco := HC.out k hl1 hl2
      have HS := hide (fun W (hx : Nx wr W) => HG.out l[k] m[k] W hco ((ra.1.low (Nat.zero_le _)).nx hx) ((rb.1.low (Nat.zero_le _)).nx hx) (by have := ra.2.2.1; omega))
      clear hc hc' ra rb hco
      generalize l[k] = x at *
      generalize m[k] = y at *
      have e0 : ∀ o1, (wr.alloc o1).cell? ⟨b', off' + k * 6, none⟩ = some (.string y.ride) := fun o1 => nx_cell ((Nx.refl _).alloc o1) hbr' d0
      have e1 : ∀ o1, (wr.alloc o1).cell? ⟨b', off' + k * 6 + 1, none⟩ = some (.string y.rider) := fun o1 => nx_cell ((Nx.refl _).alloc o1) hbr' d1
      have e2 : ∀ o1, (wr.alloc o1).cell? ⟨b', off' + k * 6 + 2, none⟩ = some (.slice y.a y.nodes.length y.cap) := fun o1 => nx_cell ((Nx.refl _).alloc o1) hbr' d2
      have e3 : ∀ o1, (wr.alloc o1).cell? ⟨b', off' + k * 6 + 3, none⟩ = some (.int .i64 y.metres) := fun o1 => nx_cell ((Nx.refl _).alloc o1) hbr' d3
      have e4 : ∀ o1, (wr.alloc o1).cell? ⟨b', off' + k * 6 + 4, none⟩ = some (.int .i64 y.from_) := fun o1 => nx_cell ((Nx.refl _).alloc o1) hbr' d4
      have e5 : ∀ o1, (wr.alloc o1).cell? ⟨b', off' + k * 6 + 5, none⟩ = some (.int .i64 y.to_) := fun o1 => nx_cell ((Nx.refl _).alloc o1) hbr' d5
      have q1 : (0 : Int) ≤ (k : Int) := by omega
      have q2 : (k : Int) < (n : Int) := by omega
      unfold aggJ at HS
      go_wp2_with (go_at_fn g; refine (HS.out _ (((Nx.refl _).alloc _).alloc _)).mono ?_; rintro e w2 ⟨rfl, hn2⟩)
      go_roundw
      case rel => exact ⟨k + 1, by omega, by go_num, hbw.trans ((((Nx.refl _).alloc _).alloc _).trans hn2)⟩
      case measure => simp [intOf]; omega
    · go_wp2
      go_ret
      exact ⟨rfl, hbw⟩
end Go.Proofs.YthlhomcgjgfdhaaGreatDoor
