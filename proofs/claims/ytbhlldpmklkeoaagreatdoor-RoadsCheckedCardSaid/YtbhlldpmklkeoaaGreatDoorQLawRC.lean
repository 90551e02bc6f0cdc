/- jitlaw1.RoadsChecked returns true. -/
import Derived.Test.YtbhlldpmklkeoaaGreatDoorQRdsS
import Derived.Test.YtbhlldpmklkeoaaGreatDoorQRoadsR
import Derived.Test.YtbhlldpmklkeoaaGreatDoorQG39
import Derived.Test.YtbhlldpmklkeoaaGreatDoorQArcT
import Derived.Test.YtbhlldpmklkeoaaGreatDoorQG41
import Derived.Deep.DeepCutAuto
import Derived.Lib.MinMaxS
import Derived.Test.YtbhlldpmklkeoaaGreatDoorQG17
namespace Go.Proofs.YtbhlldpmklkeoaaGreatDoor
open Go.RowKit

theorem min_lo (a b : ByteArray) : Lib.minS a b = lo2 a b ∧ Lib.maxS a b = hi2 a b := by
  unfold Lib.minS Lib.maxS lo2 hi2
  rw [Proofs.bytesLess_eq, Lib.toList_data, Lib.toList_data]
  by_cases h : b.data.toList < a.data.toList
  · have h1 : ¬ a.data.toList < b.data.toList := fun e => List.lt_irrefl _ (List.lt_trans h e)
    have h2 : a.data.toList ≠ b.data.toList := fun e => by rw [e] at h; exact List.lt_irrefl _ h
    simp [h, h1, h2]
  · by_cases h1 : a.data.toList < b.data.toList
    · simp [h, h1]
    · have h2 : a = b := data_inj (List.le_antisymm (List.not_lt.1 h) (List.not_lt.1 h1))
      subst h2
      simp
set_option maxRecDepth 100000 in
set_option maxHeartbeats 8000000 in
theorem w_lawRC (A : Option Addr) (n c : Nat) (w : World) (hn : n ≤ 9223372036854775807)
    (hL : 0 < n → ∃ b off, A = some ⟨b, off, none⟩ ∧ b < w.heap.size ∧ ∀ j, j < n → ∃ z : Int, w.cell? ⟨b, off + j, none⟩ = some (.int .i64 z) ∧ -9223372036854775808 ≤ z ∧ z ≤ 9223372036854775807) :
    Calls Tryz.prog 3 #[.slice A n c] w (TrueNx w) := by
  have hS0 : Str (w.alloc (.cells #[.slice A n c, .int .i64 0] 25)) w.heap.size 0 := str_new A n c w hn hL
  clear hL
  go_enter Tryz.func3, Tryz.ntmps3
  go_wp2_with fail
  refine (w_RoadsS _ 0 _ hS0 (by omega)).mono ?_
  rintro e w1 ⟨vN, vA, vB, ns, rs, bs, rfl, hown, hn0, hn5, hr10, hb101, hg1, hS1⟩
  have hsz : (w.alloc (.cells #[.slice A n c, .int .i64 0] 25)).heap.size = w.heap.size + 1 := by simp
  rw [hsz] at hown
  have hz1 := hg1.sz
  rw [hsz] at hz1
  have hg01 : Gr w.heap.size w w1 := (Gr.of_nx ((Nx.refl w).alloc _)).trans hg1
  clear hg1 hS0
  go_wp2_with fail
  refine (w_Departure _ _ _ hS1 (by omega)).mono ?_
  rintro e w2 ⟨at_, ha1, ha2, rfl, hg2, hS2⟩
  have hown2 := hown.gr hg2 (by omega)
  have hg02 := hg01.trans hg2
  have hz2 := hg2.sz
  have hsmA := hown2.smA
  have hsmN := hown2.smN
  obtain ⟨B0, B1, B2, ca, cb, cc, e1, e2, e3, hRN, hRA, hRB⟩ := hown2.rd
  subst e1 e2 e3
  clear hown hown2 hg01 hg2 hS1
  obtain ⟨w3, hw3⟩ : ∃ w3, w3 = w2.alloc (.cells #[.slice B0 ns.length ca, .slice B1 rs.length cb, .slice B2 bs.length cc] 30) := ⟨_, rfl⟩
  have hn3 : Nx w2 w3 := hw3 ▸ (Nx.refl w2).alloc _
  have hs3 : w2.heap.size < w3.heap.size := by rw [hw3]; simp
  have b0 : w3.cell? ⟨w2.heap.size, 0, none⟩ = some (.slice B0 ns.length ca) := by rw [hw3]; go_simp
  have b1 : w3.cell? ⟨w2.heap.size, 1, none⟩ = some (.slice B1 rs.length cb) := by rw [hw3]; go_simp
  have b2 : w3.cell? ⟨w2.heap.size, 2, none⟩ = some (.slice B2 bs.length cc) := by rw [hw3]; go_simp
  have hg03 := hg02.then_nx hn3
  have hS3 := hS2.nx hn3
  have HRN := hide (hRN.nx hn3)
  have HRA := hide (hRA.nx hn3)
  have HRB := hide (hRB.nx hn3)
  have HSA := hide hsmA
  have HSN := hide hsmN
  clear hRN hRA hRB hsmA hsmN hg02 hS2
  go_upto_region 3 with fail
  rw [← hw3]
  have HW3 := hide hw3
  clear hw3
  generalize w2.heap.size = g4 at *
  have HCR := hide (fun W (hx : Nx w3 W) => w_CheckRoads (w.heap.size + 1) (w.heap.size + 1) (w.heap.size + 1) B0 B1 B2 ca cb cc ns rs bs W (HRN.out.nx hx) HSN.out (by omega) (HRA.out.nx hx) (by omega) (HRB.out.nx hx) (by omega))
  have HRF := hide (fun W (hx : Nx w3 W) => w_RoadsFault (w.heap.size + 1) (w.heap.size + 1) (w.heap.size + 1) B0 B1 B2 ca cb cc ns rs bs W (HRN.out.nx hx) HSN.out (by omega) (HRA.out.nx hx) (by omega) (HRB.out.nx hx) (by omega))
  generalize roadsF ns rs bs = F0 at *
  go_cut [22] (fun v wx => v = .bool false ∧ Nx w3 wx)
  case first =>
    have tF : (F0 != F0) = false := by simp
    go_region_held3 (fun w' => w'.cell? ⟨g4, 0, none⟩ = some (.slice B0 ns.length ca) ∧ w'.cell? ⟨g4, 1, none⟩ = some (.slice B1 rs.length cb) ∧ w'.cell? ⟨g4, 2, none⟩ = some (.slice B2 bs.length cc))
      (first | (go_split_ands; exact ⟨nx_cell hn5 (Nat.lt_of_lt_of_le hs3 hn4.sz) ‹_›, nx_cell hn5 (Nat.lt_of_lt_of_le hs3 hn4.sz) ‹_›, nx_cell hn5 (Nat.lt_of_lt_of_le hs3 hn4.sz) ‹_›⟩) | (go_split_ands; exact ⟨nx_cell hn4 hs3 ‹_›, nx_cell hn4 hs3 ‹_›, nx_cell hn4 hs3 ‹_›⟩) | go_keep)
      (first
        | (go_at_call 7; refine (HCR.out _ (Nx.refl w3).drew).mono ?_; rintro e w4 ⟨rfl, hn4⟩)
        | (go_at_call 8; refine (HRF.out _ ((Nx.refl w3).drew.trans hn4)).mono ?_; rintro e w5 ⟨rfl, hn5⟩))
    go_wp2
    go_meet
    exact ⟨by first | rfl | simp, ((Nx.refl w3).drew.trans hn4).trans hn5⟩
  case rest =>
    obtain ⟨rfl, hx⟩ := hcut
    obtain ⟨wd, hwd⟩ : ∃ wd, wd = wc := ⟨_, rfl⟩
    subst hwd
    clear HCR HRF
    have c1 := nx_cell hx hs3 b1
    have hg0c := hg03.then_nx hx
    have hSc := hS3.nx hx
    have hsc := hSc.lt
    have HRAc := hide (HRA.out.nx hx)
    have hs4 := Nat.lt_of_lt_of_le hs3 hx.sz
    clear b0 b1 b2 HRN HRB HSN hx hS3 hg03
    generalize hm : rs.length = m at *
    have HM := hide hm
    clear hm
    by_cases hr0 : m = 0
    · have t0 : ((m : Int) == 0) = true := by rw [beq_iff_eq]; omega
      clear hr0
      go_wp2_with (go_at_call 9; refine (w_driven _).mono ?_; rintro e w5 ⟨rfl, hn5⟩)
      go_ret
      exact ⟨rfl, Nx.of_gr (hg0c.then_nx hn5) (Nat.le_refl _)⟩
    · have t0 : ((m : Int) == 0) = false := by rw [beq_eq_false_iff_ne]; omega
      have hr1 : (1 : Int) ≤ (m : Int) := by omega
      obtain ⟨ba, offa, rfl, hlo, hba, _, hca⟩ := HRAc.out.1.open_ (Nx.refl wd) (by have := HM.out; omega)
      have HCA := hide (fun W (hg : Gr w.heap.size wd W) (q : Nat) (hq : q < rs.length) (j : Nat) (u : Value) (hu : (encArc rs[q])[j]? = some u) => (World.grownBy.cell (row := some w.heap.size) hg (hca q hq j u hu) (by simp; omega)))
      have cA : ∀ o, (wd.alloc o).cell? ⟨g4, 1, none⟩ = some (.slice (some ⟨ba, offa, none⟩) m cb) := fun o => nx_cell ((Nx.refl wd).alloc o) hs4 c1
      clear hca
      go_upto_region 7 with fail
      go_cut [6] (fun v wx => ∃ (q g6 : Nat) (x : Arc), x ∈ rs ∧ v = .pointer (some ⟨g6, 0, none⟩) ∧ wx.cell? ⟨g6, 0, none⟩ = some (.string x.key) ∧ wx.cell? ⟨g6, 1, none⟩ = some (.string x.from_) ∧ wx.cell? ⟨g6, 2, none⟩ = some (.string x.to_) ∧ wx.cell? ⟨g6, 3, none⟩ = some (.int .i64 x.long) ∧ wx.cell? ⟨g6, 4, none⟩ = some (.slice x.ka x.knots.length x.kc) ∧ w.heap.size < g6 ∧ g6 < wx.heap.size ∧ Gr w.heap.size wd wx ∧ Str wx w.heap.size 475)
      case first =>
        go_region_law
          (first | (go_simp; go_at_call 10; refine (w_Next (m : Int) _ _ _ (hSc.nx (by repeat (first | with_reducible exact Nx.refl _ | with_reducible refine Nx.drew ?_ | with_reducible refine Nx.alloc ?_ _))) (by omega) (by omega)).mono ?_; rintro e w5 ⟨q, hq1, hq2, rfl, hg5, hS5⟩; (obtain ⟨q, rfl⟩ := Int.eq_ofNat_of_zero_le hq1); (have hq3 : (q : Int) < (m : Int) := by omega); (have hqr : q < rs.length := by have := HM.out; omega); (have hgc5 : Gr w.heap.size wd w5 := Gr.trans (by repeat (first | with_reducible exact Gr.refl _ _ | with_reducible refine Gr.drew ?_ | with_reducible refine Gr.alloc ?_ _)) hg5); (have hz5 := hgc5.sz); (have d1 : w5.cell? ⟨g4, 1, none⟩ = some (.slice (some ⟨ba, offa, none⟩) m cb) := World.grownBy.cell (row := some w.heap.size) hgc5 c1 (by simp; omega)); (have k0 : w5.cell? ⟨ba, offa + q * 5, none⟩ = some (.string rs[q].key) := HCA.out w5 hgc5 q hqr 0 _ rfl); (have k1 : w5.cell? ⟨ba, offa + q * 5 + 1, none⟩ = some (.string rs[q].from_) := HCA.out w5 hgc5 q hqr 1 _ rfl); (have k2 : w5.cell? ⟨ba, offa + q * 5 + 2, none⟩ = some (.string rs[q].to_) := HCA.out w5 hgc5 q hqr 2 _ rfl); (have k3 : w5.cell? ⟨ba, offa + q * 5 + 3, none⟩ = some (.int .i64 rs[q].long) := HCA.out w5 hgc5 q hqr 3 _ rfl); (have k4 : w5.cell? ⟨ba, offa + q * 5 + 4, none⟩ = some (.slice rs[q].ka rs[q].knots.length rs[q].kc) := HCA.out w5 hgc5 q hqr 4 _ rfl); (have hg45 : g4 < w5.heap.size := by omega); (have d1A := fun o => nx_cell ((Nx.refl w5).alloc o) hg45 d1); (have hb5 : ba < w5.heap.size := by omega); (have k0A := fun o => nx_cell ((Nx.refl w5).alloc o) hb5 k0); (have k1A := fun o => nx_cell ((Nx.refl w5).alloc o) hb5 k1); (have k2A := fun o => nx_cell ((Nx.refl w5).alloc o) hb5 k2); (have k3A := fun o => nx_cell ((Nx.refl w5).alloc o) hb5 k3); (have k4A := fun o => nx_cell ((Nx.refl w5).alloc o) hb5 k4); (try (have z6 : w5.heap[wd.heap.size]? = some (.cells #[.string ⟨#[]⟩, .string ⟨#[]⟩, .string ⟨#[]⟩, .int .i64 0, .slice none 0 0] 38 (0, 0)) := (World.grownBy.block (row := some w.heap.size) hg5 _ (by simp) (by simp; omega)).trans (hnew_drew rfl); have y0 := cell_of_row w5 _ 0 _ _ _ z6; have y1 := cell_of_row w5 _ 1 _ _ _ z6; have y2 := cell_of_row w5 _ 2 _ _ _ z6; have y3 := cell_of_row w5 _ 3 _ _ _ z6; have y4 := cell_of_row w5 _ 4 _ _ _ z6; simp at y0 y1 y2 y3 y4; have yf := fun j => frozen_blk (j := j) z6; have yf0 := yf 0; have yf1 := yf 1; have yf2 := yf 2; have yf3 := yf 3; have yf4 := yf 4))))
        all_goals (go_wp2; go_meet)
        all_goals
          first
            | (have hzz := z6
               have hgs := ((((((Gr.refl wd.heap.size w5).setS (p := ⟨wd.heap.size, 0, none⟩) (.inl rfl) (.string rs[q].key)).setS (p := ⟨wd.heap.size, 1, none⟩) (.inl rfl) (.string rs[q].from_)).setS (p := ⟨wd.heap.size, 2, none⟩) (.inl rfl) (.string rs[q].to_)).setS (p := ⟨wd.heap.size, 3, none⟩) (.inl rfl) (.int .i64 rs[q].long)).setS (p := ⟨wd.heap.size, 4, none⟩) (.inl rfl) (.slice rs[q].ka rs[q].knots.length rs[q].kc))
               have hzs := hgs.sz
               exact ⟨q, _, rs[q], List.getElem_mem hqr, rfl, by go_simp, by go_simp, by go_simp, by go_simp, by go_simp, by omega, by have h9 := (Array.getElem?_eq_some_iff.1 z6).1; omega, hgc5.grown hgs (fun k hk => .inr (by injection hk with hk; omega)), (hS5.row hgs (fun k hk => by injection hk with hk; omega)).more (by omega)⟩)
            | exact ⟨q, _, rs[q], List.getElem_mem hqr, rfl, by go_simp, by go_simp, by go_simp, by go_simp, by go_simp, by omega, by simp, hgc5.alloc _, (hS5.nx ((Nx.refl w5).alloc _)).more (by omega)⟩
      case rest =>
        obtain ⟨q, g6, x, hxm, rfl, d0, d1, d2, d3, d4, hg6s, hg6, hgx, hSx⟩ := hcut
        have hsm := HSA.out x hxm
        have hKx := ((HRAc.out.2 x hxm).1).gr hgx (by omega)
        have hg0x := hg0c.trans hgx
        clear HCA cA c1 HRA HRAc HW3 hg0c hgx hSc
        obtain ⟨hs1, hs2, hs3', hs4'⟩ := hsm
        have HKX := hide hKx
        have HTO := hide (w_TimeOn (w.heap.size + 1) x at_ wc hKx hs1 hs2 hs3' hs4')
        clear hKx
        generalize hxl : x.knots.length = xn at *
        have HXL := hide hxl
        clear hxl
        go_wp2_with fail
        refine HTO.out.mono ?_
        rintro e w7 ⟨rfl, hn7⟩
        have f0 := nx_cell hn7 hg6 d0
        have f1 := nx_cell hn7 hg6 d1
        have f2 := nx_cell hn7 hg6 d2
        have f3 := nx_cell hn7 hg6 d3
        have f4 := nx_cell hn7 hg6 d4
        have hg67 := Nat.lt_of_lt_of_le hg6 hn7.sz
        clear d0 d1 d2 d3 d4
        have hmin : ∀ W ts ty, (Builtin.min_ ts ty #[.string x.from_, .string x.to_]).run Tryz.prog W = .ok (.string (lo2 x.from_ x.to_)) W := fun W ts ty => by rw [← (min_lo x.from_ x.to_).1]; exact Lib.run_min_strs W ts ty _ _
        have hmax : ∀ W ts ty, (Builtin.max_ ts ty #[.string x.from_, .string x.to_]).run Tryz.prog W = .ok (.string (hi2 x.from_ x.to_)) W := fun W ts ty => by rw [← (min_lo x.from_ x.to_).2]; exact Lib.run_max_strs W ts ty _ _
        go_upto_region 10 with (first | rw [hmin] | rw [hmax])
        clear hmin hmax
        obtain ⟨w8, hw8⟩ : ∃ w8, w8 = w7.alloc (.cells #[.string (lo2 x.from_ x.to_), .int .i64 0, .int .i64 0, .string (hi2 x.from_ x.to_), .int .i64 0, .int .i64 0] 43) := ⟨_, rfl⟩
        have hn8 : Nx w7 w8 := hw8 ▸ (Nx.refl w7).alloc _
        have hblk : w8.heap[w7.heap.size]? = some (.cells #[.string (lo2 x.from_ x.to_), .int .i64 0, .int .i64 0, .string (hi2 x.from_ x.to_), .int .i64 0, .int .i64 0] 43 (0, 0)) := by rw [hw8]; exact hnew rfl
        rw [← hw8]
        have HW8 := hide hw8
        clear hw8
        have l0 := nx_cell hn8 hg67 f0
        have l1 := nx_cell hn8 hg67 f1
        have l2 := nx_cell hn8 hg67 f2
        have l3 := nx_cell hn8 hg67 f3
        have l4 := nx_cell hn8 hg67 f4
        have hg68 := Nat.lt_of_lt_of_le hg67 hn8.sz
        have hRN : Rd w8 0 (some ⟨w7.heap.size, 0, none⟩) 3 encNode (pairN x.from_ x.to_) := by
          have h2 : Rd w8 0 (some ⟨w7.heap.size, 0, none⟩) 3 encNode [(⟨lo2 x.from_ x.to_, 0, 0⟩ : Node), ⟨hi2 x.from_ x.to_, 0, 0⟩] := Rd.lit hblk (Nat.zero_le _) encNode_len rfl
          unfold pairN
          by_cases h : x.from_ = x.to_
          · rw [if_pos h]
            have h3 := h2.take 1
            have e : lo2 x.from_ x.to_ = x.from_ := by rw [← h]; exact (lo_hi_eq _).1
            rw [e] at h3
            exact h3
          · rw [if_neg h]; exact h2
        have HRN := hide hRN
        have hnx8 := hn7.trans hn8
        clear f0 f1 f2 f3 f4 hRN hblk
        generalize w7.heap.size = g8 at *
        go_upto_if 60 with fail
        go_cut [9] (fun v wx => v = .slice (some ⟨g8, 0, none⟩) (pairN x.from_ x.to_).length 2 ∧ w8 = wx)
        case first =>
          go_wp2_with fail
          all_goals
            rename_i hh
            rw [eqS_iff] at hh
            go_meet
            first
              | exact ⟨by rw [show (pairN x.from_ x.to_).length = 1 by unfold pairN; rw [if_pos (of_decide_eq_true hh)]; rfl], rfl⟩
              | exact ⟨by rw [show (pairN x.from_ x.to_).length = 2 by unfold pairN; rw [if_neg (of_decide_eq_false hh)]; rfl], rfl⟩
        case rest =>
          obtain ⟨rfl, rfl⟩ := hcut
          have hS8 := hSx.nx hnx8
          have hs8 := hS8.lt
          have HRF2 := hide (fun (g9 : Nat) W (hn : Nx w8 W) (hg : W.heap[g9]? = some (.cells #[.string x.key, .string x.from_, .string x.to_, .int .i64 x.long, .slice x.ka xn x.kc] 38 (0, 0))) =>
            w_RoadsFault 0 0 0 (some ⟨g8, 0, none⟩) (some ⟨g9, 0, none⟩) none 2 1 0 (pairN x.from_ x.to_) [x] [] W (HRN.out.nx hn) (pair_small hs3' hs4') (by have := pair_len x.from_ x.to_; omega) ⟨Rd.lit hg (Nat.zero_le _) encArc_len (by show _ = encArc x ++ []; unfold encArc; rw [HXL.out]; rfl), fun y hy => by simp at hy; subst hy; exact ⟨(((HKX.out.nx hnx8).nx hn).low (Nat.zero_le _)), by rw [HXL.out]; exact hs1, hs2⟩⟩ (by simp) Rd.nil (by simp))
          have HFF := hide (show orI [roadsF (pairN x.from_ x.to_) [x] [], momF at_] = timeOnF x at_ by rw [orI_two]; rfl)
          have HOK := hide (fun h : roadsF (pairN x.from_ x.to_) [x] [] = 0 => timeOn_ok h)
          have HTI := hide (show timeOnI x at_ = if timeOnF x at_ = 0 then timeI x.knots at_ else 0 from rfl)
          have HTF := hide (show timeOnF x at_ = if roadsF (pairN x.from_ x.to_) [x] [] = 0 then momF at_ else roadsF (pairN x.from_ x.to_) [x] [] from rfl)
          clear HTO HRN
          generalize timeOnF x at_ = F at *
          generalize timeOnI x at_ = I at *
          generalize roadsF (pairN x.from_ x.to_) [x] [] = RF at *
          generalize (pairN x.from_ x.to_).length = pn at *
          go_wp2_with fail
          refine (HRF2.out _ _ ((Nx.refl w8).alloc _) (hnew rfl)).mono ?_
          rintro e w9 ⟨rfl, hn9⟩
          have hn89 := ((Nx.refl w8).alloc (.cells #[.string x.key, .string x.from_, .string x.to_, .int .i64 x.long, .slice x.ka xn x.kc] 38)).trans hn9
          have m0 := nx_cell hn89 hg68 l0
          have m1 := nx_cell hn89 hg68 l1
          have m2 := nx_cell hn89 hg68 l2
          have m3 := nx_cell hn89 hg68 l3
          have m4 := nx_cell hn89 hg68 l4
          have hg69 := Nat.lt_of_lt_of_le hg68 hn89.sz
          have HO2 := hide (fun g W (hg : W.heap[g]? = some (.cells #[.int .i64 RF, .int .i64 (momF at_)] 33 (0, 0))) => w_Or2 RF (momF at_) g 2 W hg)
          rw [HFF.out] at HO2
          clear l0 l1 l2 l3 l4 HRF2
          go_wp2_with (go_at_call 13; refine (w_MomentFault _ _).mono ?_; rintro e w' ⟨rfl, rfl⟩)
          refine (HO2.out _ _ (hnew rfl)).mono ?_
          rintro e w' ⟨rfl, rfl⟩
          have hna := (Nx.refl w9).alloc (.cells #[.int .i64 RF, .int .i64 (momF at_)] 33)
          have n0 := nx_cell hna hg69 m0
          have n1 := nx_cell hna hg69 m1
          have n2 := nx_cell hna hg69 m2
          have n3 := nx_cell hna hg69 m3
          have n4 := nx_cell hna hg69 m4
          have hnx10 := hnx8.trans (hn89.trans hna)
          clear m0 m1 m2 m3 m4
          by_cases hF : F = 0
          · have hRF : RF = 0 := by
              have := HTF.out
              by_cases h : RF = 0
              · exact h
              · rw [if_neg h] at this; omega
            have hmo : momF at_ = 0 := by have := HTF.out; rw [if_pos hRF] at this; omega
            have hmb : 0 ≤ at_ ∧ at_ ≤ 345686399999 := by
              have hm2 : momB at_ = true := by
                cases h : momB at_ with
                | true => rfl
                | false => unfold momF argF at hmo; rw [h] at hmo; simp at hmo
              have hb := outB_false.1 (show outB at_ 0 lastMo = false by unfold momB at hm2; simpa using hm2)
              unfold lastMo at hb
              exact hb
            have HI := hide (HTI.out.trans (if_pos hF))
            have HAT := hide (fun W (hn : Nx wc W) => w_ArcTime (w.heap.size + 1) x at_ W (HKX.out.nx hn) (HOK.out hRF) hmb)
            subst hF
            have tI : (I == timeI x.knots at_) = true := by rw [HI.out]; simp
            clear hRF hmo hmb HO2
            go_wp2_with (first
              | (go_at_call 14; rw [← HXL.out]; refine (HAT.out _ hnx10).mono ?_; rintro e w11 ⟨rfl, hn11⟩)
              | (go_at_call 9; refine (w_driven _).mono ?_; rintro e w12 ⟨rfl, hn12⟩))
            go_ret
            exact ⟨rfl, Nx.of_gr (hg0x.then_nx ((hnx10.trans hn11).trans hn12)) (Nat.le_refl _)⟩
          · have HI := HTI.out
            rw [if_neg hF] at HI
            have tF : (F != 0) = true := by simpa using hF
            have tF2 : (F == F) = true := by simp
            subst HI
            clear HO2 hF
            go_wp2_with (go_at_call 9; refine (w_driven _).mono ?_; rintro e w12 ⟨rfl, hn12⟩)
            go_ret
            exact ⟨rfl, Nx.of_gr (hg0x.then_nx (hnx10.trans hn12)) (Nat.le_refl _)⟩
end Go.Proofs.YtbhlldpmklkeoaaGreatDoor
