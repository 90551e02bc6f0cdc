/- What all trips cost, as the reference counts it. -/
import Derived.Test.YtemaiikgnogfhaaGreatDoorQG23
import Derived.Test.YtemaiikgnogfhaaGreatDoorQG17
import Derived.Test.YtemaiikgnogfhaaGreatDoorQG33
import Derived.Test.YtemaiikgnogfhaaGreatDoorQFullR
import Derived.Deep.DeepCutAuto
import Derived.Deep.RegionHeld
import Derived.RegionTactic
namespace Go.Proofs.YtemaiikgnogfhaaGreatDoor
open Go.RowKit Go.Sort Go.Shelf

theorem el_Paid : ElemOf Tryz.prog 95 98 8 104 := ElemOf.mk' (z := .agg #[.string ByteArray.empty, .string ByteArray.empty, .slice none 0 0, .int .i64 0, .int .i64 0, .int .i64 0, .int .i64 0, .string ByteArray.empty]) Tryz.underlying95 (by kernel_rfl) rfl
theorem encPd_one (xs : List Pass) (d : Paid) : ∀ v ∈ encPd xs d, v.oneCell' = true := by
  intro v hv; simp [encPd, encJ] at hv; rcases hv with rfl | rfl | rfl | rfl | rfl | rfl | rfl | rfl <;> rfl
set_option maxRecDepth 100000 in
set_option maxHeartbeats 8000000 in
theorem w_paidFor (D X A : Option Addr) (c cx cl : Nat) (zs : List Zone) (p : Price) (xs : List Pass) (l : List Jour) (w : World)
    (hZ : RdZones w 0 D zs) (hzl : zs.length ≤ 100) (_ : p.key.size ≤ 1000000) (hX : RdPasses w 0 X xs) (hxl : xs.length ≤ 300) (hJ : RdJours w 0 A l) (hll : l.length < 20) (hF : faultB zs p xs l = 0) :
    Calls Tryz.prog 55 #[.slice D zs.length c, aggP p, .slice X xs.length cx, .slice A l.length cl] w fun e w' => ∃ (O : List Jour) (R : Option Addr) (cR : Nat), IsOrd l O ∧ e = .returned (.slice R l.length cR) ∧ Rd w' w.heap.size R 8 (encPd xs) (payAll zs p xs [] O) ∧ Nx w w' := by
  obtain ⟨g1, g2, g3, g4, g5⟩ := faultB_zero hF
  obtain ⟨hXS, hXE⟩ := passesF_sorted (passF_zero (orI_zero3 hF).1).2
  have HFU : Hid (∀ t ∈ l, ∀ W, Nx w W → Calls Tryz.prog 86 #[.slice D zs.length c, aggP p, aggJ t] W fun e w' => e = .returned (.int .i64 (fullI zs p t)) ∧ Nx W w') := hide (fun t ht W hn => w_FullOf 0 0 D c zs p t W (hZ.nx hn) hzl ((hJ.2 t ht).1.nx hn) g2 (g4 t ht))
  have HCN : Hid (∀ x ∈ xs, ∀ t ∈ l, ∀ W, Nx w W → Calls Tryz.prog 16 #[.slice D zs.length c, aggX x, aggJ t] W fun e w' => e = .returned (.bool (countsZ x t (crossO zs t.nodes))) ∧ Nx W w') := hide (fun x hx t ht W hn => w_CountsFor 0 0 0 D c zs x t W (hZ.nx hn) hzl ((hJ.2 t ht).1.nx hn) (by have := (hJ.2 t ht).2.2.1; omega) ((hX.2 x hx).1.nx hn) (by have := (hX.2 x hx).2.2.1; omega))
  have HFB := hide (fun t : Jour => fullI_bd (zs := zs) (t := t) g2)
  have HPB := hide (fun (O : List Jour) => payAll_bd (zs := zs) (xs := xs) g2 g3 O [] (fun d hd => by cases hd))
  have HXO := hide g3
  have HJO := hide g4
  have HXR := hide hX.1
  have HXS := hide hXS
  have HXE := hide hXE
  have HCL := hide (fun W (hn : Nx w W) => w_CloneJ 0 A cl l W (hJ.1.nx hn) (by omega))
  have HST := hide (fun (base : Nat) (v : Value) (W : World) (h : W.ownsRow base 48 6 v l.length (l.flatMap encJ)) => w_SortStV l hll g5 h)
  have HBY := hide (fun (O : List Jour) => byOk_all zs p xs O [] (fun d hd => by cases hd))
  obtain ⟨n, hn⟩ : ∃ n, n = l.length := ⟨_, rfl⟩
  obtain ⟨nx, hnx⟩ : ∃ nx, nx = xs.length := ⟨_, rfl⟩
  rw [← hn] at HCL HST hll
  rw [← hnx] at hxl HBY
  rw [← hn, ← hnx]
  have HN := hide hn
  have HNX := hide hnx
  clear hF hZ hzl hX hJ g1 g2 g3 g4 g5 hXS hXE hn hnx
  generalize zs.length = nz at *
  obtain ⟨k0, p1, p2, p3, p4, p5, p6, p7, p8, p9⟩ := p
  obtain ⟨P, hP⟩ : ∃ P : Price, P = ⟨k0, p1, p2, p3, p4, p5, p6, p7, p8, p9⟩ := ⟨_, rfl⟩
  have HFU2 : Hid (∀ t ∈ l, ∀ W, Nx w W → Calls Tryz.prog 86 #[.slice D nz c, .agg #[.string k0, .int .i64 p1, .int .i64 p2, .int .i64 p3, .int .i64 p4, .int .i64 p5, .int .i64 p6, .int .i64 p7, .int .i64 p8, .int .i64 p9], aggJ t] W fun e w' => e = .returned (.int .i64 (fullI zs P t)) ∧ Nx W w') := hide (by rw [hP]; exact HFU.out)
  clear HFU
  rw [← hP] at HFB HPB HBY ⊢
  have HPE := hide hP
  dsimp only [aggP]
  rw [hP]
  dsimp only
  clear hP
  go_enter Tryz.func55, Tryz.ntmps55
  go_upto_region 1 with fail
  obtain ⟨b5, hb5⟩ : ∃ b5, b5 = w.heap.size := ⟨_, rfl⟩
  obtain ⟨w0, hw0⟩ : ∃ w0, w0 = w.alloc (.cells #[.string k0, .int .i64 p1, .int .i64 p2, .int .i64 p3, .int .i64 p4, .int .i64 p5, .int .i64 p6, .int .i64 p7, .int .i64 p8, .int .i64 p9] 29 (0, 0)) := ⟨_, rfl⟩
  have HN0 := hide (show Nx w w0 from hw0 ▸ (Nx.refl w).alloc _)
  have HB0 := hide (show w0.heap[b5]? = some (.cells #[.string k0, .int .i64 p1, .int .i64 p2, .int .i64 p3, .int .i64 p4, .int .i64 p5, .int .i64 p6, .int .i64 p7, .int .i64 p8, .int .i64 p9] 29 (0, 0)) by rw [hw0, hb5]; exact heap_alloc_new w _)
  have hb0l := (Array.getElem?_eq_some_iff.1 HB0.out).1
  rw [← hw0, ← hb5]
  clear hw0 hb5
  have HC1 := hide (HCL.out w0 HN0.out)
  go_upto_region 5 with (first
    | (go_at_call 83; refine HC1.out.mono ?_; rintro e w1 ⟨v, rfl, ho1, hn1⟩; (have HN1 := hide hn1); (have HS1 := hide (HST.out _ _ _ ho1)); clear ho1)
    | (go_at_call 84; refine HS1.out.mono ?_; rintro e w2 ⟨rfl, O, hO, ho2, hg2⟩; (obtain ⟨A2, c2, ev, hR2, _⟩ := Rd.of_own encJ_len (by rw [HN.out]; exact hO.1.length_eq.symm) ho2); (obtain rfl := ev)))
  have HW2 := hide (HN1.out.grown hg2 (fun k hk => own_blk_lt ho2 k hk))
  have HO := hide hO
  have HR2 := hide hR2
  have hOl : O.length = n := by rw [HN.out]; exact hO.1.length_eq
  have HOL := hide hOl
  have HOM := hide (fun (t : Jour) (ht : t ∈ O) => (show t ∈ l from hO.1.mem_iff.1 ht))
  have HSTP := hide (fun (j : Nat) (hj : j < O.length) => payAll_step zs P xs O j hj)
  have hw02 := HW2.out.sz
  have hnw0 := HN0.out.sz
  rw [hOl]
  clear hO ho2 hg2 hR2 hOl HC1 HS1 HN1 HCL HST
  go_loopw [10, 12, 13, 14, 16, 17, 18, 20, 27] (fun v _ _ _ _ _ _ _ i wr => ∃ j : Nat, j ≤ n ∧ i = .int .i64 j ∧ wr.ownsRow w2.heap.size 98 8 v (payAll zs P xs [] (O.take j)).length ((payAll zs P xs [] (O.take j)).flatMap (encPd xs)) ∧ Nx w2 wr) (fun _ _ _ _ _ _ _ _ i _ => n - (intOf i).toNat)
  case atStart => exact ⟨0, Nat.zero_le _, rfl, by rw [List.take_zero]; exact World.ownsRow_nil _ _ _ _, Nx.refl _⟩
  case round =>
    obtain ⟨j, hj, rfl, hown, hnr⟩ := hrel
    by_cases hlt : j < n
    · have hjO : j < O.length := by have := HOL.out; omega
      obtain ⟨t, ht⟩ : ∃ t, t = O[j] := ⟨_, rfl⟩
      have hte : O[j] = t := ht.symm
      have htl : t ∈ l := HOM.out t (ht ▸ List.getElem_mem hjO)
      have hst := HSTP.out j hjO
      rw [hte] at hst
      obtain ⟨done, hdo⟩ : ∃ done, done = payAll zs P xs [] (O.take j) := ⟨_, rfl⟩
      have hdb := HPB.out (O.take j)
      have hby := HBY.out (O.take j)
      have hdl : done.length = j := by rw [hdo, payAll_len]; simp; omega
      have hdt : ∀ d ∈ done, d.t ∈ l := fun d hd => HOM.out d.t (by
        have h1 : d.t ∈ (payAll zs P xs [] (O.take j)).map Paid.t := List.mem_map.2 ⟨d, hdo ▸ hd, rfl⟩
        rw [payAll_t] at h1
        exact List.mem_of_mem_take (by simpa using h1))
      have HDT := hide hdt
      clear hdt
      rw [← hdo] at hst hown hdb hby
      obtain ⟨A1, c1, ev, hRD, _⟩ := Rd.of_own (encPd_len xs) rfl hown
      obtain rfl := ev
      obtain ⟨bt, off, rfl, _, hb, hbr, hc⟩ := HR2.out.open_ hnr (by omega)
      have e0 : wr.cell? ⟨bt, off + j * 6, none⟩ = some (.string t.ride) := hte ▸ hc j hjO 0 _ rfl
      have e1 : wr.cell? ⟨bt, off + j * 6 + 1, none⟩ = some (.string t.rider) := hte ▸ hc j hjO 1 _ rfl
      have e2 : wr.cell? ⟨bt, off + j * 6 + 2, none⟩ = some (.slice t.a t.nodes.length t.cap) := hte ▸ hc j hjO 2 _ rfl
      have e3 : wr.cell? ⟨bt, off + j * 6 + 3, none⟩ = some (.int .i64 t.metres) := hte ▸ hc j hjO 3 _ rfl
      have e4 : wr.cell? ⟨bt, off + j * 6 + 4, none⟩ = some (.int .i64 t.from_) := hte ▸ hc j hjO 4 _ rfl
      have e5 : wr.cell? ⟨bt, off + j * 6 + 5, none⟩ = some (.int .i64 t.to_) := hte ▸ hc j hjO 5 _ rfl
      have i1 : (0 : Int) ≤ (j : Int) := by omega
      have i2 : (j : Int) < (n : Int) := by omega
      have HOWN := hide hown
      have HNR := hide hnr
      have HSJ := hide hst
      have HDB := hide hdb
      have HBYD := hide hby
      have HRD := hide hRD
      clear hown hnr hst hdb hby hRD hc ht hte hdo
      obtain ⟨b12, hb12⟩ : ∃ b12, b12 = wr.heap.size := ⟨_, rfl⟩
      obtain ⟨wb, hwb⟩ : ∃ wb, wb = wr.alloc (.cells #[.string t.ride, .string t.rider, .slice t.a t.nodes.length t.cap, .int .i64 t.metres, .int .i64 t.from_, .int .i64 t.to_] 48 (0, 0)) := ⟨_, rfl⟩
      have HBB := hide (show wb.heap[b12]? = some (.cells #[.string t.ride, .string t.rider, .slice t.a t.nodes.length t.cap, .int .i64 t.metres, .int .i64 t.from_, .int .i64 t.to_] 48 (0, 0)) by rw [hwb, hb12]; exact heap_alloc_new wr _)
      have HNB := hide (show Nx wr wb from hwb ▸ (Nx.refl wr).alloc _)
      have HNB5 := hide ((HW2.out.trans HNR.out).trans HNB.out)
      have hbl := (Array.getElem?_eq_some_iff.1 HBB.out).1
      go_upto_region 7 with fail
      rw [← hwb, ← hb12]
      clear hwb hb12 e0 e1 e2 e3 e4 e5
      have q0 : wb.cell? ⟨b5, 0, none⟩ = some (.string k0) := nx_cell HNB5.out hb0l (cell_of_row w0 b5 0 _ _ _ HB0.out)
      have q1 : wb.cell? ⟨b5, 1, none⟩ = some (.int .i64 p1) := nx_cell HNB5.out hb0l (cell_of_row w0 b5 1 _ _ _ HB0.out)
      have q2 : wb.cell? ⟨b5, 2, none⟩ = some (.int .i64 p2) := nx_cell HNB5.out hb0l (cell_of_row w0 b5 2 _ _ _ HB0.out)
      have q3 : wb.cell? ⟨b5, 3, none⟩ = some (.int .i64 p3) := nx_cell HNB5.out hb0l (cell_of_row w0 b5 3 _ _ _ HB0.out)
      have q4 : wb.cell? ⟨b5, 4, none⟩ = some (.int .i64 p4) := nx_cell HNB5.out hb0l (cell_of_row w0 b5 4 _ _ _ HB0.out)
      have q5 : wb.cell? ⟨b5, 5, none⟩ = some (.int .i64 p5) := nx_cell HNB5.out hb0l (cell_of_row w0 b5 5 _ _ _ HB0.out)
      have q6 : wb.cell? ⟨b5, 6, none⟩ = some (.int .i64 p6) := nx_cell HNB5.out hb0l (cell_of_row w0 b5 6 _ _ _ HB0.out)
      have q7 : wb.cell? ⟨b5, 7, none⟩ = some (.int .i64 p7) := nx_cell HNB5.out hb0l (cell_of_row w0 b5 7 _ _ _ HB0.out)
      have q8 : wb.cell? ⟨b5, 8, none⟩ = some (.int .i64 p8) := nx_cell HNB5.out hb0l (cell_of_row w0 b5 8 _ _ _ HB0.out)
      have q9 : wb.cell? ⟨b5, 9, none⟩ = some (.int .i64 p9) := nx_cell HNB5.out hb0l (cell_of_row w0 b5 9 _ _ _ HB0.out)
      have d0 : wb.cell? ⟨b12, 0, none⟩ = some (.string t.ride) := cell_of_row wb b12 0 _ _ _ HBB.out
      have d1 : wb.cell? ⟨b12, 1, none⟩ = some (.string t.rider) := cell_of_row wb b12 1 _ _ _ HBB.out
      have d2 : wb.cell? ⟨b12, 2, none⟩ = some (.slice t.a t.nodes.length t.cap) := cell_of_row wb b12 2 _ _ _ HBB.out
      have d3 : wb.cell? ⟨b12, 3, none⟩ = some (.int .i64 t.metres) := cell_of_row wb b12 3 _ _ _ HBB.out
      have d4 : wb.cell? ⟨b12, 4, none⟩ = some (.int .i64 t.from_) := cell_of_row wb b12 4 _ _ _ HBB.out
      have d5 : wb.cell? ⟨b12, 5, none⟩ = some (.int .i64 t.to_) := cell_of_row wb b12 5 _ _ _ HBB.out
      have HF1 := hide (HFU2.out t htl wb (HN0.out.trans HNB5.out))
      obtain ⟨whole, hwh⟩ : ∃ whole, whole = fullI zs P t := ⟨_, rfl⟩
      have HWH := hide hwh
      have hwb := HFB.out t
      rw [← hwh] at HF1 hwb
      clear hwh
      go_upto_region 8 with (go_at_call 86; refine HF1.out.mono ?_; rintro e w7 ⟨rfl, hn7⟩)
      have HN7 := hide hn7
      have hb7 := Nat.lt_of_lt_of_le hbl hn7.sz
      have d0' := nx_cell hn7 hbl d0
      have d1' := nx_cell hn7 hbl d1
      have d2' := nx_cell hn7 hbl d2
      have d3' := nx_cell hn7 hbl d3
      have d4' := nx_cell hn7 hbl d4
      have d5' := nx_cell hn7 hbl d5
      clear q0 q1 q2 q3 q4 q5 q6 q7 q8 q9 d0 d1 d2 d3 d4 d5 hn7 HF1
      go_upto_region 10 with fail
      obtain ⟨b14, hb14⟩ : ∃ b14, b14 = w7.heap.size := ⟨_, rfl⟩
      obtain ⟨w8, hw8⟩ : ∃ w8, w8 = w7.alloc (.cells #[.string t.ride, .string t.rider, .slice t.a t.nodes.length t.cap, .int .i64 t.metres, .int .i64 t.from_, .int .i64 t.to_, .int .i64 whole, .string ⟨#[]⟩] 98 (0, 0)) := ⟨_, rfl⟩
      have HB14 := hide (show w8.heap[b14]? = some (.cells #[.string t.ride, .string t.rider, .slice t.a t.nodes.length t.cap, .int .i64 t.metres, .int .i64 t.from_, .int .i64 t.to_, .int .i64 whole, .string ByteArray.empty] 98 (0, 0)) by rw [hw8, hb14]; exact (heap_alloc_new w7 _).trans rfl)
      have HN8 := hide (show Nx w7 w8 from hw8 ▸ (Nx.refl w7).alloc _)
      rw [← hw8, ← hb14]
      have h14 : w7.heap.size ≤ b14 := by omega
      clear hw8 hb14 d0' d1' d2' d3' d4' d5'
      obtain ⟨B, hB⟩ : ∃ B : Nat → Int × Option Nat, B = fun q => bestX (fun x => countsZ x t (crossO zs t.nodes)) (fun k x => capN whole x (spentD done k (dayJ t))) 0 (xs.take q) (whole, none) := ⟨_, rfl⟩
      have hB0 : B 0 = (whole, none) := by rw [hB]; simp [bestX]
      have HBS := hide (fun (q : Nat) (hq : q < nx) => (show ∃ x, xs[q]? = some x ∧ B (q + 1) = (if countsZ x t (crossO zs t.nodes) then (if (B q).2 = none ∨ capN whole x (spentD done q (dayJ t)) < (B q).1 then (capN whole x (spentD done q (dayJ t)), some q) else B q) else B q) from by
        have hq' : q < xs.length := by have := HNX.out; omega
        exact ⟨xs[q], List.getElem?_eq_getElem hq', by rw [hB]; exact bestX_take _ _ xs _ q hq'⟩))
      have HBB2 := hide (fun (q : Nat) => (show 0 ≤ (B q).1 ∧ (B q).1 ≤ whole from by
        rw [hB]
        exact bestX_bd 0 (xs.take q) (whole, none) (fun j x hx => capN_bd (HXO.out x (List.mem_of_mem_take hx)) hwb.1) ⟨hwb.1, Int.le_refl _⟩))
      have HBYQ := hide (fun (q j : Nat) (h : (B q).2 = some j) => (show j < q by
        rw [hB] at h
        rcases bestX_by 0 (xs.take q) (whole, none) j h with h | h
        · cases h
        · have := h.2; simp at this; omega))
      have HSB := hide (fun (q : Nat) => spentD_bd HDB.out q (dayJ t))
      have HPO1 := hide (show payOne zs P xs done t = ⟨t, (B nx).1, (B nx).2⟩ from by rw [hB, HNX.out]; simp only [List.take_length]; rw [HWH.out]; rfl)
      clear hB
      go_loopw [16, 17, 18, 20, 40] (fun _ _ _ _ i wr => ∃ (q : Nat) (v1 : Int) (v2 : Option Nat), q ≤ nx ∧ i = .int .i64 q ∧ B q = (v1, v2) ∧ wr.heap[b14]? = some (.cells #[.string t.ride, .string t.rider, .slice t.a t.nodes.length t.cap, .int .i64 t.metres, .int .i64 t.from_, .int .i64 t.to_, .int .i64 v1, .string (nameP xs v2)] 98 (0, 0)) ∧ Gr b14 w8 wr) (fun _ _ _ _ i _ => nx - (intOf i).toNat)
      case atStart => exact ⟨0, whole, none, Nat.zero_le _, rfl, hB0, HB14.out, Gr.refl _ _⟩
      case round =>
        obtain ⟨q, v1, v2, hq, rfl, hBq, h14b, hgr⟩ := hrel
        by_cases hqlt : q < nx
        · obtain ⟨x, hxq, hstep⟩ := HBS.out q hqlt
          rw [hBq] at hstep
          dsimp only at hstep
          obtain ⟨hqx, hxe⟩ := List.getElem?_eq_some_iff.1 hxq
          have hx : x ∈ xs := List.mem_of_getElem? hxq
          have hn7r : Nx w7 wr := HN8.out.grown hgr (fun j hj => by injection hj with hj; omega)
          have hnwr : Nx w wr := ((HN0.out.trans HNB5.out).trans HN7.out).trans hn7r
          obtain ⟨bx, offx, rfl, _, hbx, hbxr, hcx⟩ := HXR.out.open_ hnwr (by omega)
          have c0 : wr.cell? ⟨bx, offx + q * 7, none⟩ = some (.string x.key) := hxe ▸ hcx q hqx 0 _ rfl
          have c1 : wr.cell? ⟨bx, offx + q * 7 + 1, none⟩ = some (.string x.rider) := hxe ▸ hcx q hqx 1 _ rfl
          have c2 : wr.cell? ⟨bx, offx + q * 7 + 2, none⟩ = some (.int .i64 x.from_) := hxe ▸ hcx q hqx 2 _ rfl
          have c3 : wr.cell? ⟨bx, offx + q * 7 + 3, none⟩ = some (.int .i64 x.to_) := hxe ▸ hcx q hqx 3 _ rfl
          have c4 : wr.cell? ⟨bx, offx + q * 7 + 4, none⟩ = some (.slice x.a x.zones.length x.sc) := hxe ▸ hcx q hqx 4 _ rfl
          have c5 : wr.cell? ⟨bx, offx + q * 7 + 5, none⟩ = some (.int .i64 x.pay) := hxe ▸ hcx q hqx 5 _ rfl
          have c6 : wr.cell? ⟨bx, offx + q * 7 + 6, none⟩ = some (.int .i64 x.most) := hxe ▸ hcx q hqx 6 _ rfl
          have HN7R := hide hn7r
          have HNWR := hide hnwr
          have HSTEP := hide hstep
          have H14 := hide h14b
          have HGR := hide hgr
          have i5 : (0 : Int) ≤ (q : Int) := by omega
          have i6 : (q : Int) < (nx : Int) := by omega
          clear hcx hgr h14b hstep hxq hn7r hnwr
          obtain ⟨b16, hb16⟩ : ∃ b16, b16 = wr.heap.size := ⟨_, rfl⟩
          obtain ⟨wx, hwx⟩ : ∃ wx, wx = wr.alloc (.cells #[.string x.key, .string x.rider, .int .i64 x.from_, .int .i64 x.to_, .slice x.a x.zones.length x.sc, .int .i64 x.pay, .int .i64 x.most] 46 (0, 0)) := ⟨_, rfl⟩
          have HX16 := hide (show wx.heap[b16]? = some (.cells #[.string x.key, .string x.rider, .int .i64 x.from_, .int .i64 x.to_, .slice x.a x.zones.length x.sc, .int .i64 x.pay, .int .i64 x.most] 46 (0, 0)) by rw [hwx, hb16]; exact heap_alloc_new wr _)
          have HNX2 := hide (show Nx wr wx from hwx ▸ (Nx.refl wr).alloc _)
          have hb16l := (Array.getElem?_eq_some_iff.1 HX16.out).1
          go_upto_region 12 with fail
          rw [← hwx, ← hb16]
          clear hwx hb16 c0 c1 c2 c3 c4 c5 c6
          have HN7X := hide ((HN7.out.trans HN7R.out).trans HNX2.out)
          have a0 : wx.cell? ⟨b16, 0, none⟩ = some (.string x.key) := cell_of_row wx b16 0 _ _ _ HX16.out
          have a1 : wx.cell? ⟨b16, 1, none⟩ = some (.string x.rider) := cell_of_row wx b16 1 _ _ _ HX16.out
          have a2 : wx.cell? ⟨b16, 2, none⟩ = some (.int .i64 x.from_) := cell_of_row wx b16 2 _ _ _ HX16.out
          have a3 : wx.cell? ⟨b16, 3, none⟩ = some (.int .i64 x.to_) := cell_of_row wx b16 3 _ _ _ HX16.out
          have a4 : wx.cell? ⟨b16, 4, none⟩ = some (.slice x.a x.zones.length x.sc) := cell_of_row wx b16 4 _ _ _ HX16.out
          have a5 : wx.cell? ⟨b16, 5, none⟩ = some (.int .i64 x.pay) := cell_of_row wx b16 5 _ _ _ HX16.out
          have a6 : wx.cell? ⟨b16, 6, none⟩ = some (.int .i64 x.most) := cell_of_row wx b16 6 _ _ _ HX16.out
          have d0 : wx.cell? ⟨b12, 0, none⟩ = some (.string t.ride) := nx_cell HN7X.out hbl (cell_of_row wb b12 0 _ _ _ HBB.out)
          have d1 : wx.cell? ⟨b12, 1, none⟩ = some (.string t.rider) := nx_cell HN7X.out hbl (cell_of_row wb b12 1 _ _ _ HBB.out)
          have d2 : wx.cell? ⟨b12, 2, none⟩ = some (.slice t.a t.nodes.length t.cap) := nx_cell HN7X.out hbl (cell_of_row wb b12 2 _ _ _ HBB.out)
          have d3 : wx.cell? ⟨b12, 3, none⟩ = some (.int .i64 t.metres) := nx_cell HN7X.out hbl (cell_of_row wb b12 3 _ _ _ HBB.out)
          have d4 : wx.cell? ⟨b12, 4, none⟩ = some (.int .i64 t.from_) := nx_cell HN7X.out hbl (cell_of_row wb b12 4 _ _ _ HBB.out)
          have d5 : wx.cell? ⟨b12, 5, none⟩ = some (.int .i64 t.to_) := nx_cell HN7X.out hbl (cell_of_row wb b12 5 _ _ _ HBB.out)
          have HCC := hide (HCN.out x hx t htl wx (HNWR.out.trans HNX2.out))
          have hxk := HXO.out x hx
          have HXK := hide hxk
          cases hct : countsZ x t (crossO zs t.nodes)
          · have HS2 := hide (show B (q + 1) = (v1, v2) by rw [HSTEP.out, hct]; rfl)
            go_wp2_with (go_at_call 16; refine HCC.out.mono ?_; rw [hct]; rintro e w10 ⟨rfl, hn10⟩)
            go_roundw
            case rel => exact ⟨q + 1, v1, v2, by omega, by go_num, HS2.out, ((HNX2.out.trans hn10).block _ (Array.getElem?_eq_some_iff.1 H14.out).1).trans H14.out, HGR.out.then_nx (HNX2.out.trans hn10)⟩
            case measure => simp [intOf]; omega
          · obtain ⟨sp, hsp⟩ : ∃ sp, sp = spentD done q (dayJ t) := ⟨_, rfl⟩
            rw [hct, ← hsp] at HSTEP
            have HS2 := hide (show B (q + 1) = (if v2 = none ∨ capN whole x sp < v1 then (capN whole x sp, some q) else (v1, v2)) from by rw [HSTEP.out]; rfl)
            have hb0 : 0 ≤ whole * x.pay := Int.mul_nonneg hwb.1 hxk.pay.1
            have hb1 : whole * x.pay ≤ whole * 100 := Int.mul_le_mul_of_nonneg_left hxk.pay.2 hwb.1
            have hbe := begI_bd (n := whole * x.pay) (part := 100) (B := whole) (by decide) hb0 hb1
            have hmost := hxk.most
            have HSP := hide hsp
            have HBG := hide (fun (W : World) => w_begun (whole * x.pay) 100 W (by omega) (by omega))
            clear hxk HSTEP hsp
            have hsb := HSB.out q
            rw [← HSP.out] at hsb
            obtain ⟨N, hN⟩ : ∃ N, N = capN whole x sp := ⟨_, rfl⟩
            rw [← hN] at HS2
            go_upto_if 56 with (first
              | (go_at_call 16; refine HCC.out.mono ?_; rw [hct]; rintro e w10 ⟨rfl, hn10⟩; (have a5' := nx_cell hn10 hb16l a5); (have a6' := nx_cell hn10 hb16l a6); (have HN10 := hide hn10))
              | (go_at_call 87; refine (HBG.out _).mono ?_; rintro e w11 ⟨rfl, rfl⟩))
            have HA0 := hide (nx_cell HN10.out hb16l a0)
            have hb12x : b12 < wx.heap.size := Nat.lt_of_lt_of_le hbl HN7X.out.sz
            have HD := hide (show w10.cell? ⟨b12, 0, none⟩ = some (.string t.ride) ∧ w10.cell? ⟨b12, 1, none⟩ = some (.string t.rider) ∧ w10.cell? ⟨b12, 2, none⟩ = some (.slice t.a t.nodes.length t.cap) ∧ w10.cell? ⟨b12, 3, none⟩ = some (.int .i64 t.metres) ∧ w10.cell? ⟨b12, 4, none⟩ = some (.int .i64 t.from_) ∧ w10.cell? ⟨b12, 5, none⟩ = some (.int .i64 t.to_) from ⟨nx_cell HN10.out hb12x d0, nx_cell HN10.out hb12x d1, nx_cell HN10.out hb12x d2, nx_cell HN10.out hb12x d3, nx_cell HN10.out hb12x d4, nx_cell HN10.out hb12x d5⟩)
            have hb12y : b12 < w10.heap.size := Nat.lt_of_lt_of_le hb12x HN10.out.sz
            have hb16y : b16 < w10.heap.size := Nat.lt_of_lt_of_le hb16l HN10.out.sz
            have H14X := hide ((((HNX2.out.trans HN10.out).block _ (Array.getElem?_eq_some_iff.1 H14.out).1)).trans H14.out)
            obtain ⟨gv, hgv⟩ : ∃ gv, gv = begI (whole * x.pay) 100 := ⟨_, rfl⟩
            try rw [← hgv]
            rw [← hgv] at hbe
            clear hb0 hb1 a0 a1 a2 a3 a4 a5 a5' a6 d0 d1 d2 d3 d4 d5
            go_cut [17] (fun v wx => v = .int .i64 N ∧ Nx w10 wx)
            case first =>
              by_cases hm : 0 < x.most
              · have hcap := capN_pos (whole := whole) (spent := sp) hm
                have hNv : min gv (max 0 (IntKind.i64.wrap (x.most - sp))) = N := by rw [hN, hcap, IntWalk.i64_in (x.most - sp) (by omega), hgv]
                have hNv' : min gv (max 0 (x.most - sp)) = N := by rw [hN, hcap, hgv]
                have HNV := hide hNv
                have HNV' := hide hNv'
                have HRD3 := hide (fun W (h : Nx w10 W) => ((HNB.out.trans HN7X.out).trans HN10.out).trans h)
                have d4 := HD.out.2.2.2.2.1
                have a0' := HA0.out
                have hqx' : q < xs.length := hqx
                clear hcap hNv hNv' hgv hN
                go_upto_region 17 with fail
                go_loopw [18, 20, 59] (fun u _ i wy => ∃ m : Nat, m ≤ done.length ∧ i = .int .i64 m ∧ u = .int .i64 (spentD (done.take m) q (dayJ t)) ∧ Nx w10 wy) (fun _ _ i _ => done.length - (intOf i).toNat)
                case atStart => exact ⟨0, Nat.zero_le _, rfl, by simp [spentD], Nx.refl _⟩
                case round =>
                  obtain ⟨m, hm3, rfl, rfl, hn3⟩ := hrel
                  by_cases hlt3 : m < done.length
                  · obtain ⟨d, hd⟩ : ∃ d, d = done[m] := ⟨_, rfl⟩
                    have hde : done[m] = d := hd.symm
                    have hdm : d ∈ done := hd ▸ List.getElem_mem hlt3
                    have hdb := HDB.out d hdm
                    have hdj := HJO.out d.t (HDT.out d hdm)
                    have hdjf := hdj.time
                    have HST3 := hide (spent_take done q (dayJ t) m hlt3)
                    rw [hde] at HST3
                    obtain ⟨bo, offo, rfl, _, hbo, hbor, hco⟩ := HRD.out.open_ (HRD3.out _ hn3) (by omega)
                    have o0 : wr.cell? ⟨bo, offo + m * 8, none⟩ = some (.string d.t.ride) := hde ▸ hco m hlt3 0 _ rfl
                    have o1 : wr.cell? ⟨bo, offo + m * 8 + 1, none⟩ = some (.string d.t.rider) := hde ▸ hco m hlt3 1 _ rfl
                    have o2 : wr.cell? ⟨bo, offo + m * 8 + 2, none⟩ = some (.slice d.t.a d.t.nodes.length d.t.cap) := hde ▸ hco m hlt3 2 _ rfl
                    have o3 : wr.cell? ⟨bo, offo + m * 8 + 3, none⟩ = some (.int .i64 d.t.metres) := hde ▸ hco m hlt3 3 _ rfl
                    have o4 : wr.cell? ⟨bo, offo + m * 8 + 4, none⟩ = some (.int .i64 d.t.from_) := hde ▸ hco m hlt3 4 _ rfl
                    have o5 : wr.cell? ⟨bo, offo + m * 8 + 5, none⟩ = some (.int .i64 d.t.to_) := hde ▸ hco m hlt3 5 _ rfl
                    have o6 : wr.cell? ⟨bo, offo + m * 8 + 6, none⟩ = some (.int .i64 d.cents) := hde ▸ hco m hlt3 6 _ rfl
                    have o7 : wr.cell? ⟨bo, offo + m * 8 + 7, none⟩ = some (.string (nameP xs d.by_)) := hde ▸ hco m hlt3 7 _ rfl
                    have HNE := hide (name_eq HXS.out HXE.out (fun k hk => by have := HBYD.out d hdm k hk; have := HNX.out; omega) hqx')
                    rw [hxe] at HNE
                    have j5 : (0 : Int) ≤ (m : Int) := by omega
                    have j6 : (m : Int) < (done.length : Int) := by omega
                    have hsb3 := spentD_bd (done := done.take m) (fun d hd => HDB.out d (List.mem_of_mem_take hd)) q (dayJ t)
                    have hml : (done.take m).length = m := by rw [List.length_take]; omega
                    rw [hml] at hsb3
                    obtain ⟨sp3, hsp3⟩ : ∃ sp3, sp3 = spentD (done.take m) q (dayJ t) := ⟨_, rfl⟩
                    rw [← hsp3] at HST3 hsb3
                    rw [← hsp3]
                    obtain ⟨nm3, hnm3⟩ : ∃ nm3, nm3 = nameP xs d.by_ := ⟨_, rfl⟩
                    rw [← hnm3] at HNE o7
                    have HN3 := hide hn3
                    have HDM := hide hdm
                    have hfj := (HJO.out t htl).time
                    clear hco hde hd hsp3 hnm3 hn3 hdm hdj hml
                    obtain ⟨b20, hb20⟩ : ∃ b20, b20 = wr.heap.size := ⟨_, rfl⟩
                    obtain ⟨wv, hwv⟩ : ∃ wv, wv = wr.alloc (.cells #[.string d.t.ride, .string d.t.rider, .slice d.t.a d.t.nodes.length d.t.cap, .int .i64 d.t.metres, .int .i64 d.t.from_, .int .i64 d.t.to_, .int .i64 d.cents, .string nm3] 98 (0, 0)) := ⟨_, rfl⟩
                    have HX20 := hide (show wv.heap[b20]? = some (.cells #[.string d.t.ride, .string d.t.rider, .slice d.t.a d.t.nodes.length d.t.cap, .int .i64 d.t.metres, .int .i64 d.t.from_, .int .i64 d.t.to_, .int .i64 d.cents, .string nm3] 98 (0, 0)) by rw [hwv, hb20]; exact heap_alloc_new wr _)
                    have HNV3 := hide (show Nx wr wv from hwv ▸ (Nx.refl wr).alloc _)
                    go_upto_region 19 with fail
                    rw [← hwv, ← hb20]
                    clear hwv hb20 o0 o1 o2 o3 o4 o5 o6 o7
                    have HNT := hide (HN3.out.trans HNV3.out)
                    have x4 : wv.cell? ⟨b20, 4, none⟩ = some (.int .i64 d.t.from_) := cell_of_row wv b20 4 _ _ _ HX20.out
                    have x6 : wv.cell? ⟨b20, 6, none⟩ = some (.int .i64 d.cents) := cell_of_row wv b20 6 _ _ _ HX20.out
                    have x7 : wv.cell? ⟨b20, 7, none⟩ = some (.string nm3) := cell_of_row wv b20 7 _ _ _ HX20.out
                    have y0 : wv.cell? ⟨b16, 0, none⟩ = some (.string x.key) := nx_cell HNT.out hb16y a0'
                    have y4 : wv.cell? ⟨b12, 4, none⟩ = some (.int .i64 t.from_) := nx_cell HNT.out hb12y d4
                    have hx20l := (Array.getElem?_eq_some_iff.1 HX20.out).1
                    by_cases hby3 : d.by_ = some q
                    · have t1 : (nm3.toList == x.key.toList) = true := by rw [eqS_iff]; exact decide_eq_true (HNE.out.2 hby3)
                      by_cases hdy : d.t.from_ / 86400000 = t.from_ / 86400000
                      · have t2 : (d.t.from_ / 86400000 == t.from_ / 86400000) = true := by simpa using hdy
                        have HS4 := hide (show spentD (done.take (m + 1)) q (dayJ t) = sp3 + d.cents by rw [HST3.out, if_pos ⟨hby3, hdy⟩])
                        have W1 : IntKind.i64.wrap (sp3 + d.cents) = sp3 + d.cents := IntWalk.i64_in _ (by omega)
                        clear HST3 HNE hby3 hdy
                        go_wp2_with fail
                        go_roundw
                        case rel => exact ⟨m + 1, by omega, by go_num, by rw [HS4.out], HNT.out⟩
                        case measure => simp [intOf]; omega
                      · have t2 : (d.t.from_ / 86400000 == t.from_ / 86400000) = false := by simpa using hdy
                        have HS4 := hide (show spentD (done.take (m + 1)) q (dayJ t) = sp3 by rw [HST3.out, if_neg (fun h => hdy h.2), Int.add_zero])
                        clear HST3 HNE hby3 hdy
                        go_wp2_with fail
                        go_roundw
                        case rel => exact ⟨m + 1, by omega, by go_num, by rw [HS4.out], HNT.out⟩
                        case measure => simp [intOf]; omega
                    · have t1 : (nm3.toList == x.key.toList) = false := by rw [eqS_iff]; exact decide_eq_false (fun h => hby3 (HNE.out.1 h))
                      have HS4 := hide (show spentD (done.take (m + 1)) q (dayJ t) = sp3 by rw [HST3.out, if_neg (fun h => hby3 h.1), Int.add_zero])
                      clear HST3 HNE hby3
                      go_wp2_with fail
                      go_roundw
                      case rel => exact ⟨m + 1, by omega, by go_num, by rw [HS4.out], HNT.out⟩
                      case measure => simp [intOf]; omega
                  · have em : m = done.length := by omega
                    subst em
                    rw [List.take_length, ← HSP.out]
                    have a6'' := nx_cell hn3 hb16y a6'
                    have HN3 := hide hn3
                    clear hn3
                    go_wp2_with fail
                    go_meet
                    exact ⟨by first | rw [HNV.out] | rw [HNV'.out], HN3.out⟩
              · have hNv : N = gv := by rw [hN, capN_no hm, hgv]
                have HNV := hide hNv
                clear hgv hN hNv
                go_wp2_with fail
                go_meet
                exact ⟨by rw [HNV.out], Nx.refl _⟩
            case rest =>
              obtain ⟨rfl, hnc⟩ := hcut
              have HNC := hide hnc
              have H14C := hide ((hnc.block _ (Array.getElem?_eq_some_iff.1 H14X.out).1).trans H14X.out)
              have HDC := hide (show wc.cell? ⟨b12, 0, none⟩ = some (.string t.ride) ∧ wc.cell? ⟨b12, 1, none⟩ = some (.string t.rider) ∧ wc.cell? ⟨b12, 2, none⟩ = some (.slice t.a t.nodes.length t.cap) ∧ wc.cell? ⟨b12, 3, none⟩ = some (.int .i64 t.metres) ∧ wc.cell? ⟨b12, 4, none⟩ = some (.int .i64 t.from_) ∧ wc.cell? ⟨b12, 5, none⟩ = some (.int .i64 t.to_) from ⟨nx_cell hnc hb12y HD.out.1, nx_cell hnc hb12y HD.out.2.1, nx_cell hnc hb12y HD.out.2.2.1, nx_cell hnc hb12y HD.out.2.2.2.1, nx_cell hnc hb12y HD.out.2.2.2.2.1, nx_cell hnc hb12y HD.out.2.2.2.2.2⟩)
              have HKC := hide (nx_cell hnc hb16y HA0.out)
              have HGC := hide (HGR.out.then_nx ((HNX2.out.trans HN10.out).trans hnc))
              have hj0 : ∀ j0, v2 = some j0 → j0 < nx := fun j0 h => Nat.lt_trans (HBYQ.out q j0 (by rw [hBq]; exact h)) hqlt
              have HJ0 := hide hj0
              obtain ⟨nm, hnm⟩ : ∃ nm, nm = nameP xs v2 := ⟨_, rfl⟩
              rw [← hnm] at H14C
              have HKX := hide (show nameP xs (some q) = x.key by unfold nameP; simp [List.getD, hqx, hxe])
              have HNM := hide hnm
              clear hnm hnc hj0 H14X HD HA0 H14 a6' hxe hqx hBq hN hgv hsb hbe hmost HCC HBG
              have f0 : wc.cell? ⟨b14, 0, none⟩ = some (.string t.ride) := cell_of_row wc b14 0 _ _ _ H14C.out
              have f1 : wc.cell? ⟨b14, 1, none⟩ = some (.string t.rider) := cell_of_row wc b14 1 _ _ _ H14C.out
              have f2 : wc.cell? ⟨b14, 2, none⟩ = some (.slice t.a t.nodes.length t.cap) := cell_of_row wc b14 2 _ _ _ H14C.out
              have f3 : wc.cell? ⟨b14, 3, none⟩ = some (.int .i64 t.metres) := cell_of_row wc b14 3 _ _ _ H14C.out
              have f4 : wc.cell? ⟨b14, 4, none⟩ = some (.int .i64 t.from_) := cell_of_row wc b14 4 _ _ _ H14C.out
              have f5 : wc.cell? ⟨b14, 5, none⟩ = some (.int .i64 t.to_) := cell_of_row wc b14 5 _ _ _ H14C.out
              have f6 : wc.cell? ⟨b14, 6, none⟩ = some (.int .i64 v1) := cell_of_row wc b14 6 _ _ _ H14C.out
              have f7 : wc.cell? ⟨b14, 7, none⟩ = some (.string nm) := cell_of_row wc b14 7 _ _ _ H14C.out
              cases v2 with
              | none =>
                have t1 : nm.toList = [] := by rw [HNM.out, Lib.toList_data]; rfl
                have HS3 := hide (show B (q + 1) = (N, some q) by rw [HS2.out, if_pos (Or.inl rfl)])
                go_upto_region 24 with fail
                have HDX := HDC.out
                obtain ⟨g0, g1, g2, g3, g4, g5⟩ := HDX
                have k0' := HKC.out
                have fz : ∀ i, wc.frozen? ⟨b14, i, none⟩ = false := fun i => by have h := H14C.out; simp [World.frozen?, h]
                clear HS2
                go_wp2_with fail
                go_roundw
                case rel => exact ⟨q + 1, N, some q, by omega, by go_num, HS3.out, by rw [HKX.out]; exact put8 _ _ _ _ _ _ _ _ H14C.out, HGC.out.trans (gr8 _ _ _ _ _ _ _ _)⟩
                case measure => simp [intOf]; omega
              | some j0 =>
                have t1 : ¬ nm.toList = [] := by
                  have h1 : j0 < xs.length := by have := HNX.out; have := HJ0.out j0 rfl; omega
                  have h2 := HXE.out _ (List.getElem_mem h1)
                  have h3 : nm = xs[j0].key := by rw [HNM.out]; unfold nameP; simp [List.getD, h1]
                  rw [h3]
                  intro hc
                  rw [hc] at h2
                  cases h2
                have t1b : (nm.toList == []) = false := by simpa using t1
                by_cases hlv : N < v1
                · have q1 : decide (N < v1) = true := decide_eq_true hlv
                  have HS3 := hide (show B (q + 1) = (N, some q) by rw [HS2.out, if_pos (Or.inr hlv)])
                  go_upto_region 24 with fail
                  have HDX := HDC.out
                  obtain ⟨g0, g1, g2, g3, g4, g5⟩ := HDX
                  have k0' := HKC.out
                  have fz : ∀ i, wc.frozen? ⟨b14, i, none⟩ = false := fun i => by have h := H14C.out; simp [World.frozen?, h]
                  clear HS2
                  go_wp2_with fail
                  go_roundw
                  case rel => exact ⟨q + 1, N, some q, by omega, by go_num, HS3.out, by rw [HKX.out]; exact put8 _ _ _ _ _ _ _ _ H14C.out, HGC.out.trans (gr8 _ _ _ _ _ _ _ _)⟩
                  case measure => simp [intOf]; omega
                · have q1 : decide (N < v1) = false := decide_eq_false hlv
                  have HS3 := hide (show B (q + 1) = (v1, some j0) by rw [HS2.out, if_neg (by rintro (h | h); cases h; exact hlv h)])
                  go_wp2_with fail
                  go_roundw
                  case rel => exact ⟨q + 1, v1, some j0, by omega, by go_num, HS3.out, by have h := H14C.out; rw [HNM.out] at h; exact h, HGC.out⟩
                  case measure => simp [intOf]; omega
        · have eq' : q = nx := by omega
          subst eq'
          have HP1 := hide HPO1.out
          rw [hBq] at HP1
          have HOW2 := hide (show wr.ownsRow w2.heap.size 98 8 (.slice A1 j c1) done.length (done.flatMap (encPd xs)) from by
            have e9 : Value.slice A1 done.length c1 = Value.slice A1 j c1 := by rw [hdl]
            rw [← e9]
            exact own_nx HOWN.out (HNB.out.trans (HN7.out.trans (HN8.out.grown hgr (fun j hj => by injection hj with hj; omega)))))
          have HN1r := hide (HNR.out.trans (HNB.out.trans (HN7.out.trans (HN8.out.grown hgr (fun j hj => by injection hj with hj; omega)))))
          have hbw2 := HN1r.out.sz
          have H14 := hide h14b
          clear hgr h14b hBq
          have f0 : wr.cell? ⟨b14, 0, none⟩ = some (.string t.ride) := cell_of_row wr b14 0 _ _ _ H14.out
          have f1 : wr.cell? ⟨b14, 1, none⟩ = some (.string t.rider) := cell_of_row wr b14 1 _ _ _ H14.out
          have f2 : wr.cell? ⟨b14, 2, none⟩ = some (.slice t.a t.nodes.length t.cap) := cell_of_row wr b14 2 _ _ _ H14.out
          have f3 : wr.cell? ⟨b14, 3, none⟩ = some (.int .i64 t.metres) := cell_of_row wr b14 3 _ _ _ H14.out
          have f4 : wr.cell? ⟨b14, 4, none⟩ = some (.int .i64 t.from_) := cell_of_row wr b14 4 _ _ _ H14.out
          have f5 : wr.cell? ⟨b14, 5, none⟩ = some (.int .i64 t.to_) := cell_of_row wr b14 5 _ _ _ H14.out
          have f6 : wr.cell? ⟨b14, 6, none⟩ = some (.int .i64 v1) := cell_of_row wr b14 6 _ _ _ H14.out
          have f7 : wr.cell? ⟨b14, 7, none⟩ = some (.string (nameP xs v2)) := cell_of_row wr b14 7 _ _ _ H14.out
          have hdl' : done.length < 1000 := by omega
          go_wp2_with (at_builtin; go_loud (refine wpApp rfl _ _ _ rfl el_Paid (encPd xs) (encPd_len xs) (encPd_one xs) (by omega) (by omega) w2.heap.size _ done rfl (HOW2.out.alloc _) _ ⟨t, v1, v2⟩ _ rfl (hnew rfl) rfl (by omega) (by simp; omega) ?_); intro v5 w5 hown5 hg5)
          have hnx5 := (HN1r.out.alloc (.cells #[.string t.ride, .string t.rider, .slice t.a t.nodes.length t.cap, .int .i64 t.metres, .int .i64 t.from_, .int .i64 t.to_, .int .i64 v1, .string (nameP xs v2)] 98)).grown hg5 (fun j hj => by exact own_blk_lt HOW2.out j hj)
          go_roundw
          case rel => exact ⟨j + 1, by omega, by go_num, by rw [HSJ.out, HP1.out]; exact hown5, hnx5⟩
          case measure => simp [intOf]; omega
    · have ej : j = n := by omega
      subst ej
      have hOl : O.length = j := HOL.out
      rw [← hOl, List.take_length] at hown
      have hll2 : (payAll zs P xs [] O).length = j := by rw [payAll_len]; simp; omega
      obtain ⟨A1, c1, ev, hRD, _⟩ := Rd.of_own (encPd_len xs) rfl hown
      obtain rfl := ev
      rw [hll2]
      rw [HPE.out] at hRD
      have HRD := hide hRD
      have HNE := hide (show Nx w wr from (HN0.out.trans HW2.out).trans hnr)
      clear hown hnr hRD hll2
      go_wp2_with fail
      go_ret
      exact ⟨O, A1, c1, HO.out, rfl, HRD.out.low (by have := HN0.out.sz; have := HW2.out.sz; omega), HNE.out⟩
end Go.Proofs.YtemaiikgnogfhaaGreatDoor
