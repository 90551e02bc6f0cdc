/- The stream's passes. -/
import Derived.Test.YtncnmadiiaidfaaGreatDoorQG46
import Derived.Test.YtncnmadiiaidfaaGreatDoorQStPO
import Derived.Test.YtncnmadiiaidfaaGreatDoorQG14
import Derived.Deep.DeepCutAuto
import Derived.Deep.AppendLies
namespace Go.Proofs.YtncnmadiiaidfaaGreatDoor
open Go.RowKit Go.Sort Go.Proofs Go.Shelf

theorem BoxX.rd {g m c base : Nat} {w : World} {us : List Pass} (h : BoxX g m c base w us) : RdPasses w base (some ⟨g, 0, none⟩) us :=
  ⟨rd_ownv encX_len h.len.symm h.row, fun x hx => by
    have hx' := h.each x hx
    exact ⟨rd_ownv encS_len rfl hx'.row, hx'.small, by have := hx'.few; omega, by have := hx'.ok.key; omega, by have := hx'.ok.rider; omega⟩⟩
theorem small_two {a b : ByteArray} (ha : a.size ≤ 1000) (hb : b.size ≤ 1000) : Small [a, b] := by
  intro x hx
  simp at hx
  rcases hx with rfl | rfl <;> omega
set_option maxRecDepth 100000 in
set_option maxHeartbeats 2000000 in
theorem w_Passes (s k : Nat) (w : World) (hS : Str w s k) (hk : k < 700000) (hT : ∀ w', Gr s w w' → PowTab w') :
    Calls Tryz.prog 6 #[.pointer (some ⟨s, 0, none⟩)] w (StrPasses s (k + 100) w) := by
  have hsl := hS.lt
  have HT := hide hT
  clear hT
  go_enter Tryz.func6, Tryz.ntmps6
  go_wp2_with fail
  refine (w_Next 4 s _ _ hS (by omega) (by omega)).mono ?_
  rintro e w0 ⟨many, hm1, hm2, rfl, hg0, hS0⟩
  obtain ⟨many, rfl⟩ := Int.eq_ofNat_of_zero_le hm1
  have hm3 : many ≤ 3 := by omega
  have hown0 : OwnPas w0 w.heap.size (.slice none 0 0) [] := ⟨⟨rfl, .inl ⟨rfl, rfl⟩⟩, fun x hx => by cases hx⟩
  have HST := hide (And.intro hown0 (And.intro hg0 hS0))
  clear hown0 hS hg0 hS0 hm1 hm2
  go_upto_region 3 with fail
  go_loopw [3, 4, 5, 9] (fun v _ _ i wr => ∃ (k' : Nat) (ps : List Pass), k' ≤ many ∧ i = .int .i64 k' ∧ ps.length = k' ∧ OwnPas wr w.heap.size v ps ∧ Gr s w wr ∧ Str wr s (k + 1 + 10 * k')) (fun _ _ _ i _ => many - (intOf i).toNat)
  case atStart => exact ⟨0, [], by omega, rfl, by simp, HST.out.1, HST.out.2.1, HST.out.2.2⟩
  case round =>
    clear HST
    obtain ⟨k', ps, hkn, rfl, hcl, hown, hgr, hSr⟩ := hrel
    have hsz := hgr.sz
    by_cases hlt : k' < many
    · have HOW := hide hown
      have HCL := hide hcl
      have HP := hide (HT.out wr hgr)
      clear hown hcl
      go_wp2_with fail
      refine (w_ItoaN k' (by omega) (by omega) _ HP.out).mono ?_
      rintro e w1 ⟨rfl, hn1⟩
      have hit := itoa_small k' (by omega)
      obtain ⟨ky, hrd⟩ : ∃ ky, ky = (⟨#[112]⟩ : ByteArray) ++ itoaS k' := ⟨_, rfl⟩
      have hrd2 : ky.size ≤ 1000 := by rw [hrd, ByteArray.size_append]; have : (⟨#[112]⟩ : ByteArray).size = 1 := rfl; omega
      have HRD := hide hrd
      have HS1 := hide (hSr.nx hn1)
      have HG1 := hide (hgr.then_nx hn1)
      have HO1 := hide (HOW.out.nx hn1)
      clear hSr hgr hn1 HOW hrd
      go_wp2_with fail
      refine (w_Some _ [⟨#[97, 110, 110]⟩, ⟨#[97, 110, 110]⟩, ⟨#[98, 111, 98]⟩] _ s _ _ (HS1.out.nx ((Nx.refl _).alloc _)) (by omega) (hnew rfl) (by have := HS1.out.lt; omega) rfl (by simp) (by simp)).mono ?_
      rintro e w2 ⟨ri, hri, rfl, hg2, hS2⟩
      have hri2 : ri.size ≤ 1000 := by { simp only [List.mem_cons, List.not_mem_nil, or_false] at hri; rcases hri with rfl | rfl | rfl <;> decide }
      have HG2 := hide ((HG1.out.alloc _).trans hg2)
      have HO2 := hide ((HO1.out.nx ((Nx.refl _).alloc _)).gr hg2 hsl)
      have HS2 := hide hS2
      clear hri hg2 hS2 HS1 HG1 HO1 hit
      go_wp2_with fail
      refine (w_PickI _ [0, 0, 86400000] _ s _ _ (HS2.out.nx ((Nx.refl _).alloc _)) (by omega) (hnew rfl) (by have := HS2.out.lt; omega) rfl (by simp) (by simp)).mono ?_
      rintro e w3 ⟨f2, hz3, rfl, hg3, hS3⟩
      have HG3 := hide ((HG2.out.alloc _).trans hg3)
      have HO3 := hide ((HO2.out.nx ((Nx.refl _).alloc _)).gr hg3 hsl)
      have HS3 := hide hS3
      clear hz3 hg3 hS3 HS2 HG2 HO2
      go_wp2_with fail
      refine (w_PickI _ [86400000, 172800000, 345686400000] _ s _ _ (HS3.out.nx ((Nx.refl _).alloc _)) (by omega) (hnew rfl) (by have := HS3.out.lt; omega) rfl (by simp) (by simp)).mono ?_
      rintro e w4 ⟨f3, hz4, rfl, hg4, hS4⟩
      have HG4 := hide ((HG3.out.alloc _).trans hg4)
      have HO4 := hide ((HO3.out.nx ((Nx.refl _).alloc _)).gr hg4 hsl)
      have HS4 := hide hS4
      clear hz4 hg4 hS4 HS3 HG3 HO3
      go_wp2_with fail
      refine (w_PickI _ [0, 25, 50, 99, 100] _ s _ _ (HS4.out.nx ((Nx.refl _).alloc _)) (by omega) (hnew rfl) (by have := HS4.out.lt; omega) rfl (by simp) (by simp)).mono ?_
      rintro e w5 ⟨pay, hz5, rfl, hg5, hS5⟩
      have HG5 := hide ((HG4.out.alloc _).trans hg5)
      have HO5 := hide ((HO4.out.nx ((Nx.refl _).alloc _)).gr hg5 hsl)
      have HS5 := hide hS5
      clear hz5 hg5 hS5 HS4 HG4 HO4
      go_wp2_with fail
      refine (w_PickI _ [0, 0, 100, 400, 900] _ s _ _ (HS5.out.nx ((Nx.refl _).alloc _)) (by omega) (hnew rfl) (by have := HS5.out.lt; omega) rfl (by simp) (by simp)).mono ?_
      rintro e w6 ⟨mo, hz6, rfl, hg6, hS6⟩
      have HG6 := hide ((HG5.out.alloc _).trans hg6)
      have HO6 := hide ((HO5.out.nx ((Nx.refl _).alloc _)).gr hg6 hsl)
      have HS6 := hide hS6
      clear hz6 hg6 hS6 HS5 HG5 HO5
      obtain ⟨bx, hbx⟩ : ∃ bx, bx = w6.heap.size := ⟨_, rfl⟩
      obtain ⟨wa, hwa⟩ : ∃ wa, wa = w6.alloc (.cells #[.string ky, .string ri, .int .i64 f2, .int .i64 f3, .slice none 0 0, .int .i64 pay, .int .i64 mo] 55 (0, 0)) := ⟨_, rfl⟩
      have hba : wa.heap[bx]? = some (.cells #[.string ky, .string ri, .int .i64 f2, .int .i64 f3, .slice none 0 0, .int .i64 pay, .int .i64 mo] 55 (0, 0)) := by rw [hwa, hbx]; exact heap_alloc_new w6 _
      have hbw : w.heap.size ≤ bx := by have := HG6.out.sz; omega
      have hsb : s < bx := by omega
      have hbs : bx ≠ s := by omega
      have HBW := hide (show w6.heap.size = bx from hbx.symm)
      have HSA := hide (show Str wa s (k + 1 + 10 * k' + 1 + 1 + 1 + 1 + 1) from hwa ▸ HS6.out.nx ((Nx.refl w6).alloc _))
      have HGA := hide (show Gr s w6 wa from hwa ▸ (Gr.refl s w6).alloc _)
      have HBA := hide hba
      have hwz : wa.heap.size = bx + 1 := by rw [hwa, hbx]; simp
      have HWZ := hide hwz
      clear hba hwz
      go_upto_region 6 with fail
      rw [← HRD.out]
      rw [← hwa, ← hbx]
      clear hwa hbx HRD
      go_cut [] (fun wx => ∃ (A4 : Option Addr) (sc4 : Nat) (zl : List ByteArray), Small zl ∧ zl.length ≤ 4 ∧ wx.ownsRow (bx + 1) 9 1 (.slice A4 zl.length sc4) zl.length (zl.flatMap encS) ∧ wx.heap[bx]? = some (.cells #[.string ky, .string ri, .int .i64 f2, .int .i64 f3, .slice A4 zl.length sc4, .int .i64 pay, .int .i64 mo] 55 (0, 0)) ∧ Gr s w6 wx ∧ Str wx s (k + 1 + 10 * k' + 8))
      case first =>
        go_wp2_with fail
        obtain ⟨W4, hW4⟩ : ∃ W4, W4 = (((wa.alloc (.cells #[.string ⟨#[122, 97]⟩] 9 (0, 0))).alloc (.cells #[.string ⟨#[122, 97]⟩, .string ⟨#[122, 98]⟩] 9 (0, 0))).alloc (.cells #[.string ⟨#[122, 98]⟩, .string ⟨#[122, 99]⟩] 9 (0, 0))).alloc (.cells #[.slice none 0 0, .slice none 0 0, .slice (some ⟨wa.heap.size, 0, none⟩) 1 1, .slice (some ⟨wa.heap.size + 1, 0, none⟩) 2 2, .slice (some ⟨wa.heap.size + 1 + 1, 0, none⟩) 2 2] 48 (0, 0)) := ⟨_, rfl⟩
        have F1 : W4.heap[wa.heap.size]? = some (.cells #[.string ⟨#[122, 97]⟩] 9 (0, 0)) := by rw [hW4]; exact (((((Nx.refl _).alloc _).alloc _).alloc _).block _ (by simp)).trans (heap_alloc_new wa _)
        have F2 : W4.heap[wa.heap.size + 1]? = some (.cells #[.string ⟨#[122, 97]⟩, .string ⟨#[122, 98]⟩] 9 (0, 0)) := by rw [hW4]; exact ((((Nx.refl _).alloc _).alloc _).block _ (by simp)).trans (hnew (by simp))
        have F3 : W4.heap[wa.heap.size + 1 + 1]? = some (.cells #[.string ⟨#[122, 98]⟩, .string ⟨#[122, 99]⟩] 9 (0, 0)) := by rw [hW4]; exact (((Nx.refl _).alloc _).block _ (by simp)).trans (hnew (by simp))
        have F4 : W4.heap[wa.heap.size + 1 + 1 + 1]? = some (.cells #[.slice none 0 0, .slice none 0 0, .slice (some ⟨wa.heap.size, 0, none⟩) 1 1, .slice (some ⟨wa.heap.size + 1, 0, none⟩) 2 2, .slice (some ⟨wa.heap.size + 1 + 1, 0, none⟩) 2 2] 48 (0, 0)) := by rw [hW4]; exact hnew (by simp)
        have hN4 : Nx wa W4 := hW4 ▸ ((((Nx.refl wa).alloc _).alloc _).alloc _).alloc _
        have hz4 := HSA.out.nx hN4
        rw [← hW4]
        clear hW4
        rw [HWZ.out] at F1 F2 F3 F4 ⊢
        have hb4 := (hN4.block bx (Array.getElem?_eq_some_iff.1 HBA.out).1).trans HBA.out
        have hg4 := HGA.out.then_nx hN4
        refine (w_Next 5 s _ _ hz4 (by omega) (by omega)).mono ?_
        rintro e w7 ⟨q, hq1, hq2, rfl, hg7, hS7⟩
        have kp : ∀ (g : Nat) (o : Obj), W4.heap[g]? = some o → g ≠ s → w7.heap[g]? = some o := fun g o h hne => (hg7.block g (Array.getElem?_eq_some_iff.1 h).1 (by intro e; injection e with e; exact hne e)).trans h
        have G1 := hide (kp _ _ F1 (by omega))
        have G2 := hide (kp _ _ F2 (by omega))
        have G3 := hide (kp _ _ F3 (by omega))
        have G4 := kp _ _ F4 (by omega)
        have hb7 := kp _ _ hb4 hbs
        have HB7' := hide hb7
        have HG7 := hide (hg4.trans hg7)
        have HS7 := hide hS7
        clear kp F1 F2 F3 F4 hN4 hz4 hb4 hg4 hg7 hS7 HSA HGA HBA HWZ
        obtain ⟨L4, hL4⟩ : ∃ L4, L4 = bx + 1 + 1 + 1 + 1 := ⟨_, rfl⟩
        rw [← hL4] at G4 ⊢
        have hL4s := (Array.getElem?_eq_some_iff.1 G4).1
        have hbl7 := (Array.getElem?_eq_some_iff.1 hb7).1
        have e4 : w7.cell? ⟨bx, 4, none⟩ = some (.slice none 0 0) := cell_of_row w7 bx 4 _ _ _ hb7
        have f4 : ∀ i, w7.frozen? ⟨bx, i, none⟩ = false := fun i => by simp [World.frozen?, hb7]
        have hbL : ¬ L4 = bx := by omega
        clear hb7 hL4
        have q0 : w7.cell? ⟨L4, 0, none⟩ = some (.slice none 0 0) := cell_of_row w7 L4 0 _ _ _ G4
        have q1 : w7.cell? ⟨L4, 1, none⟩ = some (.slice none 0 0) := cell_of_row w7 L4 1 _ _ _ G4
        have q2 : w7.cell? ⟨L4, 2, none⟩ = some (.slice (some ⟨bx + 1, 0, none⟩) 1 1) := cell_of_row w7 L4 2 _ _ _ G4
        have q3 : w7.cell? ⟨L4, 3, none⟩ = some (.slice (some ⟨bx + 1 + 1, 0, none⟩) 2 2) := cell_of_row w7 L4 3 _ _ _ G4
        have q4 : w7.cell? ⟨L4, 4, none⟩ = some (.slice (some ⟨bx + 1 + 1 + 1, 0, none⟩) 2 2) := cell_of_row w7 L4 4 _ _ _ G4
        clear G4
        have hq5 : q = 0 ∨ q = 1 ∨ q = 2 ∨ q = 3 ∨ q = 4 := by omega
        have hfin : ∀ (A4 : Option Addr) (sc4 : Nat) (zl : List ByteArray), Small zl → zl.length ≤ 4 → w7.ownsRow (bx + 1) 9 1 (.slice A4 zl.length sc4) zl.length (zl.flatMap encS) → (Small zl ∧ zl.length ≤ 4 ∧ (w7.setCell ⟨bx, 4, none⟩ (.slice A4 zl.length sc4)).ownsRow (bx + 1) 9 1 (.slice A4 zl.length sc4) zl.length (zl.flatMap encS) ∧ (w7.setCell ⟨bx, 4, none⟩ (.slice A4 zl.length sc4)).heap[bx]? = some (.cells #[.string ky, .string ri, .int .i64 f2, .int .i64 f3, .slice A4 zl.length sc4, .int .i64 pay, .int .i64 mo] 55 (0, 0)) ∧ Gr s w6 (w7.setCell ⟨bx, 4, none⟩ (.slice A4 zl.length sc4)) ∧ Str (w7.setCell ⟨bx, 4, none⟩ (.slice A4 zl.length sc4)) s (k + 1 + 10 * k' + 8)) := fun A4 sc4 zl h1 h2 h3 =>
          ⟨h1, h2, h3.kept ((Gr.refl bx w7).setS (p := ⟨bx, 4, none⟩) (.inl rfl) _) (by
            cases ho : (Value.slice A4 zl.length sc4).ownBlock with
            | none => exact .inl rfl
            | some y => exact .inr (fun e => by injection e with e; have := own_blk_lt h3 y ho; omega)), heap_set HB7'.out, HG7.out.setgP (by have := HBW.out; omega), (HS7.out.setgP hsb).more (by omega)⟩
        have HFIN := hide hfin
        clear hfin
        rcases hq5 with rfl | rfl | rfl | rfl | rfl
        · go_wp2_with fail
          go_meet
          exact ⟨none, 0, [], HFIN.out none 0 [] (fun x hx => by cases hx) (by simp) (World.ownsRow_nil _ _ _ _)⟩
        · go_wp2_with fail
          go_meet
          exact ⟨none, 0, [], HFIN.out none 0 [] (fun x hx => by cases hx) (by simp) (World.ownsRow_nil _ _ _ _)⟩
        · have ho := hide (own_lit (w := w7) (enc := encS) (K := 1) (e := 9) (g := bx + 1) (n := 1) (m := 1) (base := bx + 1) (xs := [⟨#[122, 97]⟩]) encS_len G1.out (Nat.le_refl _) rfl rfl (by omega) (by unfold maxLen; omega))
          go_wp2_with fail
          go_meet
          exact ⟨some ⟨bx + 1, 0, none⟩, 1, [⟨#[122, 97]⟩], HFIN.out _ _ _ (by intro x hx; simp at hx; subst hx; decide) (by simp) ho.out⟩
        · have ho := hide (own_lit (w := w7) (enc := encS) (K := 1) (e := 9) (g := bx + 1 + 1) (n := 2) (m := 2) (base := bx + 1) (xs := [⟨#[122, 97]⟩, ⟨#[122, 98]⟩]) encS_len G2.out (by omega) rfl rfl (by omega) (by unfold maxLen; omega))
          go_wp2_with fail
          go_meet
          exact ⟨some ⟨bx + 1 + 1, 0, none⟩, 2, [⟨#[122, 97]⟩, ⟨#[122, 98]⟩], HFIN.out _ _ _ (small_two (by decide) (by decide)) (by simp) ho.out⟩
        · have ho := hide (own_lit (w := w7) (enc := encS) (K := 1) (e := 9) (g := bx + 1 + 1 + 1) (n := 2) (m := 2) (base := bx + 1) (xs := [⟨#[122, 98]⟩, ⟨#[122, 99]⟩]) encS_len G3.out (by omega) rfl rfl (by omega) (by unfold maxLen; omega))
          go_wp2_with fail
          go_meet
          exact ⟨some ⟨bx + 1 + 1 + 1, 0, none⟩, 2, [⟨#[122, 98]⟩, ⟨#[122, 99]⟩], HFIN.out _ _ _ (small_two (by decide) (by decide)) (by simp) ho.out⟩
      case rest =>
      obtain ⟨A4, sc4, zl, hzs, hz4, hro, hB6, hg6, hS6⟩ := hcut
      obtain ⟨w7, hw7⟩ : ∃ w7, w7 = wc := ⟨_, rfl⟩
      rw [← hw7] at hro hB6 hg6 hS6 ⊢
      have HR := hide hro
      have HZS := hide hzs
      have HWO := hide (HO6.out.gr hg6 hsl)
      have HGR := hide (HG6.out.trans hg6)
      have HS7 := hide hS6
      have HB7 := hide hB6
      have hbl7 := (Array.getElem?_eq_some_iff.1 hB6).1
      have d0 : w7.cell? ⟨bx, 0, none⟩ = some (.string ky) := cell_of_row w7 bx 0 _ _ _ hB6
      have d1 : w7.cell? ⟨bx, 1, none⟩ = some (.string ri) := cell_of_row w7 bx 1 _ _ _ hB6
      have d2 : w7.cell? ⟨bx, 2, none⟩ = some (.int .i64 f2) := cell_of_row w7 bx 2 _ _ _ hB6
      have d3 : w7.cell? ⟨bx, 3, none⟩ = some (.int .i64 f3) := cell_of_row w7 bx 3 _ _ _ hB6
      have d4 : w7.cell? ⟨bx, 4, none⟩ = some (.slice A4 zl.length sc4) := cell_of_row w7 bx 4 _ _ _ hB6
      have d5 : w7.cell? ⟨bx, 5, none⟩ = some (.int .i64 pay) := cell_of_row w7 bx 5 _ _ _ hB6
      have d6 : w7.cell? ⟨bx, 6, none⟩ = some (.int .i64 mo) := cell_of_row w7 bx 6 _ _ _ hB6
      have hsz7 := hg6.sz
      have hbwo := HBW.out
      clear hw7 hro hB6 hg6 hS6 hzs HSA HGA HBA
      go_upto_region 7 with fail
      go_wp2_with (at_builtin; refine wpApp rfl _ _ _ rfl el_PassS encX encX_len encX_one (by omega) (by omega) w.heap.size _ ps rfl (HWO.out.1.alloc _) _ ⟨ky, ri, f2, f3, A4, sc4, zl, pay, mo⟩ _ rfl (hnew (by simp)) rfl (by have := HCL.out; omega) (by simp; omega) ?_; intro v5 w8 hown5 hg5)
      have hO5 : OwnPas w8 w.heap.size v5 (ps ++ [⟨ky, ri, f2, f3, A4, sc4, zl, pay, mo⟩]) := ⟨hown5, fun x hx => by
        rcases List.mem_append.1 hx with hx | hx
        · have h1 := HWO.out.2 x hx
          exact ⟨(h1.row.alloc _).kept hg5 (own_apart h1.row HWO.out.1 (by decide)), h1.small, h1.few, h1.ok⟩
        · simp at hx; subst hx
          exact ⟨((HR.out.mono (by omega)).alloc _).kept hg5 (own_apart HR.out HWO.out.1 (by decide)), HZS.out, hz4, ⟨hrd2, hri2⟩⟩⟩
      have hgr5 := (HGR.out.alloc (.cells #[.string ky, .string ri, .int .i64 f2, .int .i64 f3, .slice A4 zl.length sc4, .int .i64 pay, .int .i64 mo] 55 (0, 0))).grown hg5 (fun j hj => .inr (own_blk_lt HWO.out.1 j hj))
      have hS5 := (HS7.out.nx ((Nx.refl _).alloc (.cells #[.string ky, .string ri, .int .i64 f2, .int .i64 f3, .slice A4 zl.length sc4, .int .i64 pay, .int .i64 mo] 55 (0, 0)))).row hg5 (fun j hj => by have := own_blk_lt HWO.out.1 j hj; omega)
      go_roundw
      case rel => exact ⟨k' + 1, _, by omega, by go_num, by rw [List.length_append, HCL.out]; rfl, hO5, hgr5, hS5.more (by omega)⟩
      case measure => simp [intOf]; omega
    · have ek : k' = many := by omega
      subst ek
      clear hlt hkn
      obtain ⟨A0, c0', ev0⟩ := own_form (n := ps.length) rfl hown.1
      subst ev0
      have HOW := hide hown
      clear hown HT
      by_cases hl0 : ps.length = 0
      · have t3 : decide (0 < ps.length) = false := decide_eq_false (by omega)
        have t1 : decide ((ps.length : Int) > 0) = false := by rw [hl0]; rfl
        have t2 : ¬ (0 : Int) < (ps.length : Int) := by omega
        have HL0 := hide hcl
        clear hl0 hcl
        go_wp2_with fail
        go_ret
        exact ⟨A0, c0', ps, rfl, by have := HL0.out; omega, own_cap HOW.out.1, HOW.out.rd, hgr, hSr.more (by omega)⟩
      · have t1 : decide ((ps.length : Int) > 0) = true := by simp; omega
        have t2 : (0 : Int) < (ps.length : Int) := by omega
        have t3 : decide (0 < ps.length) = true := decide_eq_true (by omega)
        have t4 : ¬ ps = [] := by intro e; rw [e] at hl0; exact hl0 rfl
        have hlp : 0 < ps.length := by omega
        have HL0 := hide hcl
        have hl8 : ps.length ≤ 3 := by omega
        clear hl0 hcl
        go_wp2_with fail
        refine (w_Flip _ _ _ _ hSr (by omega) (by omega)).mono ?_
        rintro e w2 ⟨fl, rfl, hg2, hS2⟩
        have HW2 := hide (HOW.out.gr hg2 hsl)
        have hgr2 := hgr.trans hg2
        have hsz2 := hgr2.sz
        clear HOW hgr hSr hg2
        cases fl
        · go_wp2_with fail
          go_ret
          exact ⟨A0, c0', ps, rfl, by have := HL0.out; omega, own_cap HW2.out.1, HW2.out.rd, hgr2, hS2.more (by omega)⟩
        · rcases HW2.out.1.2 with ⟨he, h0⟩ | ⟨g, cap, cur, he, hgg, _⟩
          · omega
          injection he with he1 _ he3
          subst he1
          subst he3
          go_wp2_with fail
          refine (w_Next _ _ _ _ hS2 (by omega) (by omega)).mono ?_
          rintro e w3 ⟨q, hq1, hq2, rfl, hg3, hS3⟩
          obtain ⟨q, rfl⟩ := Int.eq_ofNat_of_zero_le hq1
          have hql : q < ps.length := by omega
          have HW3 := hide (HW2.out.gr hg3 hsl)
          have HG3 := hide (hgr2.trans hg3)
          have hsz3 := HG3.out.sz
          have hsg : s < g := by omega
          have HS3 := hide hS3
          clear HW2 hgr2 hS2 hg3 hS3
          obtain ⟨m, hmm⟩ : ∃ m, m = ps.length := ⟨_, rfl⟩
          have HMM := hide hmm
          have HBX := hide (show BoxX g m c0' w.heap.size w3 ps from ⟨hmm.symm, by rw [hmm]; exact HW3.out.1, HW3.out.2⟩)
          rw [← hmm] at hql hlp t1 t2 t3 hl8 ⊢
          clear hmm HW3
          have hqu : q < ps.length := by rw [HBX.out.len]; exact hql
          have hkk := (HBX.out.each _ (List.getElem_mem hqu)).ok.key
          have d0 : w3.cell? ⟨g, q * 7, none⟩ = some (.string ps[q].key) := by have := own_cell encX_len HBX.out.len HBX.out.row q hqu 0 _ rfl; simpa using this
          have hglt := (HBX.out.row.lt g rfl).2
          obtain ⟨xk, hxk⟩ : ∃ xk, xk = ps[q].key := ⟨_, rfl⟩
          rw [← hxk] at d0 hkk
          clear hxk
          go_upto_region 11 with fail
          go_wp2_with (first
            | ((have h9 := HY2); clear h9; go_at_call 21; refine (w_Some _ [⟨#[122, 97]⟩, ⟨#[122, 99]⟩] _ s _ _ (HY2.out.2.2.2.nx ((Nx.refl _).alloc _)) (by omega) (hnew rfl) (by have := HY2.out.2.2.2.lt; omega) rfl (by simp) (by simp)).mono ?_; rintro e w7 ⟨y3, hy3, rfl, hg7, hS7⟩; (have HY3 := hide (show y3.size ≤ 1000 ∧ Gr s w3 w7 ∧ BoxX g m c0' w.heap.size w7 ps ∧ Str w7 s (k + 1 + 10 * k' + 2 + 5) from ⟨by { simp only [List.mem_cons, List.not_mem_nil, or_false] at hy3; rcases hy3 with rfl | rfl <;> decide }, (HY2.out.2.1.alloc _).trans hg7, (HY2.out.2.2.1.gr ((Gr.refl s _).alloc _) hsl).gr hg7 hsl, hS7⟩)); (have hqu7 : q < ps.length := hqu); (have e0 : w7.cell? ⟨g, q * 7, none⟩ = some (.string ps[q].key) := by { have := own_cell encX_len HY3.out.2.2.1.len HY3.out.2.2.1.row q hqu 0 _ rfl; simpa using this }); (have e4 : w7.cell? ⟨g, q * 7 + 4, none⟩ = some (.slice ps[q].a ps[q].zones.length ps[q].sc) := own_cell encX_len HY3.out.2.2.1.len HY3.out.2.2.1.row q hqu 4 _ rfl); (have e5 : w7.cell? ⟨g, q * 7 + 5, none⟩ = some (.int .i64 ps[q].pay) := own_cell encX_len HY3.out.2.2.1.len HY3.out.2.2.1.row q hqu 5 _ rfl); (have hg7l : g < w7.heap.size := (HY3.out.2.2.1.row.lt g rfl).2); (have f7 : ∀ i, w7.frozen? ⟨g, i, none⟩ = false := fun i => HY3.out.2.2.1.row.frozenAt i); clear hy3 hg7 hS7)
            | ((have h9 := HZ1); clear h9; go_at_call 21; refine (w_Some _ [⟨#[122, 98]⟩, ⟨#[122, 113]⟩] _ s _ _ (HZ1.out.2.2.nx ((Nx.refl _).alloc _)) (by omega) (hnew rfl) (by have := HZ1.out.2.2.lt; omega) rfl (by simp) (by simp)).mono ?_; rintro e w6 ⟨y2, hy2, rfl, hg6, hS6⟩; (have HY2 := hide (show y2.size ≤ 1000 ∧ Gr s w3 w6 ∧ BoxX g m c0' w.heap.size w6 ps ∧ Str w6 s (k + 1 + 10 * k' + 2 + 4) from ⟨by { simp only [List.mem_cons, List.not_mem_nil, or_false] at hy2; rcases hy2 with rfl | rfl <;> decide }, (HZ1.out.1.alloc _).trans hg6, (HZ1.out.2.1.gr ((Gr.refl s _).alloc _) hsl).gr hg6 hsl, hS6⟩)); clear hy2 hg6 hS6)
            | (go_at_call 23; refine (w_Odd 0 100 s _ _ HY1.out.2.2.2 (by omega) (by omega) (by omega)).mono ?_; rintro e w5 ⟨z, hz1, hz2, rfl, hg5, hS5⟩; (have HZ1 := hide (show Gr s w3 w5 ∧ BoxX g m c0' w.heap.size w5 ps ∧ Str w5 s (k + 1 + 10 * k' + 2 + 3) from ⟨HY1.out.2.1.trans hg5, HY1.out.2.2.1.gr hg5 hsl, hS5⟩)); clear hg5 hS5)
            | (go_at_call 21; refine (w_Some _ [xk, ⟨#[]⟩, ⟨#[112, 48]⟩] _ s _ _ (HS3.out.nx ((Nx.refl _).alloc _)) (by omega) (hnew rfl) (by have := HS3.out.lt; omega) rfl (by simp) (by simp)).mono ?_; rintro e w4 ⟨y1, hy1, rfl, hg4, hS4⟩; (have HY1 := hide (show y1.size ≤ 1000 ∧ Gr s w3 w4 ∧ BoxX g m c0' w.heap.size w4 ps ∧ Str w4 s (k + 1 + 10 * k' + 2 + 1) from ⟨by { simp only [List.mem_cons, List.not_mem_nil, or_false] at hy1; rcases hy1 with h | h | h <;> rw [h] <;> first | exact hkk | decide }, ((Gr.refl s w3).alloc _).trans hg4, (HBX.out.gr ((Gr.refl s _).alloc _) hsl).gr hg4 hsl, hS4⟩)); clear hy1 hg4 hS4))
          have hB0 := HY3.out.2.2.1.gr ((Gr.refl s w7).alloc (.cells #[.string y2, .string y3] 9 (0, 0))) hsl
          have hx0 := hB0.each _ (List.getElem_mem hqu)
          have hB1 := hB0.put hqu (.string y1) { ps[q] with key := y1 } (j := 0) (by omega) rfl ⟨hx0.row, hx0.small, hx0.few, HY1.out.1, hx0.ok.rider⟩
          obtain ⟨u1, hu1⟩ : ∃ u1, u1 = ps.set q { ps[q] with key := y1 } := ⟨_, rfl⟩
          rw [← hu1] at hB1
          have hq1' : q < u1.length := by rw [hB1.len]; exact hql
          have hx1 := hB1.each _ (List.getElem_mem hq1')
          have hB2 := hB1.put hq1' (.int .i64 z) { u1[q] with pay := z } (j := 5) (by omega) rfl ⟨hx1.row, hx1.small, hx1.few, hx1.ok.key, hx1.ok.rider⟩
          obtain ⟨u2, hu2⟩ : ∃ u2, u2 = u1.set q { u1[q] with pay := z } := ⟨_, rfl⟩
          rw [← hu2] at hB2
          have hq2' : q < u2.length := by rw [hB2.len]; exact hql
          have hx2 := hB2.each _ (List.getElem_mem hq2')
          have hr0 := own_lit (w := w7.alloc (.cells #[.string y2, .string y3] 9 (0, 0))) (enc := encS) (K := 1) (e := 9) (g := w7.heap.size) (n := 2) (m := 2) (base := w.heap.size) (xs := [y2, y3]) encS_len (hnew rfl) (by have := HG3.out.trans HY3.out.2.1; have := this.sz; omega) rfl rfl (by omega) (by unfold maxLen; omega)
          have hr1 := hr0.kept ((Gr.refl g _).setS (p := ⟨g, q * 7 + 0, none⟩) (.inl rfl) (.string y1)) (own_apart hr0 hB0.row (by decide))
          have hr2 := hr1.kept ((Gr.refl g _).setS (p := ⟨g, q * 7 + 5, none⟩) (.inl rfl) (.int .i64 z)) (own_apart hr1 hB1.row (by decide))
          have hB3 := hB2.put hq2' (.slice (some ⟨w7.heap.size, 0, none⟩) 2 2) { u2[q] with a := some ⟨w7.heap.size, 0, none⟩, sc := 2, zones := [y2, y3] } (j := 4) (by omega) rfl ⟨hr2, small_two HY2.out.1 HY3.out.1, by simp, hx2.ok.key, hx2.ok.rider⟩
          have hWE : ((((w7.alloc (.cells #[.string y2, .string y3] 9 (0, 0))).setCell ⟨g, q * 7 + 0, none⟩ (.string y1)).setCell ⟨g, q * 7 + 5, none⟩ (.int .i64 z)).setCell ⟨g, q * 7 + 4, none⟩ (.slice (some ⟨w7.heap.size, 0, none⟩) 2 2)) = ((((w7.setCell ⟨g, q * 7, none⟩ (.string y1)).setCell ⟨g, q * 7 + 5, none⟩ (.int .i64 z)).setCell ⟨g, q * 7 + 4, none⟩ (.slice (some ⟨w7.heap.size, 0, none⟩) 2 2)).alloc (.cells #[.string y2, .string y3] 9 (0, 0))) := by go_simp
          rw [hWE] at hB3
          have HB3 := hide hB3
          have HGE := hide (((((HG3.out.trans HY3.out.2.1).setgP (i := q * 7) (u := .string y1) hgg).setgP (i := q * 7 + 5) (u := .int .i64 z) hgg).setgP (i := q * 7 + 4) (u := .slice (some ⟨w7.heap.size, 0, none⟩) 2 2) hgg).alloc (.cells #[.string y2, .string y3] 9 (0, 0)))
          have HSE := hide ((((HY3.out.2.2.2.setgP (i := q * 7) (u := .string y1) hsg).setgP (i := q * 7 + 5) (u := .int .i64 z) hsg).setgP (i := q * 7 + 4) (u := .slice (some ⟨w7.heap.size, 0, none⟩) 2 2) hsg).nx ((Nx.refl _).alloc (.cells #[.string y2, .string y3] 9 (0, 0))))
          clear hB0 hB1 hB2 hB3 hr0 hr1 hr2 hWE hx0 hx1 hx2 hu1 hu2
          go_ret
          exact ⟨some ⟨g, 0, none⟩, c0', _, by rw [HB3.out.len]; rfl, by rw [HB3.out.len]; exact hl8, by rw [HB3.out.len]; have := own_cap HBX.out.row; exact this, HB3.out.rd, HGE.out, HSE.out.more (by omega)⟩
end Go.Proofs.YtncnmadiiaidfaaGreatDoor
