/- jitlaw1.CostsDivided returns true. -/
import Derived.Test.YtjhmgkoghapocaaDoorLawB
import Derived.Test.YtjhmgkoghapocaaDoorByP
import Derived.Test.YtjhmgkoghapocaaDoorLegsS
import Derived.Test.YtjhmgkoghapocaaDoorStrP
import Derived.Test.YtjhmgkoghapocaaDoorPartR
import Derived.Test.YtjhmgkoghapocaaDoorPriced
import Derived.Test.YtjhmgkoghapocaaDoorEqF
import Derived.Deep.DeepCutAuto
namespace Go.Proofs.YtjhmgkoghapocaaDoor
open Go.RowKit Go.Sort Go.Shelf

set_option maxRecDepth 100000 in
set_option maxHeartbeats 8000000 in
theorem w_lawCD (A : Option Addr) (n c : Nat) (w : World) (hn : n ≤ 9223372036854775807)
    (hL : 0 < n → ∃ b off, A = some ⟨b, off, none⟩ ∧ b < w.heap.size ∧ ∀ j, j < n → ∃ z : Int, w.cell? ⟨b, off + j, none⟩ = some (.int .i64 z) ∧ -9223372036854775808 ≤ z ∧ z ≤ 9223372036854775807) :
    Calls Tryd.prog 5 #[.slice A n c] w (TrueNx w) := by
  have hS0 : Str (w.alloc (.cells #[.slice A n c, .int .i64 0] 25)) w.heap.size 0 := str_new A n c w hn hL
  clear hL
  go_enter Tryd.func5, Tryd.ntmps5
  go_wp2_with fail
  refine (w_PickI _ [0, 1, 10, 101, 1000000000, -1] _ _ _ _ (hS0.nx ((Nx.refl _).alloc _)) (by omega) (hnew (by simp)) (by simp) rfl (by simp) (by simp)).mono ?_
  rintro e w1 ⟨cents, hcents, rfl, hg1, hS1⟩
  have hg01 : Gr w.heap.size w w1 := (Gr.of_nx (((Nx.refl w).alloc _).alloc _)).trans hg1
  have hs1 := hS1.lt
  clear hS0 hg1
  go_wp2_with fail
  refine (w_Parts _ _ _ hS1 (by omega)).mono ?_
  rintro e w2 ⟨B, c2, ps, rfl, hpl, hP, hg2, hS2⟩
  have hg02 := hg01.trans hg2
  have hs2 := hg2.sz
  clear hg01 hg2 hS1
  go_wp2_with fail
  refine (w_Legs _ _ _ hS2 (by omega)).mono ?_
  rintro e w3 ⟨D, c3, ls, rfl, hll, hRL, hg3, hS3⟩
  have hs3 := hg3.sz
  have hn3 : Nx w w3 := Nx.of_gr (hg02.trans hg3) (Nat.le_refl _)
  have HP := hide (hP.gr hg3 hs1)
  have HRL := hide hRL
  clear hP hRL hg3 hg02 hS3 hcents hS2
  have t1 : (partsF cents ps != partsF cents ps) = false := by simp
  have t2 : (legsF ls != legsF ls) = false := by simp
  have t2b : (legsF ls == legsF ls) = true := by simp
  have HPL := hide (show ps.length < 20 by omega)
  have HLL := hide (show ls.length ≤ 100 by omega)
  go_upto_region 5 with (first
    | (go_at_call 36; refine (w_Divide _ _ _ _ _ _ HP.out HPL.out).mono ?_; rintro e w4 ⟨A4, c4, zs, rfl, hz, hnz, hR4, hn4⟩; (have HZ := hide hz); (have HNZ := hide hnz); (have HR4 := hide hR4); clear hz hnz hR4)
    | (go_at_call 37; refine (w_PartsFault _ _ _ _ _ _ (HP.out.nx hn4) HPL.out).mono ?_; rintro e w5 ⟨rfl, rfl⟩))
  by_cases h0 : partsF cents ps = 0
  · have hD := HZ.out h0
    have hzl : zs.length ≤ 65536 := by have := hD.len; unfold numsD at this; rw [List.length_map] at this; have := HPL.out; omega
    have HF : ∀ w', Nx w4 w' → Calls Tryd.prog 39 #[.int .i64 cents, .slice B ps.length c2] w' fun e w'' => ∃ (A' : Option Addr) (c' : Nat), e = .returned (.slice A' zs.length c') ∧ Rd w'' w'.heap.size A' 1 encI zs ∧ Nx w' w'' := by
      intro w' hnx
      refine (w_DivideOf _ _ _ _ _ _ ((HP.out.nx hn4).nx hnx) HPL.out h0).mono ?_
      rintro e w'' ⟨A', c', zs', he, hf, hr, hx⟩
      rw [Handed.unique hf hD] at he hr
      exact ⟨A', c', he, hr, hx⟩
    have HG := hide HF
    have t3 : (partsF cents ps != 0) = false := by rw [h0]; rfl
    have HZL := hide hzl
    clear HF hD hzl HZ HNZ h0
    go_upto_region 10 with (first
      | (go_at_call 39; refine (HG.out _ (Nx.refl _)).mono ?_; rintro e w6 ⟨A6, c6, rfl, hR6, hn6⟩)
      | (go_at_call 38; refine (w_EqualI _ _ _ _ _ _ zs _ (HR4.out.nx hn6) hR6 HZL.out).mono ?_; rintro e w7 ⟨rfl, hn7⟩))
    have hcut := (hn4.trans hn6).trans hn7
    clear HG HR4 hR6 hn6 hn7
    have HNW := hide (hn3.trans hcut)
    have HRC := hide (HRL.out.nx hcut)
    clear hn4 HP HRL hcut t1
    go_upto_region 14 with (first
      | (go_at_call 40; refine (w_LegsFault _ _ _ ls _ HRC.out HLL.out).mono ?_; rintro e w7 ⟨rfl, hn7⟩)
      | (go_at_call 41; refine (w_CheckLegs _ _ _ ls _ (HRC.out.nx hn7) HLL.out).mono ?_; rintro e w8 ⟨rfl, hn8⟩)
      | (go_at_call 42; refine (w_ByLegs _ _ _ ls _ ((HRC.out.nx hn7).nx hn8) HLL.out).mono ?_; rintro e w9 ⟨A9, c9, ys, rfl, hy, hny, hR9, hyl, hn9⟩; (have HY := hide hy); (have HNY := hide hny); (have HR9 := hide hR9); clear hy hny hR9))
    have HN9 := hide (((HNW.out.trans hn7).trans hn8).trans hn9)
    have HRD := hide (((HRC.out.nx hn7).nx hn8).nx hn9)
    by_cases h0 : legsF ls = 0
    · have hD := HY.out h0
      have HF : Calls Tryd.prog 43 #[.slice D ls.length c3] w9 fun e w'' => ∃ (A' : Option Addr) (c' : Nat), e = .returned (.slice A' ys.length c') ∧ Rd w'' w9.heap.size A' 2 encDue ys ∧ Nx w9 w'' := by
        refine (w_ByLegsOf _ _ _ ls _ HRD.out HLL.out h0).mono ?_
        rintro e w'' ⟨A', c', ys', he, hf, hr, _, hx⟩
        rw [hf.unique hD] at he hr
        exact ⟨A', c', he, hr, hx⟩
      have HG := hide HF
      have HYL := hide hyl
      have t3 : (legsF ls != 0) = false := by rw [h0]; rfl
      have t4 : (legsF ls == 0) = true := by rw [h0]; rfl
      clear HF hD hyl HY HNY h0 hn7 hn8 hn9
      go_wp2_with (first
        | (go_at_call 43; refine HG.out.mono ?_; rintro e w10 ⟨A10, c10, rfl, hR10, hn10⟩)
        | (go_at_call 9; refine (w_EqualD _ _ _ _ _ _ ys _ (HR9.out.nx hn10) hR10 HYL.out).mono ?_; rintro e w11 ⟨rfl, hn11⟩)
        | (go_at_call 22; refine (w_priced _).mono ?_; rintro e w12 ⟨rfl, hn12⟩))
      go_ret
      exact ⟨rfl, ((HN9.out.trans hn10).trans hn11).trans hn12⟩
    · have t3 : (legsF ls != 0) = true := by simpa using h0
      obtain rfl := HNY.out h0
      clear hyl
      clear h0 HY HNY hn7 hn8 hn9
      go_wp2_with (first
        | (go_at_call 22; refine (w_priced _).mono ?_; rintro e w12 ⟨rfl, hn12⟩))
      go_ret
      exact ⟨rfl, HN9.out.trans hn12⟩
  · have t3 : (partsF cents ps != 0) = true := by simpa using h0
    obtain rfl := HNZ.out h0
    clear h0 HZ HNZ
    go_upto_region 10 with fail
    have hcut := hn4
    clear HR4
    have HNW := hide (hn3.trans hcut)
    have HRC := hide (HRL.out.nx hcut)
    clear hn4 HP HRL hcut t1
    go_upto_region 14 with (first
      | (go_at_call 40; refine (w_LegsFault _ _ _ ls _ HRC.out HLL.out).mono ?_; rintro e w7 ⟨rfl, hn7⟩)
      | (go_at_call 41; refine (w_CheckLegs _ _ _ ls _ (HRC.out.nx hn7) HLL.out).mono ?_; rintro e w8 ⟨rfl, hn8⟩)
      | (go_at_call 42; refine (w_ByLegs _ _ _ ls _ ((HRC.out.nx hn7).nx hn8) HLL.out).mono ?_; rintro e w9 ⟨A9, c9, ys, rfl, hy, hny, hR9, hyl, hn9⟩; (have HY := hide hy); (have HNY := hide hny); (have HR9 := hide hR9); clear hy hny hR9))
    have HN9 := hide (((HNW.out.trans hn7).trans hn8).trans hn9)
    have HRD := hide (((HRC.out.nx hn7).nx hn8).nx hn9)
    by_cases h0 : legsF ls = 0
    · have hD := HY.out h0
      have HF : Calls Tryd.prog 43 #[.slice D ls.length c3] w9 fun e w'' => ∃ (A' : Option Addr) (c' : Nat), e = .returned (.slice A' ys.length c') ∧ Rd w'' w9.heap.size A' 2 encDue ys ∧ Nx w9 w'' := by
        refine (w_ByLegsOf _ _ _ ls _ HRD.out HLL.out h0).mono ?_
        rintro e w'' ⟨A', c', ys', he, hf, hr, _, hx⟩
        rw [hf.unique hD] at he hr
        exact ⟨A', c', he, hr, hx⟩
      have HG := hide HF
      have HYL := hide hyl
      have t3 : (legsF ls != 0) = false := by rw [h0]; rfl
      have t4 : (legsF ls == 0) = true := by rw [h0]; rfl
      clear HF hD hyl HY HNY h0 hn7 hn8 hn9
      go_wp2_with (first
        | (go_at_call 43; refine HG.out.mono ?_; rintro e w10 ⟨A10, c10, rfl, hR10, hn10⟩)
        | (go_at_call 9; refine (w_EqualD _ _ _ _ _ _ ys _ (HR9.out.nx hn10) hR10 HYL.out).mono ?_; rintro e w11 ⟨rfl, hn11⟩)
        | (go_at_call 22; refine (w_priced _).mono ?_; rintro e w12 ⟨rfl, hn12⟩))
      go_ret
      exact ⟨rfl, ((HN9.out.trans hn10).trans hn11).trans hn12⟩
    · have t3 : (legsF ls != 0) = true := by simpa using h0
      obtain rfl := HNY.out h0
      clear hyl
      clear h0 HY HNY hn7 hn8 hn9
      go_wp2_with (first
        | (go_at_call 22; refine (w_priced _).mono ?_; rintro e w12 ⟨rfl, hn12⟩))
      go_ret
      exact ⟨rfl, HN9.out.trans hn12⟩
end Go.Proofs.YtjhmgkoghapocaaDoor
