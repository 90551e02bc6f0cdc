/- jitkeep1.EqualsPayEqual returns true. -/
import Derived.Test.YtfnbmcinbmbehaaGreatQG0
import Derived.Test.YtfnbmcinbmbehaaGreatQG1
import Derived.Test.YtfnbmcinbmbehaaGreatQFairP
import Derived.Test.YtfnbmcinbmbehaaGreatQG21
import Derived.Deep.RegionHeld3
import Derived.StillTailTactics
import Derived.Deep.DeepCutAuto
namespace Go.Proofs.YtfnbmcinbmbehaaGreat
open Go.RowKit Go.Sort Go.Shelf

/-- How many of the two are in group g. -/
def manyN (g : Nat) : Nat := g % 2 + g / 2 % 2
def costAt (base a : Int) (g : Nat) : Int := if 0 < manyN g then base + a * (manyN g : Int) else 0
/-- The costs of the first groups. -/
def costsTo (base a : Int) (g : Nat) : List Int := (List.range 8).map (fun j => if j < g then costAt base a j else 0)
theorem costsTo_len (base a : Int) (g : Nat) : (costsTo base a g).length = 8 := by simp [costsTo]
theorem costsTo_one (base a : Int) : costsTo base a 1 = List.replicate 8 0 := by
  simp [costsTo, List.range_succ, costAt, manyN]
theorem costsTo_get (base a : Int) (g i : Nat) (h : i < (costsTo base a g).length) : (costsTo base a g)[i] = if i < g then costAt base a i else 0 := by simp [costsTo]
theorem costsTo_set (base a : Int) (g : Nat) : (costsTo base a g).set g (costAt base a g) = costsTo base a (g + 1) := by
  apply List.ext_getElem
  · simp [costsTo]
  · intro i h1 h2
    rw [List.getElem_set, costsTo_get]
    by_cases e : g = i
    · subst e; rw [if_pos rfl, costsTo_get, if_pos (by omega)]
    · rw [if_neg e, costsTo_get]
      by_cases h3 : i < g
      · rw [if_pos h3, if_pos (by omega)]
      · rw [if_neg h3, if_neg (by omega)]
theorem costsTo_same (base a : Int) (g : Nat) (hg : g < 8) (h : manyN g = 0) : costsTo base a g = costsTo base a (g + 1) := by
  rw [← costsTo_set]
  have : costAt base a g = (costsTo base a g)[g]'(by rw [costsTo_len]; exact hg) := by rw [costsTo_get, if_neg (by omega)]; unfold costAt; rw [h]; rfl
  rw [this, List.set_getElem_self]
theorem costsTo_all (base a : Int) : costsTo base a 8 = eqCosts (base + a) (base + a * 2) := by
  simp [costsTo, List.range_succ, costAt, manyN, eqCosts]
def j3 : List ByteArray := [⟨#[106, 97]⟩, ⟨#[106, 98]⟩, ⟨#[106, 99]⟩]
theorem j3_small : Small j3 := by
  intro x hx
  simp [j3] at hx
  rcases hx with rfl | rfl | rfl <;> decide
theorem j3_keys : keysF j3 = 0 := by
  have h1 : strF none ⟨#[106, 97]⟩ = 0 := by decide
  have h2 : strF (some ⟨#[106, 97]⟩) ⟨#[106, 98]⟩ = 0 := by
    have e : strLe ⟨#[106, 98]⟩ ⟨#[106, 97]⟩ = false := by unfold strLe; rw [Lib.toList_data, Lib.toList_data]; decide
    unfold strF; rw [show keyB ⟨#[106, 98]⟩ = true by decide]; simp only [e]; decide
  have h3 : strF (some ⟨#[106, 98]⟩) ⟨#[106, 99]⟩ = 0 := by
    have e : strLe ⟨#[106, 99]⟩ ⟨#[106, 98]⟩ = false := by unfold strLe; rw [Lib.toList_data, Lib.toList_data]; decide
    unfold strF; rw [show keyB ⟨#[106, 99]⟩ = true by decide]; simp only [e]; decide
  unfold keysF risF j3
  rw [if_neg (by decide)]
  simp only [chk, h1, h2, h3, if_pos]
theorem eq_right {p q : Int} (hp : 0 ≤ p ∧ p ≤ 1000) (hq : 0 ≤ q ∧ q ≤ 1000) : fairF j3 (eqCosts p q) = 0 := by
  have hb : ∀ z : Int, 0 ≤ z ∧ z ≤ 1000 → centB z = false := fun z hz => by
    unfold centB maxCt; exact outB_false.2 (by omega)
  unfold fairF
  rw [j3_keys, if_pos rfl, if_pos (by rfl), if_neg]
  simp [eqCosts, hb p hp, hb q hq, hb 0 (by omega)]

set_option maxRecDepth 100000 in
set_option maxHeartbeats 8000000 in
theorem w_lawEP (A : Option Addr) (n c : Nat) (w : World) (hn : n ≤ 9223372036854775807)
    (hL : 0 < n → ∃ b off, A = some ⟨b, off, none⟩ ∧ b < w.heap.size ∧ ∀ j, j < n → ∃ z : Int, w.cell? ⟨b, off + j, none⟩ = some (.int .i64 z) ∧ -9223372036854775808 ≤ z ∧ z ≤ 9223372036854775807) :
    Calls Tryz.prog 3 #[.slice A n c] w (TrueNx w) := by
  have hS0 : Str (w.alloc (.cells #[.slice A n c, .int .i64 0] 25)) w.heap.size 0 := str_new A n c w hn hL
  clear hL
  obtain ⟨Z, hZ⟩ : ∃ Z, Z = madeCells #[.int .i64 0] 8 := ⟨_, rfl⟩
  have hmk : ∀ w, (Instr.makeSlice 22 (.int .i64 8) (.int .i64 8)).run Tryz.prog w = .ok (.slice (some ⟨w.heap.size, 0, none⟩) 8 8) (w.alloc (.cells (madeCells #[.int .i64 0] 8) 3)) := fun w => run_make_ints 8 (by omega) w
  have HZ := hide (made_ints 8)
  rw [← hZ] at hmk HZ
  clear hZ
  go_enter Tryz.func3, Tryz.ntmps3
  go_wp2_with fail
  refine (w_PickI _ [0, 5, 100] _ _ _ _ (hS0.nx ((Nx.refl _).alloc _)) (by omega) (hnew (by simp)) (by simp) rfl (by simp) (by simp)).mono ?_
  rintro e w1 ⟨base, hbase, rfl, hg1, hS1⟩
  have hg01 : Gr w.heap.size w w1 := (Gr.of_nx (((Nx.refl w).alloc _).alloc _)).trans hg1
  have hs1 := hS1.lt
  clear hS0 hg1
  go_wp2_with fail
  refine (w_PickI _ [1, 7, 50] _ _ _ _ (hS1.nx ((Nx.refl _).alloc _)) (by omega) (hnew rfl) (by omega) rfl (by simp) (by simp)).mono ?_
  rintro e w2 ⟨a, ha, rfl, hg2, hS2⟩
  have hg02 : Gr w.heap.size w w2 := (hg01.alloc _).trans hg2
  have hs2 := hS2.lt
  clear hg01 hg2 hS1
  have hb1 : 0 ≤ base ∧ base ≤ 100 := by simp at hbase; omega
  have ha1 : 0 ≤ a ∧ a ≤ 50 := by simp at ha; omega
  clear hbase ha
  have h6 := own_made w2 8 w2.heap.size (by omega) (Nat.le_refl _) HZ.out
  rw [← costsTo_one base a] at h6
  have H6 := hide h6
  have HS2 := hide (hS2.nx ((Nx.refl w2).alloc (.cells Z 3)))
  have HG2 := hide (hg02.alloc (.cells Z 3))
  clear h6 hS2 hg02
  go_wp2_with fail
  clear hmk
  go_loopw [7, 8] (fun g _ wr => ∃ k : Nat, 1 ≤ k ∧ k ≤ 8 ∧ g = .int .i64 k ∧ wr.ownsRow w2.heap.size 3 1 (.slice (some ⟨w2.heap.size, 0, none⟩) 8 8) 8 ((costsTo base a k).flatMap encI) ∧ Gr w.heap.size w wr ∧ Str wr w.heap.size (2 + k)) (fun g _ _ => 8 - (intOf g).toNat)
  case atStart => exact ⟨1, by omega, by omega, rfl, H6.out, HG2.out, HS2.out.more (by omega)⟩
  case round =>
    clear H6 HS2 HG2
    obtain ⟨k, hk1, hk2, rfl, hown, hgr, hS⟩ := hrel
    by_cases hlt : k < 8
    · have hmk : manyN k ≤ 2 := by unfold manyN; omega
      have qm : (k : Int) % 2 + (k : Int) / 2 % 2 = ((manyN k : Nat) : Int) := by unfold manyN; omega
      have HSM := hide (costsTo_same base a k hlt)
      have HST := hide (costsTo_set base a k)
      have HCA := hide (show costAt base a k = if 0 < manyN k then base + a * (manyN k : Int) else 0 from rfl)
      generalize manyN k = m at *
      by_cases hm0 : 0 < m
      · have hz0 : 0 ≤ a * (m : Int) ∧ a * (m : Int) ≤ 100 := by
          have : m = 1 ∨ m = 2 := by omega
          rcases this with rfl | rfl <;> omega
        obtain ⟨z, hz⟩ : ∃ z, z = a * (m : Int) := ⟨_, rfl⟩
        have W1 : IntKind.i64.wrap (a * (m : Int)) = z := by rw [← hz] at hz0 ⊢; exact IntWalk.i64_in _ (by omega)
        rw [← hz] at hz0
        have hml : k < (costsTo base a k).length := by rw [costsTo_len]; exact hlt
        have HC2 := hide (show costAt base a k = base + z by rw [HCA.out, if_pos hm0, hz])
        clear hz
        obtain ⟨hz1, hz2⟩ := hz0
        go_wp2_with fail
        refine (w_PickI _ [0, 0] _ _ _ _ (hS.nx ((Nx.refl _).alloc _)) (by omega) (hnew (by simp)) (by have := hS.lt; omega) rfl (by simp) (by simp)).mono ?_
        rintro e w3 ⟨r, hr, rfl, hg3, hS3⟩
        have hr0 : r = 0 := by simpa using hr
        subst hr0
        have hown3 := own_gr (hown.alloc (.cells #[.int .i64 0, .int .i64 0] 3)) hg3 hs2
        have hgr3 := (hgr.alloc _).trans hg3
        have c8 : w3.cell? ⟨w2.heap.size, k, none⟩ = some (.int .i64 ((costsTo base a k)[k]'hml)) := by
          have := own_cell encI_len (costsTo_len base a k) hown3 k hml 0 _ rfl
          simpa using this
        have f8 : w3.frozen? ⟨w2.heap.size, k, none⟩ = false := hown3.frozenAt _
        have hown4 := own_set encI_len (costsTo_len base a k) hown3 k hml 0 (by omega) (.int .i64 (base + z)) (base + z) rfl k (by omega)
        rw [← HC2.out, HST.out, HC2.out] at hown4
        have HO4 := hide hown4
        clear hown hown3 hown4 hr
        go_wp2_with fail
        go_roundw
        case rel => exact ⟨k + 1, by omega, by omega, by go_num, HO4.out, hgr3.setS (.inr (show w.heap.size ≤ w2.heap.size by omega)) _, ((hS3.row ((Gr.refl w2.heap.size _).setS (.inl rfl) _) (fun j hj => by injection hj with hj; omega)).more (by omega))⟩
        case measure => simp [intOf]; omega
      · have hm1 : m = 0 := by omega
        subst hm1
        rw [HSM.out rfl] at hown
        go_wp2_with fail
        go_roundw
        case rel => exact ⟨k + 1, by omega, by omega, by go_num, hown, hgr, hS.more (by omega)⟩
        case measure => simp [intOf]; omega
    · have hk8 : k = 8 := by omega
      subst hk8
      clear hlt hk1 hk2
      rw [costsTo_all] at hown
      go_wp2_with fail
      have hp : 0 ≤ base + a ∧ base + a ≤ 1000 := by omega
      have hq : 0 ≤ base + a * 2 ∧ base + a * 2 ≤ 1000 := by omega
      have hfa := eq_right hp hq
      obtain ⟨q, hqe⟩ : ∃ q, q = base + a * 2 := ⟨_, rfl⟩
      obtain ⟨p, hpe⟩ : ∃ p, p = base + a := ⟨_, rfl⟩
      rw [← hqe, ← hpe] at hfa hown
      rw [← hqe] at hq
      clear hp
      have hRj : Rd (wr.alloc (.cells #[.string ⟨#[106, 97]⟩, .string ⟨#[106, 98]⟩, .string ⟨#[106, 99]⟩] 9)) 0 (some ⟨wr.heap.size, 0, none⟩) 1 encS j3 := Rd.lit (hnew rfl) (Nat.zero_le _) encS_len rfl
      have hRc := (rd_own encI_len (show (eqCosts p q).length = 8 from rfl) hown).nx ((Nx.refl wr).alloc (.cells #[.string ⟨#[106, 97]⟩, .string ⟨#[106, 98]⟩, .string ⟨#[106, 99]⟩] 9))
      have e7 : wr.cell? ⟨w2.heap.size, 7, none⟩ = some (.int .i64 q) := own_cell encI_len (show (eqCosts p q).length = 8 from rfl) hown 7 (show 7 < 8 by omega) 0 _ rfl
      have hF := w_Fair 0 _ _ _ 3 8 j3 (eqCosts p q) _ hRj j3_small hRc (by decide) (show 8 ≤ 40 by omega)
      rw [hfa] at hF
      refine hF.mono ?_
      rintro e w5 ⟨A5, c5, ds, rfl, hR, _, hRd, hn5⟩
      obtain ⟨x, y, z, rfl⟩ := eq_fair rfl (hR rfl)
      have hx5 : Nx wr w5 := ((Nx.refl wr).alloc _).trans hn5
      have f7 := nx_cell hx5 (hown.lt _ rfl).2 e7
      have hl5 := Nat.lt_of_lt_of_le (hown.lt _ rfl).2 hx5.sz
      obtain ⟨b, off, rfl, _, hb, _, hc⟩ := hRd.open_ (Nx.refl w5) (by simp)
      have g0 : w5.cell? ⟨b, off + 1, none⟩ = some (.int .i64 ((q + 1) / 2)) := by have := hc 0 (by simp) 1 _ rfl; simpa using this
      have g1 : w5.cell? ⟨b, off + 2 + 1, none⟩ = some (.int .i64 (q / 2)) := by have := hc 1 (by simp) 1 _ rfl; simpa using this
      have g2 : w5.cell? ⟨b, off + 4 + 1, none⟩ = some (.int .i64 0) := by have := hc 2 (by simp) 1 _ rfl; simpa using this
      have hgap : 0 ≤ (q + 1) / 2 - q / 2 ∧ (q + 1) / 2 - q / 2 ≤ 1 := by omega
      have hsum : (q + 1) / 2 + q / 2 = q := by omega
      have hb0 : 0 ≤ q / 2 ∧ q / 2 ≤ 1000 := by omega
      have hb1' : 0 ≤ (q + 1) / 2 ∧ (q + 1) / 2 ≤ 1001 := by omega
      have hNW : Nx w w5 := Nx.of_gr (hgr.then_nx hx5) (Nat.le_refl _)
      clear hc hR hRd hF hRj hRc e7 hfa hown hS hn5 hpe hqe
      generalize (q + 1) / 2 = u at *
      generalize q / 2 = v at *
      rw [← hsum] at f7
      clear hsum
      have hcase : u = v ∨ u = v + 1 := by omega
      clear hgap hb1' hq
      rcases hcase with hu | hu
      all_goals
        subst hu
        have qd : ∀ z : Int, z + 1 - z = 1 := fun z => by omega
        have qe : ∀ z : Int, IntKind.i64.wrap (z + 1 - z) = 1 := fun z => by rw [qd]; decide
        go_wp2_with fail
        go_quiet (fail)
        clear qd qe
        have hy : Nx w5 (w5.drewN nq) := (Nx.refl w5).drewN nq
        have k0 := nx_cell hy hb g0
        have k1 := nx_cell hy hb g1
        have k7 := nx_cell hy hl5 f7
        go_wp2_with fail
        obtain ⟨wq, hwq⟩ : ∃ wq, wq = w5.drewN nq := ⟨_, rfl⟩
        rw [← hwq] at hy k0 k1 k7 ⊢
        have hbq := Nat.lt_of_lt_of_le hb hy.sz
        have hlq := Nat.lt_of_lt_of_le hl5 hy.sz
        clear hwq
        go_still_tail 22, (by kernel_rfl)
        change wpList _ _ _ _ _ wq.drew
        go_wp2_with (go_at_call 7; refine (w_ready _).mono ?_; rintro e w6 ⟨rfl, hn6⟩)
        go_ret
        exact ⟨rfl, ((hNW.trans hy).drew).trans hn6⟩
end Go.Proofs.YtfnbmcinbmbehaaGreat
