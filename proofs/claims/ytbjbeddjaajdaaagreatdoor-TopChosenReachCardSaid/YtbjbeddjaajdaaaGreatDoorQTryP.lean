/- All choices in order: the program. -/
import Derived.Test.YtbjbeddjaajdaaaGreatDoorQG32
namespace Go.Proofs.YtbjbeddjaajdaaaGreatDoor
open Go.RowKit

theorem eg_chp1 : Enters 89 := enters_of Tryz.func89 (by kernel_rfl) rfl
section
variable {w0 : World} {qm qw qM qB qs qt qz base n m2 ce cs ci : Nat} {E S I : Option Addr} {many : Int} {sites : List ByteArray} {es : List RowB} {R : ByteArray → List Bool} {cov : List ByteArray → Int}
set_option maxRecDepth 100000 in
set_option maxHeartbeats 8000000 in
theorem w_tryP (HBX : Hid (∀ W, Nx w0 W → W.cell? ⟨qm, 0, none⟩ = some (.int .i64 many) ∧ W.cell? ⟨qw, 0, none⟩ = some (.slice E m2 ce) ∧ W.cell? ⟨qs, 0, none⟩ = some (.slice S n cs) ∧ W.cell? ⟨qz, 0, none⟩ = some (.slice I n ci)))
    (HCO : Hid (∀ W Y cy (rws : List RowB) so, Nx w0 W → Rd W base Y 1 encRowB rws → (∀ r ∈ rws, r ∈ es) → rws.length ≤ n → rws.map (·.l) = so.map R → Calls Tryz.prog 90 #[.slice E m2 ce, .slice Y rws.length cy] W fun e w' => e = .returned (.int .i64 (cov so)) ∧ Nx W w'))
    (HIS : Hid (Rd w0 0 I 1 encRowB es)) (HIN : Hid (es.length = n)) (HIR : Hid (es.map (·.l) = sites.map R))
    (HSI : Hid (Rd w0 0 S 1 encS sites)) (HSN : Hid (sites.length = n)) (hn : n ≤ 1000) (hM : w0.heap.size ≤ qM) (hB : w0.heap.size ≤ qB) (hMB : qM ≠ qB) (hqt : w0.heap.size ≤ qt ∧ qt ≠ qM ∧ qt ≠ qB) (hba : qM < base ∧ qB < base ∧ qt < base) :
    ∀ (d k : Nat) (so : List ByteArray) (N : Option Addr) (c : Nat) (rws : List RowB) (Y : Option Addr) (cy : Nat) (acc : List ByteArray × Int) (w : World), n - k = d → k ≤ n → Nx w0 w → base ≤ w.heap.size → w.cell? ⟨qt, 0, none⟩ = some (.func (.func 89) #[] #[.pointer (some ⟨qm, 0, none⟩), .pointer (some ⟨qw, 0, none⟩), .pointer (some ⟨qM, 0, none⟩), .pointer (some ⟨qB, 0, none⟩), .pointer (some ⟨qs, 0, none⟩), .pointer (some ⟨qt, 0, none⟩), .pointer (some ⟨qz, 0, none⟩)]) → BestR w base qM qB acc → Rd w base N 1 encS so → so.length ≤ c → so.length ≤ k → Rd w base Y 1 encRowB rws → rws.length ≤ cy → (∀ r ∈ rws, r ∈ es) → rws.length = so.length → rws.map (·.l) = so.map R →
      Calls Tryz.prog 89 #[.int .i64 (k : Int), .slice N so.length c, .slice Y rws.length cy, .pointer (some ⟨qm, 0, none⟩), .pointer (some ⟨qw, 0, none⟩), .pointer (some ⟨qM, 0, none⟩), .pointer (some ⟨qB, 0, none⟩), .pointer (some ⟨qs, 0, none⟩), .pointer (some ⟨qt, 0, none⟩), .pointer (some ⟨qz, 0, none⟩)] w fun e w' => e = .returned (.tuple #[]) ∧ BestR w' base qM qB (tryG cov many (sites.drop k) so acc) ∧ Kp qM qB w w' := by
  intro d
  induction d using Nat.strongRecOn with
  | _ d IH =>
  intro k so N c rws Y cy acc w hd hk hnx hbs htc hbest hN hsc hsl hY hyc hye hyl hyr
  obtain ⟨m0, x0, x3, x4⟩ := HBX.out w hnx
  have HN := hide hN
  have HSC := hide hsc
  have HSL := hide hsl
  have HNX := hide hnx
  have HBE := hide hbest
  have HTC := hide htc
  have HY := hide hY
  have HYC := hide hyc
  have HYE := hide hye
  have HYL := hide hyl
  have HYR := hide hyr
  clear hN hsc hsl hnx hbest htc hY hyc hye hyr
  rw [hyl]
  clear hyl
  by_cases hm : (so.length : Int) = many
  · have HG := hide (show tryG cov many (sites.drop k) so acc = updC cov so acc from if_pos hm)
    have HU := hide (show updC cov so acc = if acc.2 < cov so then (so, cov so) else acc from rfl)
    rw [HG.out]
    clear HG IH
    have HCO2 := hide (HCO.out w Y cy rws so HNX.out HY.out HYE.out (by have := HSL.out; have := HYL.out; omega) HYR.out)
    rw [HYL.out] at HCO2
    have tm : ((so.length : Int) == many) = true := by simpa using hm
    have HCL := hide (fun W (h : Nx w W) => w_CloneS base N c so W (HN.out.nx h) (by have := HSL.out; omega))
    obtain ⟨accS, accM⟩ := acc
    have hbM := HBE.out.1
    obtain ⟨Bb, cbb, hbB, hbR, hbl⟩ := HBE.out.2
    have HBM := hide hbM
    have HBB := hide hbB
    have HBR := hide hbR
    clear hbM hbB hbR HBE hm
    generalize updC cov so (accS, accM) = U at *
    generalize cov so = cv at *
    generalize hsl2 : so.length = sl at *
    have HSL2 := hide hsl2
    clear hsl2
    by_cases hlt : accM < cv
    · have hU := HU.out.trans (if_pos hlt)
      subst hU
      have t1 : decide (accM < cv) = true := decide_eq_true hlt
      have t1' : decide (cv > accM) = true := t1
      clear hlt HU
      go_enter Tryz.func89, Tryz.ntmps89
      go_wp2_with fail
      refine HCO2.out.mono ?_
      rintro e w2 ⟨rfl, hn2⟩
      have y0 : w2.cell? ⟨qM, 0, none⟩ = some (.int .i64 accM) := nx_cell hn2 (lt_of_heap HBM.out) ((cell_of_row w qM 0 _ _ _ HBM.out).trans rfl)
      clear m0 x0 x3 x4
      go_wp2_with fail
      refine (HCL.out w2 hn2).mono ?_
      rintro e w3 ⟨v, rfl, hown, hn3⟩
      obtain ⟨A', c', rfl, hRd, _⟩ := Rd.of_own encS_len HSL2.out.symm hown
      have hcap := own_capF hown
      have hn23 := hn2.trans hn3
      have b3 : w3.heap[qB]? = some (.cells #[.slice Bb accS.length cbb] 34 (0, 0)) := (hn23.block qB (lt_of_heap HBB.out)).trans HBB.out
      have b4 : w3.heap[qM]? = some (.cells #[.int .i64 accM] 3 (0, 0)) := (hn23.block qM (lt_of_heap HBM.out)).trans HBM.out
      have c3 : w3.cell? ⟨qB, 0, none⟩ = some (.slice Bb accS.length cbb) := (cell_of_row w3 qB 0 _ _ _ b3).trans rfl
      have c4 : w3.cell? ⟨qM, 0, none⟩ = some (.int .i64 accM) := (cell_of_row w3 qM 0 _ _ _ b4).trans rfl
      have f3 := frozen_blkQ (j := 0) b3
      have f4 := frozen_blkQ (j := 0) b4
      have b4' : (w3.setCell ⟨qB, 0, none⟩ (.slice A' so.length c')).heap[qM]? = some (.cells #[.int .i64 accM] 3 (0, 0)) := (heap_setCell_other w3 ⟨qB, 0, none⟩ qM _ hMB).trans b4
      have c4' : (w3.setCell ⟨qB, 0, none⟩ (.slice A' so.length c')).cell? ⟨qM, 0, none⟩ = some (.int .i64 accM) := (cell_of_row _ qM 0 _ _ _ b4').trans rfl
      have f4' := frozen_blkQ (j := 0) b4'
      have b3' : (w3.setCell ⟨qB, 0, none⟩ (.slice A' so.length c')).heap[qB]? = some (.cells #[.slice A' so.length c'] 34 (0, 0)) := heap_setCell_same w3 qB 0 _ _ _ b3
      have HB3 := hide b3'
      have HB4 := hide b4'
      have HRd := hide hRd
      have HN23 := hide hn23
      have hb2 : base ≤ w2.heap.size := Nat.le_trans hbs hn2.sz
      clear b3 b4 b3' b4' hRd hown hn2 hn3 hn23
      go_wp2_with fail
      have hsz : ((w3.setCell ⟨qB, 0, none⟩ (.slice A' so.length c')).setCell ⟨qM, 0, none⟩ (.int .i64 cv)).heap.size = w3.heap.size := by simp [World.setCell]
      have hk3 : Kp qM qB w3 ((w3.setCell ⟨qB, 0, none⟩ (.slice A' so.length c')).setCell ⟨qM, 0, none⟩ (.int .i64 cv)) := ((Kp.refl qM qB w3).set _ _ (.inr rfl)).set _ _ (.inl rfl)
      refine bodyPost_ret (v := .tuple #[]) (by simp [results, Tryz.results89, go_sem]) rfl ?_
      refine ⟨rfl, ⟨heap_setCell_same _ qM 0 _ _ _ HB4.out, A', c', ?_, (HRd.out.low hb2).kp hk3 hba.1 hba.2.1, (show so.length ≤ c' by rw [HSL2.out]; exact hcap)⟩, (Kp.of_nx HN23.out).trans hk3⟩
      exact (heap_setCell_other _ ⟨qM, 0, none⟩ qB _ (Ne.symm hMB)).trans HB3.out
    · have hU := HU.out.trans (if_neg hlt)
      subst hU
      have t1 : decide (accM < cv) = false := decide_eq_false hlt
      have t1' : decide (cv > accM) = false := t1
      clear hlt HU
      go_enter Tryz.func89, Tryz.ntmps89
      go_wp2_with fail
      refine HCO2.out.mono ?_
      rintro e w2 ⟨rfl, hn2⟩
      have y0 : w2.cell? ⟨qM, 0, none⟩ = some (.int .i64 accM) := nx_cell hn2 (lt_of_heap HBM.out) ((cell_of_row w qM 0 _ _ _ HBM.out).trans rfl)
      clear m0 x0 x3 x4
      go_wp2_with fail
      refine bodyPost_ret (v := .tuple #[]) (by simp [results, Tryz.results89, go_sem]) rfl ?_
      exact ⟨rfl, ⟨(hn2.block qM (lt_of_heap HBM.out)).trans HBM.out, Bb, cbb, (hn2.block qB (lt_of_heap HBB.out)).trans HBB.out, HBR.out.nx hn2, hbl⟩, Kp.of_nx hn2⟩
  · have HG := hide (show tryG cov many (sites.drop k) so acc = tryL cov many (sites.drop k) so acc from if_neg hm)
    rw [HG.out]
    clear HG HCO
    have tm : ((so.length : Int) == many) = false := by simpa using hm
    have HCL := hide (fun W (h : Kp qM qB w W) => w_CloneS base N c so W (HN.out.kp h hba.1 hba.2.1) (by have := HSL.out; omega))
    clear hm
    generalize hT : tryL cov many (sites.drop k) so acc = T
    have HT := hide hT
    clear hT
    have HTCW := hide (fun W (h : Kp qM qB w W) => h.cell HTC.out hqt.2.1 hqt.2.2 (Nat.lt_of_lt_of_le hba.2.2 hbs))
    have HIH := hide IH
    clear IH x0 x4
    have eg := eg_chp1
    unfold Enters at eg
    go_enter Tryz.func89, Tryz.ntmps89
    go_wp2_with fail
    go_loopw [14] (fun u wr => ∃ (i : Nat) (acc' : List ByteArray × Int), k ≤ i ∧ i ≤ n ∧ u = .int .i64 (i : Int) ∧ BestR wr base qM qB acc' ∧ Kp qM qB w wr ∧ tryL cov many (sites.drop i) so acc' = T) (fun u _ => n - (intOf u).toNat)
    case atStart => exact ⟨k, acc, Nat.le_refl _, hk, rfl, HBE.out, Kp.refl _ _ _, HT.out⟩
    case round =>
      obtain ⟨i, acc', hki, hi, rfl, hbe, hkp, hq⟩ := hrel
      have HQ := hide hq
      have HBE2 := hide hbe
      have HKP := hide hkp
      have hnw := hkp.nx HNX.out hM hB
      have hbr : base ≤ wr.heap.size := Nat.le_trans hbs hkp.sz
      clear hq hbe hkp x3 m0
      by_cases hlt : i < n
      · have hlt' : i < sites.length := by have := HSN.out; omega
        have hle' : i < es.length := by have := HIN.out; omega
        obtain ⟨yb, yo, rfl, _, hyb, hyb1, hyc⟩ := HSI.out.open_ hnw (by omega)
        have c0 : wr.cell? ⟨yb, yo + i, none⟩ = some (.string sites[i]) := by have := hyc i hlt' 0 _ rfl; simpa using this
        obtain ⟨zb, zo, rfl, _, hzb, hzb1, hzc⟩ := HIS.out.open_ hnw (by omega)
        have c1 : wr.cell? ⟨zb, zo + i, none⟩ = some (.slice es[i].a es[i].l.length es[i].c) := by have := hzc i hle' 0 _ rfl; simpa using this
        have hrR : es[i].l = R sites[i] := by
          have h1 : (es.map (·.l))[i]? = (sites.map R)[i]? := by rw [HIR.out]
          rw [List.getElem?_map, List.getElem?_map, List.getElem?_eq_getElem hle', List.getElem?_eq_getElem hlt'] at h1
          exact Option.some.inj h1
        have hrm := List.getElem_mem hle'
        have HD := hide (tryL_drop cov many sites i hlt' so acc')
        clear hyc hzc
        generalize sites[i] = s at *
        generalize es[i] = rr at *
        obtain ⟨ra, rc, rl⟩ := rr
        have HYE2 : Hid (∀ r ∈ rws ++ [(⟨ra, rc, rl⟩ : RowB)], r ∈ es) := hide (fun x hx => (List.mem_append.1 hx).elim (HYE.out x) (fun h => by rw [List.mem_singleton.1 h]; exact hrm))
        have HYR2 : Hid ((rws ++ [(⟨ra, rc, rl⟩ : RowB)]).map (·.l) = (so ++ [s]).map R) := hide (by rw [List.map_append, List.map_append, HYR.out]; show so.map R ++ [rl] = so.map R ++ [R s]; rw [show rl = R s from hrR])
        obtain ⟨m2', hm2'⟩ : ∃ m2', m2' = rl.length := ⟨_, rfl⟩
        have c1 : wr.cell? ⟨zb, zo + i, none⟩ = some (.slice ra m2' rc) := by rw [hm2']; exact c1
        have HRE := hide (show (#[.slice ra m2' rc] : Array Value).toList = encRowB ⟨ra, rc, rl⟩ by rw [hm2']; rfl)
        clear hm2' hrR hrm
        have HSW := hide (fun W (h : Kp qM qB wr W) => (⟨HTCW.out W (HKP.out.trans h), (HBX.out W (h.nx hnw hM hB)).2.2.1, (HBX.out W (h.nx hnw hM hB)).2.2.2, h.cell c0 (show yb ≠ qM by omega) (show yb ≠ qB by omega) hyb1, h.cell c1 (show zb ≠ qM by omega) (show zb ≠ qB by omega) hzb1⟩ : W.cell? ⟨qt, 0, none⟩ = some (.func (.func 89) #[] #[.pointer (some ⟨qm, 0, none⟩), .pointer (some ⟨qw, 0, none⟩), .pointer (some ⟨qM, 0, none⟩), .pointer (some ⟨qB, 0, none⟩), .pointer (some ⟨qs, 0, none⟩), .pointer (some ⟨qt, 0, none⟩), .pointer (some ⟨qz, 0, none⟩)]) ∧ W.cell? ⟨qs, 0, none⟩ = some (.slice (some ⟨yb, yo, none⟩) n cs) ∧ W.cell? ⟨qz, 0, none⟩ = some (.slice (some ⟨zb, zo, none⟩) n ci) ∧ W.cell? ⟨yb, yo + i, none⟩ = some (.string s) ∧ W.cell? ⟨zb, zo + i, none⟩ = some (.slice ra m2' rc)))
        have HNW := hide (show Rd wr base N 1 encS so from HN.out.kp HKP.out hba.1 hba.2.1)
        have HYW := hide (show Rd wr base Y 1 encRowB rws from HY.out.kp HKP.out hba.1 hba.2.1)
        obtain ⟨tc, x3, x4, c2, c3⟩ := HSW.out wr (Kp.refl _ _ _)
        have q1 : (0 : Int) ≤ (i : Int) := by omega
        have q2 : (i : Int) < (n : Int) := by omega
        have W1 : IntKind.i64.wrap ((i : Int) + 1) = (i : Int) + 1 := IntWalk.i64_in _ (by omega)
        have k1 := HSC.out
        have k2 : so.length ≤ cy := by have := HYC.out; have := HYL.out; omega
        have IHH := hide (fun k' (hk' : k' ≤ n) (hlt' : i < k') so N c rws Y cy acc w => HIH.out (n - k') (by omega) k' so N c rws Y cy acc w rfl hk')
        clear c0 c1
        go_upto_region 7 with fail
        refine wp_region_held_drew (S := fun w' => w'.cell? ⟨qt, 0, none⟩ = some (.func (.func 89) #[] #[.pointer (some ⟨qm, 0, none⟩), .pointer (some ⟨qw, 0, none⟩), .pointer (some ⟨qM, 0, none⟩), .pointer (some ⟨qB, 0, none⟩), .pointer (some ⟨qs, 0, none⟩), .pointer (some ⟨qt, 0, none⟩), .pointer (some ⟨qz, 0, none⟩)]) ∧ w'.cell? ⟨qs, 0, none⟩ = some (.slice (some ⟨yb, yo, none⟩) n cs) ∧ w'.cell? ⟨qz, 0, none⟩ = some (.slice (some ⟨zb, zo, none⟩) n ci) ∧ w'.cell? ⟨yb, yo + i, none⟩ = some (.string s) ∧ w'.cell? ⟨zb, zo + i, none⟩ = some (.slice ra m2' rc)) (by kernel_rfl) ?_ (fun hHeld => ?_)
        · exact ⟨tc, x3, x4, c2, c3⟩
        clear tc x3 x4 c2 c3
        refine wpAnyH_take (i := 0) (oi := ⟨some 35, _, _, _, _, _⟩) (v := ?_) rfl (by kernel_rfl) (by kernel_rfl) (by kernel_rfl) (fun _ _ _ h => h) (Or.inl ⟨by rfl, ?_⟩) (by assumption) ?_
        rotate_left 1
        · intro w hSw
          (try dsimp only at hSw)
          go_simp
          try with_reducible rfl
        try simp only [Act.put, List.setIfInBounds_toArray, List.set_cons_zero, List.set_cons_succ]
        refine wpAnyH_take (i := 1) (oi := ⟨some 36, _, _, _, _, _⟩) (v := ?_) rfl (by kernel_rfl) (by kernel_rfl) (by kernel_rfl) (fun _ _ _ h => h) (Or.inl ⟨by rfl, ?_⟩) (by assumption) ?_
        rotate_left 1
        · intro w hSw
          (try dsimp only at hSw)
          go_simp
          try with_reducible rfl
        try simp only [Act.put, List.setIfInBounds_toArray, List.set_cons_zero, List.set_cons_succ]
        refine wpAnyH_take (i := 2) (oi := ⟨some 37, _, _, _, _, _⟩) (v := ?_) rfl (by kernel_rfl) (by kernel_rfl) (by kernel_rfl) (fun _ _ _ h => h) (Or.inl ⟨by rfl, ?_⟩) (by assumption) ?_
        rotate_left 1
        · intro w hSw
          (try dsimp only at hSw)
          go_simp
          try with_reducible rfl
        try simp only [Act.put, List.setIfInBounds_toArray, List.set_cons_zero, List.set_cons_succ]
        refine wpAnyH_take (i := 3) (oi := ⟨some 38, _, _, _, _, _⟩) (v := ?_) rfl (by kernel_rfl) (by kernel_rfl) (by kernel_rfl) (fun _ _ _ h => h) (Or.inl ⟨by rfl, ?_⟩) (by assumption) ?_
        rotate_left 1
        · intro w hSw
          (try dsimp only at hSw)
          go_simp
          try with_reducible rfl
        try simp only [Act.put, List.setIfInBounds_toArray, List.set_cons_zero, List.set_cons_succ]
        refine wpAnyH_take (i := 4) (oi := ⟨some 39, _, _, _, _, _⟩) (v := ?_) rfl (by kernel_rfl) (by kernel_rfl) (by kernel_rfl) (fun _ _ _ h => h) (Or.inl ⟨by rfl, ?_⟩) (by assumption) ?_
        rotate_left 1
        · intro w hSw
          (try dsimp only at hSw)
          go_simp
          try with_reducible rfl
        try simp only [Act.put, List.setIfInBounds_toArray, List.set_cons_zero, List.set_cons_succ]
        refine wpAnyH_take (i := 5) (oi := ⟨some 40, _, _, _, _, _⟩) (v := ?_) rfl (by kernel_rfl) (by kernel_rfl) (by kernel_rfl) (fun _ _ _ h => h) (Or.inl ⟨by rfl, ?_⟩) (by assumption) ?_
        rotate_left 1
        · intro w hSw
          (try dsimp only at hSw)
          go_simp
          try with_reducible rfl
        try simp only [Act.put, List.setIfInBounds_toArray, List.set_cons_zero, List.set_cons_succ]
        refine wpAnyH_take (i := 6) (oi := ⟨some 41, _, _, _, _, _⟩) (v := ?_) rfl (by kernel_rfl) (by kernel_rfl) (by kernel_rfl) (fun _ _ _ h => h) (Or.inl ⟨by rfl, ?_⟩) (by assumption) ?_
        rotate_left 1
        · intro w hSw
          (try dsimp only at hSw)
          go_simp
          try with_reducible rfl
        try simp only [Act.put, List.setIfInBounds_toArray, List.set_cons_zero, List.set_cons_succ]
        refine wpAnyH_take (i := 7) (oi := ⟨some 42, _, _, _, _, _⟩) (v := ?_) rfl (by kernel_rfl) (by kernel_rfl) (by kernel_rfl) (fun _ _ _ h => h) (Or.inl ⟨by rfl, ?_⟩) (by assumption) ?_
        rotate_left 1
        · intro w hSw
          (try dsimp only at hSw)
          go_simp
          try with_reducible rfl
        try simp only [Act.put, List.setIfInBounds_toArray, List.set_cons_zero, List.set_cons_succ]
        refine wpAnyH_take (i := 8) (oi := ⟨some 43, _, _, _, _, _⟩) (v := ?_) rfl (by kernel_rfl) (by kernel_rfl) (by kernel_rfl) (fun _ _ _ h => h) (Or.inl ⟨by rfl, ?_⟩) (by assumption) ?_
        rotate_left 1
        · intro w hSw
          (try dsimp only at hSw)
          go_simp
          try with_reducible rfl
        try simp only [Act.put, List.setIfInBounds_toArray, List.set_cons_zero, List.set_cons_succ]
        refine wpAnyH_take (i := 9) (oi := ⟨some 44, _, _, _, _, _⟩) (v := ?_) rfl (by kernel_rfl) (by kernel_rfl) (by kernel_rfl) (fun _ _ _ h => h) (Or.inl ⟨by rfl, ?_⟩) (by assumption) ?_
        rotate_left 1
        · intro w hSw
          (try dsimp only at hSw)
          go_simp
          try with_reducible rfl
        try simp only [Act.put, List.setIfInBounds_toArray, List.set_cons_zero, List.set_cons_succ]
        refine wpAnyH_take (i := 10) (oi := ⟨some 45, _, _, _, _, _⟩) (v := ?_) rfl (by kernel_rfl) (by kernel_rfl) (by kernel_rfl) (fun _ _ _ h => h) (Or.inl ⟨by rfl, ?_⟩) (by assumption) ?_
        rotate_left 1
        · intro w hSw
          (try dsimp only at hSw)
          go_simp
          try with_reducible rfl
        try simp only [Act.put, List.setIfInBounds_toArray, List.set_cons_zero, List.set_cons_succ]
        refine wpAnyH_take (i := 11) (oi := ⟨some 46, _, _, _, _, _⟩) (v := ?_) rfl (by kernel_rfl) (by kernel_rfl) (by kernel_rfl) (fun _ _ _ h => h) (Or.inl ⟨by rfl, ?_⟩) (by assumption) ?_
        rotate_left 1
        · intro w hSw
          (try dsimp only at hSw)
          go_simp
          try with_reducible rfl
        try simp only [Act.put, List.setIfInBounds_toArray, List.set_cons_zero, List.set_cons_succ]
        refine wpAnyH_take (i := 12) (oi := ⟨some 47, _, _, _, _, _⟩) (v := ?_) rfl (by kernel_rfl) (by kernel_rfl) (by kernel_rfl) (fun _ _ _ h => h) (Or.inl ⟨by rfl, ?_⟩) (by assumption) ?_
        rotate_left 1
        · intro w hSw
          (try dsimp only at hSw)
          go_simp
          try with_reducible rfl
        try simp only [Act.put, List.setIfInBounds_toArray, List.set_cons_zero, List.set_cons_succ]
        refine wpAnyH_take (i := 15) (oi := ⟨some 50, _, _, _, _, _⟩) (v := ?_) rfl (by kernel_rfl) (by kernel_rfl) (by kernel_rfl) (fun _ _ _ h => h) (Or.inl ⟨by rfl, ?_⟩) (by assumption) ?_
        rotate_left 1
        · intro w hSw
          (try dsimp only at hSw)
          go_simp
          try with_reducible rfl
        try simp only [Act.put, List.setIfInBounds_toArray, List.set_cons_zero, List.set_cons_succ]
        refine wpAnyH_take (i := 16) (oi := ⟨some 51, _, _, _, _, _⟩) (v := ?_) rfl (by kernel_rfl) (by kernel_rfl) (by kernel_rfl) (fun _ _ _ h => h) (Or.inl ⟨by rfl, ?_⟩) (by assumption) ?_
        rotate_left 1
        · intro w hSw
          (try dsimp only at hSw)
          go_simp
          try with_reducible rfl
        try simp only [Act.put, List.setIfInBounds_toArray, List.set_cons_zero, List.set_cons_succ]
        refine wpAnyH_take (i := 17) (oi := ⟨some 52, _, _, _, _, _⟩) (v := ?_) rfl (by kernel_rfl) (by kernel_rfl) (by kernel_rfl) (fun _ _ _ h => h) (Or.inl ⟨by rfl, ?_⟩) (by assumption) ?_
        rotate_left 1
        · intro w hSw
          (try dsimp only at hSw)
          go_simp
          try with_reducible rfl
        try simp only [Act.put, List.setIfInBounds_toArray, List.set_cons_zero, List.set_cons_succ]
        refine wpAnyH_take (i := 18) (oi := ⟨some 53, _, _, _, _, _⟩) (v := ?_) rfl (by kernel_rfl) (by kernel_rfl) (by kernel_rfl) (fun _ _ _ h => h) (Or.inl ⟨by rfl, ?_⟩) (by assumption) ?_
        rotate_left 1
        · intro w hSw
          (try dsimp only at hSw)
          go_simp
          try with_reducible rfl
        try simp only [Act.put, List.setIfInBounds_toArray, List.set_cons_zero, List.set_cons_succ]
        refine wpAnyH_take (i := 19) (oi := ⟨some 54, _, _, _, _, _⟩) (v := ?_) rfl (by kernel_rfl) (by kernel_rfl) (by kernel_rfl) (fun _ _ _ h => h) (Or.inl ⟨by rfl, ?_⟩) (by assumption) ?_
        rotate_left 1
        · intro w hSw
          (try dsimp only at hSw)
          go_simp
          try with_reducible rfl
        try simp only [Act.put, List.setIfInBounds_toArray, List.set_cons_zero, List.set_cons_succ]
        refine wpAnyH_take (i := 20) (oi := ⟨some 55, _, _, _, _, _⟩) (v := ?_) rfl (by kernel_rfl) (by kernel_rfl) (by kernel_rfl) (fun _ _ _ h => h) (Or.inl ⟨by rfl, ?_⟩) (by assumption) ?_
        rotate_left 1
        · intro w hSw
          (try dsimp only at hSw)
          go_simp
          try with_reducible rfl
        try simp only [Act.put, List.setIfInBounds_toArray, List.set_cons_zero, List.set_cons_succ]
        refine wpAnyH_take (i := 21) (oi := ⟨some 56, _, _, _, _, _⟩) (v := ?_) rfl (by kernel_rfl) (by kernel_rfl) (by kernel_rfl) (fun _ _ _ h => h) (Or.inl ⟨by rfl, ?_⟩) (by assumption) ?_
        rotate_left 1
        · intro w hSw
          (try dsimp only at hSw)
          go_simp
          try with_reducible rfl
        try simp only [Act.put, List.setIfInBounds_toArray, List.set_cons_zero, List.set_cons_succ]
        refine wpAnyH_take (i := 22) (oi := ⟨some 57, _, _, _, _, _⟩) (v := ?_) rfl (by kernel_rfl) (by kernel_rfl) (by kernel_rfl) (fun _ _ _ h => h) (Or.inl ⟨by rfl, ?_⟩) (by assumption) ?_
        rotate_left 1
        · intro w hSw
          (try dsimp only at hSw)
          go_simp
          try with_reducible rfl
        try simp only [Act.put, List.setIfInBounds_toArray, List.set_cons_zero, List.set_cons_succ]
        refine wpAnyH_take (i := 23) (oi := ⟨some 58, _, _, _, _, _⟩) (v := ?_) rfl (by kernel_rfl) (by kernel_rfl) (by kernel_rfl) (fun _ _ _ h => h) (Or.inl ⟨by rfl, ?_⟩) (by assumption) ?_
        rotate_left 1
        · intro w hSw
          (try dsimp only at hSw)
          go_simp
          try with_reducible rfl
        try simp only [Act.put, List.setIfInBounds_toArray, List.set_cons_zero, List.set_cons_succ]
        refine wpAnyH_take (i := 24) (oi := ⟨some 59, _, _, _, _, _⟩) (v := ?_) rfl (by kernel_rfl) (by kernel_rfl) (by kernel_rfl) (fun _ _ _ h => h) (Or.inl ⟨by rfl, ?_⟩) (by assumption) ?_
        rotate_left 1
        · intro w hSw
          (try dsimp only at hSw)
          go_simp
          try with_reducible rfl
        try simp only [Act.put, List.setIfInBounds_toArray, List.set_cons_zero, List.set_cons_succ]
        have HC := hide ((Nx.refl wr).drew)
        generalize wr.drew = wd at *
        refine wpAnyH_ready (rs := [13, 25]) (by kernel_rfl) (by simp) ?_
        refine AllReadyH.cons rfl (fun K hK => ?_) ?_
        · go_simp
          obtain ⟨v1, hnw2⟩ : ∃ W, W = wd.alloc (.cells #[.string s] 9) := ⟨_, rfl⟩
          have hst : Nx wd v1 := hnw2 ▸ (Nx.refl wd).alloc _
          replace HC := hide (HC.out.trans hst)
          have HLN := hide (show v1.heap[wd.heap.size]? = some (.cells #[.string s] 9 (0, 0)) by rw [hnw2]; exact hnew rfl)
          rw [← hnw2]
          clear hst hnw2
          refine hK.out _ _ (HSW.out _ (Kp.of_nx HC.out)) (fun hHeld => ?_)
          clear hK K
          try simp only [Act.put, List.setIfInBounds_toArray, List.set_cons_zero, List.set_cons_succ]
          refine wpAnyH_ready (rs := [14, 25]) (by kernel_rfl) (by simp) ?_
          refine AllReadyH.cons rfl (fun K hK => ?_) ?_
          · refine step_full rfl _ _ _ rfl el_SN encS (fun x => .string x) (fun _ => rfl) encS_one (by omega) base N so rfl (HNW.out.nx HC.out) _ s _ rfl HLN.out rfl (by have := HSL.out; omega) ?_
            intro x6 v2 hown6 hn6
            obtain ⟨N6, c6, rfl, hRd6, _⟩ := Rd.of_own encS_len rfl hown6
            have HRN := hide (hRd6.low (Nat.le_trans hbr HC.out.sz))
            have HLC := hide (own_capF hown6)
            clear hRd6 hown6 HLN
            replace HC := hide (HC.out.trans hn6)
            clear hn6
            refine hK.out _ _ (HSW.out _ (Kp.of_nx HC.out)) (fun hHeld => ?_)
            clear hK K
            try simp only [Act.put, List.setIfInBounds_toArray]
            refine wpAnyH_ready (rs := [25]) (by kernel_rfl) (by simp) ?_
            refine AllReadyH.cons rfl (fun K hK => ?_) ?_
            · go_simp
              obtain ⟨v3, hnw2⟩ : ∃ W, W = v2.alloc (.cells #[.slice ra m2' rc] 154) := ⟨_, rfl⟩
              have hst : Nx v2 v3 := hnw2 ▸ (Nx.refl v2).alloc _
              replace HC := hide (HC.out.trans hst)
              replace HRN := hide (HRN.out.nx hst)
              have HLR := hide (show v3.heap[v2.heap.size]? = some (.cells #[.slice ra m2' rc] 154 (0, 0)) by rw [hnw2]; exact hnew rfl)
              rw [← hnw2]
              clear hst hnw2
              refine hK.out _ _ (HSW.out _ (Kp.of_nx HC.out)) (fun hHeld => ?_)
              clear hK K
              try simp only [Act.put, List.setIfInBounds_toArray, List.set_cons_zero, List.set_cons_succ]
              refine wpAnyH_ready (rs := [26]) (by kernel_rfl) (by simp) ?_
              refine AllReadyH.cons rfl (fun K hK => ?_) ?_
              · refine step_full rfl _ _ _ rfl el_RowB encRowB (fun x => .slice x.a x.l.length x.c) (fun _ => rfl) encRowB_one (by omega) base Y rws (by rw [HYL.out]; rfl) (HYW.out.nx HC.out) _ ⟨ra, rc, rl⟩ _ rfl HLR.out HRE.out (by have := HYL.out; have := HSL.out; omega) ?_
                intro x7 v4 hown7 hn7
                obtain ⟨Y6, d6, rfl, hRd7, _⟩ := Rd.of_own encRowB_len rfl hown7
                have HRR := hide (hRd7.low (Nat.le_trans hbr HC.out.sz))
                have HLD := hide (own_capF hown7)
                clear hRd7 hown7 HLR
                replace HC := hide (HC.out.trans hn7)
                replace HRN := hide (HRN.out.nx hn7)
                clear hn7
                refine hK.out _ _ (HSW.out _ (Kp.of_nx HC.out)) (fun hHeld => ?_)
                clear hK K
                try simp only [Act.put, List.setIfInBounds_toArray]
                refine wpAnyH_ready (rs := [27]) (by kernel_rfl) (by simp) ?_
                refine AllReadyH.cons rfl (fun K hK => ?_) ?_
                · go_simp
                  go_at_call 89
                  have hcall := IHH.out (i + 1) (by omega) (by omega) (so ++ [s]) N6 c6 (rws ++ [⟨ra, rc, rl⟩]) Y6 d6 acc' v4 (hnw.trans HC.out) (Nat.le_trans hbr HC.out.sz) (HSW.out _ (Kp.of_nx HC.out)).1 ⟨(HC.out.block qM (lt_of_heap HBE2.out.1)).trans HBE2.out.1, BestR.step HBE2.out HC.out⟩ HRN.out HLC.out (by have := HSL.out; rw [List.length_append, List.length_singleton]; omega) HRR.out HLD.out HYE2.out (by have := HYL.out; rw [List.length_append, List.length_append, List.length_singleton, List.length_singleton]; omega) HYR2.out
                  rw [show ((i + 1 : Nat) : Int) = (i : Int) + 1 from by omega, show (so ++ [s]).length = so.length + 1 from by rw [List.length_append, List.length_singleton], show (rws ++ [(⟨ra, rc, rl⟩ : RowB)]).length = rws.length + 1 from by rw [List.length_append, List.length_singleton]] at hcall
                  refine hcall.mono ?_
                  clear hcall
                  rintro e w7 ⟨rfl, hb7, hk7⟩
                  have HB7 := hide hb7
                  have HK7 := hide hk7
                  clear hb7 hk7
                  go_simp
                  refine hK.out _ _ (HSW.out _ ((Kp.of_nx HC.out).trans HK7.out)) (fun hHeld => ?_)
                  clear hK K
                  try simp only [Act.put, List.setIfInBounds_toArray, List.set_cons_zero, List.set_cons_succ]
                  refine wpAnyH_done (by kernel_rfl) ?_ _
                  go_wp2_with fail
                  go_roundw
                  case rel => exact ⟨i + 1, _, by omega, by omega, by go_num, HB7.out, HKP.out.trans ((Kp.of_nx HC.out).trans HK7.out), by rw [← HQ.out, HD.out]⟩
                  case measure => simp [intOf]; omega
                exact AllReadyH.nil
              exact AllReadyH.nil
            exact AllReadyH.nil
          refine AllReadyH.cons rfl (fun K hK => ?_) ?_
          · go_simp
            obtain ⟨v6, hnw2⟩ : ∃ W, W = v1.alloc (.cells #[.slice ra m2' rc] 154) := ⟨_, rfl⟩
            have hst : Nx v1 v6 := hnw2 ▸ (Nx.refl v1).alloc _
            replace HC := hide (HC.out.trans hst)
            replace HLN := hide ((hst.block _ (lt_of_heap HLN.out)).trans HLN.out)
            have HLR := hide (show v6.heap[v1.heap.size]? = some (.cells #[.slice ra m2' rc] 154 (0, 0)) by rw [hnw2]; exact hnew rfl)
            rw [← hnw2]
            clear hst hnw2
            refine hK.out _ _ (HSW.out _ (Kp.of_nx HC.out)) (fun hHeld => ?_)
            clear hK K
            try simp only [Act.put, List.setIfInBounds_toArray, List.set_cons_zero, List.set_cons_succ]
            refine wpAnyH_ready (rs := [14]) (by kernel_rfl) (by simp) ?_
            refine AllReadyH.cons rfl (fun K hK => ?_) ?_
            · refine step_full rfl _ _ _ rfl el_SN encS (fun x => .string x) (fun _ => rfl) encS_one (by omega) base N so rfl (HNW.out.nx HC.out) _ s _ rfl HLN.out rfl (by have := HSL.out; omega) ?_
              intro x6 v7 hown6 hn6
              obtain ⟨N6, c6, rfl, hRd6, _⟩ := Rd.of_own encS_len rfl hown6
              have HRN := hide (hRd6.low (Nat.le_trans hbr HC.out.sz))
              have HLC := hide (own_capF hown6)
              clear hRd6 hown6 HLN
              replace HC := hide (HC.out.trans hn6)
              replace HLR := hide ((hn6.block _ (lt_of_heap HLR.out)).trans HLR.out)
              clear hn6
              refine hK.out _ _ (HSW.out _ (Kp.of_nx HC.out)) (fun hHeld => ?_)
              clear hK K
              try simp only [Act.put, List.setIfInBounds_toArray]
              refine wpAnyH_ready (rs := [26]) (by kernel_rfl) (by simp) ?_
              refine AllReadyH.cons rfl (fun K hK => ?_) ?_
              · refine step_full rfl _ _ _ rfl el_RowB encRowB (fun x => .slice x.a x.l.length x.c) (fun _ => rfl) encRowB_one (by omega) base Y rws (by rw [HYL.out]; rfl) (HYW.out.nx HC.out) _ ⟨ra, rc, rl⟩ _ rfl HLR.out HRE.out (by have := HYL.out; have := HSL.out; omega) ?_
                intro x7 v8 hown7 hn7
                obtain ⟨Y6, d6, rfl, hRd7, _⟩ := Rd.of_own encRowB_len rfl hown7
                have HRR := hide (hRd7.low (Nat.le_trans hbr HC.out.sz))
                have HLD := hide (own_capF hown7)
                clear hRd7 hown7 HLR
                replace HC := hide (HC.out.trans hn7)
                replace HRN := hide (HRN.out.nx hn7)
                clear hn7
                refine hK.out _ _ (HSW.out _ (Kp.of_nx HC.out)) (fun hHeld => ?_)
                clear hK K
                try simp only [Act.put]
                refine wpAnyH_ready (rs := [27]) (by kernel_rfl) (by simp) ?_
                refine AllReadyH.cons rfl (fun K hK => ?_) ?_
                · go_simp
                  go_at_call 89
                  have hcall := IHH.out (i + 1) (by omega) (by omega) (so ++ [s]) N6 c6 (rws ++ [⟨ra, rc, rl⟩]) Y6 d6 acc' v8 (hnw.trans HC.out) (Nat.le_trans hbr HC.out.sz) (HSW.out _ (Kp.of_nx HC.out)).1 ⟨(HC.out.block qM (lt_of_heap HBE2.out.1)).trans HBE2.out.1, BestR.step HBE2.out HC.out⟩ HRN.out HLC.out (by have := HSL.out; rw [List.length_append, List.length_singleton]; omega) HRR.out HLD.out HYE2.out (by have := HYL.out; rw [List.length_append, List.length_append, List.length_singleton, List.length_singleton]; omega) HYR2.out
                  rw [show ((i + 1 : Nat) : Int) = (i : Int) + 1 from by omega, show (so ++ [s]).length = so.length + 1 from by rw [List.length_append, List.length_singleton], show (rws ++ [(⟨ra, rc, rl⟩ : RowB)]).length = rws.length + 1 from by rw [List.length_append, List.length_singleton]] at hcall
                  refine hcall.mono ?_
                  clear hcall
                  rintro e w7 ⟨rfl, hb7, hk7⟩
                  have HB7 := hide hb7
                  have HK7 := hide hk7
                  clear hb7 hk7
                  go_simp
                  refine hK.out _ _ (HSW.out _ ((Kp.of_nx HC.out).trans HK7.out)) (fun hHeld => ?_)
                  clear hK K
                  try simp only [Act.put, List.setIfInBounds_toArray, List.set_cons_zero, List.set_cons_succ]
                  refine wpAnyH_done (by kernel_rfl) ?_ _
                  go_wp2_with fail
                  go_roundw
                  case rel => exact ⟨i + 1, _, by omega, by omega, by go_num, HB7.out, HKP.out.trans ((Kp.of_nx HC.out).trans HK7.out), by rw [← HQ.out, HD.out]⟩
                  case measure => simp [intOf]; omega
                exact AllReadyH.nil
              exact AllReadyH.nil
            exact AllReadyH.nil
          exact AllReadyH.nil
        refine AllReadyH.cons rfl (fun K hK => ?_) ?_
        · go_simp
          obtain ⟨v10, hnw2⟩ : ∃ W, W = wd.alloc (.cells #[.slice ra m2' rc] 154) := ⟨_, rfl⟩
          have hst : Nx wd v10 := hnw2 ▸ (Nx.refl wd).alloc _
          replace HC := hide (HC.out.trans hst)
          have HLR := hide (show v10.heap[wd.heap.size]? = some (.cells #[.slice ra m2' rc] 154 (0, 0)) by rw [hnw2]; exact hnew rfl)
          rw [← hnw2]
          clear hst hnw2
          refine hK.out _ _ (HSW.out _ (Kp.of_nx HC.out)) (fun hHeld => ?_)
          clear hK K
          try simp only [Act.put, List.setIfInBounds_toArray, List.set_cons_zero, List.set_cons_succ]
          refine wpAnyH_ready (rs := [13]) (by kernel_rfl) (by simp) ?_
          refine AllReadyH.cons rfl (fun K hK => ?_) ?_
          · go_simp
            obtain ⟨v11, hnw2⟩ : ∃ W, W = v10.alloc (.cells #[.string s] 9) := ⟨_, rfl⟩
            have hst : Nx v10 v11 := hnw2 ▸ (Nx.refl v10).alloc _
            replace HC := hide (HC.out.trans hst)
            replace HLR := hide ((hst.block _ (lt_of_heap HLR.out)).trans HLR.out)
            have HLN := hide (show v11.heap[v10.heap.size]? = some (.cells #[.string s] 9 (0, 0)) by rw [hnw2]; exact hnew rfl)
            rw [← hnw2]
            clear hst hnw2
            refine hK.out _ _ (HSW.out _ (Kp.of_nx HC.out)) (fun hHeld => ?_)
            clear hK K
            try simp only [Act.put, List.setIfInBounds_toArray, List.set_cons_zero, List.set_cons_succ]
            refine wpAnyH_ready (rs := [14]) (by kernel_rfl) (by simp) ?_
            refine AllReadyH.cons rfl (fun K hK => ?_) ?_
            · refine step_full rfl _ _ _ rfl el_SN encS (fun x => .string x) (fun _ => rfl) encS_one (by omega) base N so rfl (HNW.out.nx HC.out) _ s _ rfl HLN.out rfl (by have := HSL.out; omega) ?_
              intro x6 v12 hown6 hn6
              obtain ⟨N6, c6, rfl, hRd6, _⟩ := Rd.of_own encS_len rfl hown6
              have HRN := hide (hRd6.low (Nat.le_trans hbr HC.out.sz))
              have HLC := hide (own_capF hown6)
              clear hRd6 hown6 HLN
              replace HC := hide (HC.out.trans hn6)
              replace HLR := hide ((hn6.block _ (lt_of_heap HLR.out)).trans HLR.out)
              clear hn6
              refine hK.out _ _ (HSW.out _ (Kp.of_nx HC.out)) (fun hHeld => ?_)
              clear hK K
              try simp only [Act.put, List.setIfInBounds_toArray]
              refine wpAnyH_ready (rs := [26]) (by kernel_rfl) (by simp) ?_
              refine AllReadyH.cons rfl (fun K hK => ?_) ?_
              · refine step_full rfl _ _ _ rfl el_RowB encRowB (fun x => .slice x.a x.l.length x.c) (fun _ => rfl) encRowB_one (by omega) base Y rws (by rw [HYL.out]; rfl) (HYW.out.nx HC.out) _ ⟨ra, rc, rl⟩ _ rfl HLR.out HRE.out (by have := HYL.out; have := HSL.out; omega) ?_
                intro x7 v13 hown7 hn7
                obtain ⟨Y6, d6, rfl, hRd7, _⟩ := Rd.of_own encRowB_len rfl hown7
                have HRR := hide (hRd7.low (Nat.le_trans hbr HC.out.sz))
                have HLD := hide (own_capF hown7)
                clear hRd7 hown7 HLR
                replace HC := hide (HC.out.trans hn7)
                replace HRN := hide (HRN.out.nx hn7)
                clear hn7
                refine hK.out _ _ (HSW.out _ (Kp.of_nx HC.out)) (fun hHeld => ?_)
                clear hK K
                try simp only [Act.put]
                refine wpAnyH_ready (rs := [27]) (by kernel_rfl) (by simp) ?_
                refine AllReadyH.cons rfl (fun K hK => ?_) ?_
                · go_simp
                  go_at_call 89
                  have hcall := IHH.out (i + 1) (by omega) (by omega) (so ++ [s]) N6 c6 (rws ++ [⟨ra, rc, rl⟩]) Y6 d6 acc' v13 (hnw.trans HC.out) (Nat.le_trans hbr HC.out.sz) (HSW.out _ (Kp.of_nx HC.out)).1 ⟨(HC.out.block qM (lt_of_heap HBE2.out.1)).trans HBE2.out.1, BestR.step HBE2.out HC.out⟩ HRN.out HLC.out (by have := HSL.out; rw [List.length_append, List.length_singleton]; omega) HRR.out HLD.out HYE2.out (by have := HYL.out; rw [List.length_append, List.length_append, List.length_singleton, List.length_singleton]; omega) HYR2.out
                  rw [show ((i + 1 : Nat) : Int) = (i : Int) + 1 from by omega, show (so ++ [s]).length = so.length + 1 from by rw [List.length_append, List.length_singleton], show (rws ++ [(⟨ra, rc, rl⟩ : RowB)]).length = rws.length + 1 from by rw [List.length_append, List.length_singleton]] at hcall
                  refine hcall.mono ?_
                  clear hcall
                  rintro e w7 ⟨rfl, hb7, hk7⟩
                  have HB7 := hide hb7
                  have HK7 := hide hk7
                  clear hb7 hk7
                  go_simp
                  refine hK.out _ _ (HSW.out _ ((Kp.of_nx HC.out).trans HK7.out)) (fun hHeld => ?_)
                  clear hK K
                  try simp only [Act.put, List.setIfInBounds_toArray, List.set_cons_zero, List.set_cons_succ]
                  refine wpAnyH_done (by kernel_rfl) ?_ _
                  go_wp2_with fail
                  go_roundw
                  case rel => exact ⟨i + 1, _, by omega, by omega, by go_num, HB7.out, HKP.out.trans ((Kp.of_nx HC.out).trans HK7.out), by rw [← HQ.out, HD.out]⟩
                  case measure => simp [intOf]; omega
                exact AllReadyH.nil
              exact AllReadyH.nil
            exact AllReadyH.nil
          exact AllReadyH.nil
        exact AllReadyH.nil
      · obtain rfl : n = i := by omega
        have hT : acc' = T := by rw [← HQ.out, List.drop_of_length_le (by have := HSN.out; omega)]; rfl
        subst hT
        obtain ⟨_, _, x3, _⟩ := HBX.out wr hnw
        go_wp2_with fail
        go_end0
        exact ⟨rfl, HBE2.out, HKP.out⟩
end
end Go.Proofs.YtbjbeddjaajdaaaGreatDoor
