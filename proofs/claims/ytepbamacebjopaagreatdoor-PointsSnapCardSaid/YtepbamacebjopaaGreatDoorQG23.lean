/- Which nodes belong together: the program's Islands (gen_calls.py isl.src). -/
import Derived.Test.YtepbamacebjopaaGreatDoorQRchW
import Derived.Test.YtepbamacebjopaaGreatDoorQCheckR
import Derived.Test.YtepbamacebjopaaGreatDoorQG12
import Derived.Test.YtepbamacebjopaaGreatDoorQG0
import Derived.Test.YtepbamacebjopaaGreatDoorQG15
import Derived.Deep.Onto
import Derived.Test.YtepbamacebjopaaGreatDoorQG17
import Derived.Test.YtepbamacebjopaaGreatDoorQG19
namespace Go.Proofs.YtepbamacebjopaaGreatDoor
open Go.RowKit Go.Maps

structure RowS where
  a : Option Addr
  c : Nat
  l : List ByteArray
instance : Inhabited RowS := ⟨⟨none, 0, []⟩⟩
def encRS (r : RowS) : List Value := [.slice r.a r.l.length r.c]
theorem encRS_len (r : RowS) : (encRS r).length = 1 := rfl
theorem encRS_one (x : RowS) : ∀ v ∈ encRS x, v.oneCell' = true := by
  intro v hv; simp [encRS] at hv; subst hv; rfl
theorem el_RSS : ElemOf Tryz.prog 47 34 1 24 := ElemOf.mk' (z := .slice none 0 0) Tryz.underlying47 (by kernel_rfl) rfl
def OwnRowsS (w : World) (base : Nat) (es : List RowS) : Prop := ∀ r ∈ es, w.ownsRow base 9 1 (.slice r.a r.l.length r.c) r.l.length (r.l.flatMap encS)
theorem OwnRowsS.gr {w w' : World} {base s : Nat} {es : List RowS} (h : OwnRowsS w base es) (hn : Gr s w w') (hs : s < base) : OwnRowsS w' base es := fun r hr => own_gr (h r hr) hn hs
/-- Both ways. -/
def Both (rs : List Arc) (a b : ByteArray) : Prop := ReachE (edgesB false rs) a b ∧ ReachE (edgesB true rs) a b
open Classical in
noncomputable def rowI (P : ByteArray → Prop) (ns : List Node) : List ByteArray := (ns.filter fun x => decide (P x.key)).map (·.key)
theorem rowI_yes {P : ByteArray → Prop} {x : Node} {l : List Node} (h : P x.key) : rowI P (x :: l) = x.key :: rowI P l := by
  unfold rowI; rw [List.filter_cons_of_pos (by simpa using h)]; rfl
theorem rowI_no {P : ByteArray → Prop} {x : Node} {l : List Node} (h : ¬ P x.key) : rowI P (x :: l) = rowI P l := by
  unfold rowI; rw [List.filter_cons_of_neg (by simpa using h)]
theorem rowI_drop {P : ByteArray → Prop} {ns : List Node} {j : Nat} (hj : j < ns.length) : (P ns[j].key → rowI P (ns.drop j) = ns[j].key :: rowI P (ns.drop (j + 1))) ∧ (¬ P ns[j].key → rowI P (ns.drop j) = rowI P (ns.drop (j + 1))) := by
  rw [List.drop_eq_getElem_cons hj]
  exact ⟨rowI_yes, rowI_no⟩
def islL (R : ByteArray → List ByteArray) : List Node → List ByteArray → List (List ByteArray)
  | [], _ => []
  | x :: l, T => if (seenF T x.key).isSome then islL R l T else R x.key :: islL R l (T ++ R x.key)
theorem islL_drop {R : ByteArray → List ByteArray} {ns : List Node} {j : Nat} (hj : j < ns.length) (T : List ByteArray) : (ns[j].key ∈ T → islL R (ns.drop j) T = islL R (ns.drop (j + 1)) T) ∧ (ns[j].key ∉ T → islL R (ns.drop j) T = R ns[j].key :: islL R (ns.drop (j + 1)) (T ++ R ns[j].key)) := by
  rw [List.drop_eq_getElem_cons hj]
  constructor
  · intro h; rw [islL, seenF_in h]; rfl
  · intro h; rw [islL, seenF_out h]; rfl
noncomputable def islandsL (ns : List Node) (rs : List Arc) : List (List ByteArray) := islL (fun a => rowI (Both rs a) ns) ns []
def IslOut (w : World) (L : List (List ByteArray)) (e : Ending) (w' : World) : Prop := ∃ (v : Value) (es : List RowS), e = .returned (.tuple #[v, .int .i64 0]) ∧ es.map (·.l) = L ∧ w'.ownsRow w.heap.size 34 1 v es.length (es.flatMap encRS) ∧ OwnRowsS w' w.heap.size es ∧ Nx w w'
set_option maxRecDepth 100000 in
set_option maxHeartbeats 8000000 in
theorem w_Islands (lo : Nat) (A B C : Option Addr) (ca cb cc : Nat) (ns : List Node) (rs : List Arc) (bs : List Ban) (w : World)
    (hN : Rd w lo A 3 encNode ns) (hA : RdArcs w lo B rs) (hB : Rd w lo C 2 encBan bs) (hnl : ns.length ≤ 400) (hal : rs.length ≤ 400) (hbl : bs.length ≤ 400)
    (hS : SmallN ns) (hF : roadsF ns rs bs = 0) :
    Calls Tryz.prog 10 #[.agg #[.slice A ns.length ca, .slice B rs.length cb, .slice C bs.length cc]] w (IslOut w (islandsL ns rs)) := by
  obtain ⟨wa, hwa⟩ : ∃ wa, wa = w.alloc (.cells #[.slice A ns.length ca, .slice B rs.length cb, .slice C bs.length cc] 30) := ⟨_, rfl⟩
  have hna : Nx w wa := hwa ▸ (Nx.refl w).alloc _
  have hgw : w.heap.size < wa.heap.size := by rw [hwa]; simp
  have b0 : wa.cell? ⟨w.heap.size, 0, none⟩ = some (.slice A ns.length ca) := by rw [hwa]; go_simp
  have b1 : wa.cell? ⟨w.heap.size, 1, none⟩ = some (.slice B rs.length cb) := by rw [hwa]; go_simp
  have b2 : wa.cell? ⟨w.heap.size, 2, none⟩ = some (.slice C bs.length cc) := by rw [hwa]; go_simp
  have hBox : BoxR wa w.heap.size lo A B C ca cb cc ns rs bs := ⟨b0, b1, b2, hgw, hN.nx hna, hA.nx hna, hB.nx hna, hnl, hal, hbl⟩
  have hOK := newOk_of hF
  have HC := hide (w_CheckRoads lo lo lo A B C ca cb cc ns rs bs wa hBox.hN hS hBox.nl hBox.hA hBox.al hBox.hB hBox.bl)
  rw [hF] at HC
  have HRE := hide (fun (back : Bool) k (hk : domS k) W (hx : Nx wa W) => w_roadReached W w.heap.size lo cb B rs k back (hBox.nx hx).g1 (hBox.nx hx).gl (hBox.nx hx).hA hal (fun x hx => ⟨(hOK.ka x hx).2.1, (hOK.ka x hx).2.2.1⟩) hk)
  have HKN := hide (fun j (hj : j < ns.length) => hOK.kn _ (List.getElem_mem hj))
  have HRN := hide (fun W (hx : Nx wa W) => (⟨(hBox.nx hx).g0, (hBox.nx hx).hN⟩ : W.cell? ⟨w.heap.size, 0, none⟩ = some (.slice A ns.length ca) ∧ Rd W lo A 3 encNode ns))
  clear hBox hN hA hB hF hOK hS
  obtain ⟨P, hP⟩ : ∃ P : ByteArray → ByteArray → Prop, P = Both rs := ⟨_, rfl⟩
  have HPB := hide (fun a b => (show P a b ↔ ReachE (edgesB false rs) a b ∧ ReachE (edgesB true rs) a b by rw [hP]; exact Iff.rfl))
  obtain ⟨L, hL⟩ : ∃ L, L = islandsL ns rs := ⟨_, rfl⟩
  have HLL := hide (show L = islL (fun a => rowI (P a) ns) ns [] by rw [hL, hP]; rfl)
  rw [← hL]
  clear hL hP
  have HNA := hide hna
  have HWA := hide hwa
  clear hwa hna
  have HD1 := hide (fun j (hj : j < ns.length) T => islL_drop (R := fun a => rowI (P a) ns) hj T)
  have HD2 := hide (fun a j (hj : j < ns.length) => rowI_drop (P := P a) hj)
  obtain ⟨nn, hnn⟩ : ∃ nn, nn = ns.length := ⟨_, rfl⟩
  rw [← hnn] at HC HRN hnl b0 ⊢
  rw [← hnn] at HWA
  have HNN := hide hnn
  clear hnn
  have hmm := @run_makeMap Tryz.prog
  go_enter Tryz.func10, Tryz.ntmps10
  go_upto_region 1 with fail
  rw [← HWA.out]
  obtain ⟨g, hg⟩ : ∃ g, g = w.heap.size := ⟨_, rfl⟩
  rw [← hg] at HRE HRN hgw b0 b1 b2 ⊢
  have HG := hide hg
  clear hg
  go_wp2_with fail
  refine HC.out.mono ?_
  rintro e w1 ⟨rfl, hn1⟩
  have g0c : ∀ o, (w1.alloc o).cell? ⟨g, 0, none⟩ = some (.slice A nn ca) := fun o => (HRN.out _ (hn1.alloc o)).1
  have HN1 := hide hn1
  clear hn1 HC b0 b1 b2
  go_wp2_with fail
  clear g0c hmm
  obtain ⟨b, hb⟩ : ∃ b, b = w1.heap.size := ⟨_, rfl⟩
  obtain ⟨w5, hw5⟩ : ∃ w5, w5 = w1.alloc (.map #[] 0) := ⟨_, rfl⟩
  have HN5 := hide (show Nx wa w5 from hw5 ▸ HN1.out.alloc _)
  have hM0 : MgSB w5 b 0 (seenF []) := by rw [hw5, hb, show seenF [] = fun _ => none from funext fun _ => rfl]; exact MgI.made w1
  have HM0 := hide hM0
  have HB5 := hide (show b < w5.heap.size ∧ wa.heap.size ≤ b from ⟨by rw [hw5, hb]; simp, by rw [hb]; exact HN1.out.sz⟩)
  rw [← hw5, ← hb]
  clear hw5 hb hM0 HN1
  have HNG := hide (fun W (hg : Gr b w5 W) => (HN5.out.grown (row := some b) hg (fun k e => by injection e with e; have := HB5.out.2; omega)))
  go_loopw [5, 23] (fun v u wr => ∃ (j : Nat) (es : List RowS) (T : List ByteArray) (N : Nat), j ≤ nn ∧ u = .int .i64 j ∧ L = es.map (·.l) ++ islL (fun a => rowI (P a) ns) (ns.drop j) T ∧ wr.ownsRow w5.heap.size 34 1 v es.length (es.flatMap encRS) ∧ OwnRowsS wr w5.heap.size es ∧ MgSB wr b N (seenF T) ∧ N ≤ j * 400 ∧ es.length ≤ j ∧ Gr b w5 wr) (fun _ u _ => nn - (intOf u).toNat)
  case atStart => exact ⟨0, [], [], 0, Nat.zero_le _, rfl, HLL.out, World.ownsRow_nil _ _ _ _, fun r hr => absurd hr (by simp), HM0.out, Nat.zero_le _, Nat.le_refl _, Gr.refl _ _⟩
  case round =>
    obtain ⟨j, es, T, N, hj, rfl, hq, hown, hrows, hM, hNj, hes, hgw5⟩ := hrel
    have HQ := hide hq
    have HO := hide hown
    have HRS := hide hrows
    have HM := hide hM
    have HGW := hide hgw5
    have hnw := HNG.out wr hgw5
    have HNW := hide hnw
    clear hq hown hrows hM hgw5
    by_cases hlt : j < nn
    · have hjl : j < ns.length := by have := HNN.out; omega
      obtain ⟨nb, noff, rfl, _, hnb, _, hc⟩ := (HRN.out wr hnw).2.open_ (Nx.refl wr) (by omega)
      have c0 : wr.cell? ⟨nb, noff + j * 3, none⟩ = some (.string ns[j].key) := hc j hjl 0 _ rfl
      have c1 : wr.cell? ⟨nb, noff + j * 3 + 1, none⟩ = some (.int .i64 ns[j].x) := hc j hjl 1 _ rfl
      have c2 : wr.cell? ⟨nb, noff + j * 3 + 2, none⟩ = some (.int .i64 ns[j].y) := hc j hjl 2 _ rfl
      have HDK := hide (HKN.out j hjl)
      have HD := hide (HD1.out j hjl T)
      have hgr : g < wr.heap.size := Nat.lt_of_lt_of_le hgw hnw.sz
      have HNC := hide (fun W (hx : Nx wa W) i (hi : i < ns.length) => (show W.cell? ⟨nb, noff + i * 3, none⟩ = some (.string ns[i].key) ∧ W.cell? ⟨nb, noff + i * 3 + 1, none⟩ = some (.int .i64 ns[i].x) ∧ W.cell? ⟨nb, noff + i * 3 + 2, none⟩ = some (.int .i64 ns[i].y) from by
        obtain ⟨b', o', e, _, _, _, hc⟩ := (HRN.out W hx).2.open_ (Nx.refl W) (by have := HNN.out; omega)
        injection e with e
        injection e with e1 e2
        subst e1 e2
        exact ⟨hc i hi 0 _ rfl, hc i hi 1 _ rfl, hc i hi 2 _ rfl⟩))
      clear hc hnw
      generalize ns[j] = x at *
      have i1 : (0 : Int) ≤ (j : Int) := by omega
      have i2 : (j : Int) < (nn : Int) := by omega
      obtain ⟨wk, hwk⟩ : ∃ wk, wk = wr.alloc (.cells #[.string x.key, .int .i64 x.x, .int .i64 x.y] 74) := ⟨_, rfl⟩
      have hnk : Nx wr wk := hwk ▸ (Nx.refl wr).alloc _
      have d0 : wk.cell? ⟨wr.heap.size, 0, none⟩ = some (.string x.key) := by rw [hwk]; go_simp
      have HAR := hide (show wr.heap.size < wk.heap.size by rw [hwk]; simp)
      have HNK := hide hnk
      have HMK := hide (HM.out.nx hnk)
      have HWK := hide hwk
      clear hwk hnk
      by_cases hv : x.key ∈ T
      · have HSE := hide (seenF_in hv)
        have HEQ := hide (HD.out.1 hv)
        clear hv
        go_upto_region 9 with fail
        rw [← HWK.out]
        go_wp2_with (at_lookup; go_must (refine wpMgLook _ rfl _ _ _ rfl boolR law_strR Tryz.underlying87 (z := false) trivial (zeroBoolR _) b _ _ rfl HMK.out x.key rfl HDK.out _ (keyS_mk Tryz.underlying9 HDK.out) ?_); (rw [HSE.out]))
        go_roundw
        case rel => exact ⟨j + 1, es, T, N, by omega, by go_num, by rw [HQ.out, HEQ.out], own_nx HO.out HNK.out, fun r hr => own_nx (HRS.out r hr) HNK.out, HMK.out, by omega, by omega, HGW.out.then_nx HNK.out⟩
        case measure => simp [intOf]; omega
      · have HSE := hide (seenF_out hv)
        have HEQ := hide (show islL (fun a => rowI (P a) ns) (ns.drop j) T = rowI (P x.key) ns :: islL (fun a => rowI (P a) ns) (ns.drop (j + 1)) (T ++ rowI (P x.key) ns) from HD.out.2 hv)
        clear hv HD
        go_upto_region 9 with fail
        rw [← HWK.out]
        clear c0 c1 c2
        have HAK := hide (fun W (hx : Nx wk W) => (nx_cell hx HAR.out d0 : W.cell? ⟨wr.heap.size, 0, none⟩ = some (.string x.key)))
        go_wp2_with (at_lookup; go_must (refine wpMgLook _ rfl _ _ _ rfl boolR law_strR Tryz.underlying87 (z := false) trivial (zeroBoolR _) b _ _ rfl HMK.out x.key rfl HDK.out _ (keyS_mk Tryz.underlying9 HDK.out) ?_); (rw [HSE.out]))
        have HBA := hide (show b < wr.heap.size from HM.out.lt)
        generalize wr.heap.size = ar at *
        refine wp_region_held_drew (S := fun w' => w'.cell? ⟨ar, 0, none⟩ = some (.string x.key)) (by kernel_rfl) ?_ (fun hHeld => ?_)
        · exact HAK.out _ (Nx.refl _).drew
        have hxC := (Nx.refl wk).drew
        refine wpAnyH_take (i := 0) (oi := ⟨some 31, _, _, _, _, _⟩) (v := ?_) rfl (by kernel_rfl) (by kernel_rfl) (by kernel_rfl) (fun _ _ _ h => h) (Or.inl ⟨by rfl, ?_⟩) (by assumption) ?_
        rotate_left 1
        · intro w hSw
          (try dsimp only at hSw)
          go_simp
          try with_reducible rfl
        try simp only [Act.put, List.setIfInBounds_toArray, List.set_cons_zero, List.set_cons_succ]
        refine wpAnyH_take (i := 1) (oi := ⟨some 32, _, _, _, _, _⟩) (v := ?_) rfl (by kernel_rfl) (by kernel_rfl) (by kernel_rfl) (fun _ _ _ h => h) (Or.inl ⟨by rfl, ?_⟩) (by assumption) ?_
        rotate_left 1
        · intro w hSw
          (try dsimp only at hSw)
          go_simp
          try with_reducible rfl
        try simp only [Act.put, List.setIfInBounds_toArray, List.set_cons_zero, List.set_cons_succ]
        refine wpAnyH_take (i := 3) (oi := ⟨some 34, _, _, _, _, _⟩) (v := ?_) rfl (by kernel_rfl) (by kernel_rfl) (by kernel_rfl) (fun _ _ _ h => h) (Or.inl ⟨by rfl, ?_⟩) (by assumption) ?_
        rotate_left 1
        · intro w hSw
          (try dsimp only at hSw)
          go_simp
          try with_reducible rfl
        try simp only [Act.put, List.setIfInBounds_toArray, List.set_cons_zero, List.set_cons_succ]
        refine wpAnyH_take (i := 4) (oi := ⟨some 35, _, _, _, _, _⟩) (v := ?_) rfl (by kernel_rfl) (by kernel_rfl) (by kernel_rfl) (fun _ _ _ h => h) (Or.inl ⟨by rfl, ?_⟩) (by assumption) ?_
        rotate_left 1
        · intro w hSw
          (try dsimp only at hSw)
          go_simp
          try with_reducible rfl
        try simp only [Act.put, List.setIfInBounds_toArray, List.set_cons_zero, List.set_cons_succ]
        refine wpAnyH_ready (rs := [2]) (by kernel_rfl) (by simp) ?_
        refine AllReadyH.cons rfl (fun K hK => ?_) AllReadyH.nil
        go_simp
        go_at_call 37
        refine (HRE.out false x.key HDK.out _ ((HNW.out.trans HNK.out).trans hxC)).mono ?_
        rintro e w3 ⟨m1, N1, f1, rfl, hm1, hM1, hN1, hn3, hf1⟩
        have hm1 := Nat.le_trans hxC.sz hm1
        replace hxC := hxC.trans hn3
        go_simp
        refine hK.out _ _ (HAK.out _ hxC) (fun hHeld => ?_)
        clear hK K
        try simp only [Act.put, List.setIfInBounds_toArray, List.set_cons_zero, List.set_cons_succ]
        refine wpAnyH_ready (rs := [5]) (by kernel_rfl) (by simp) ?_
        refine AllReadyH.cons rfl (fun K hK => ?_) AllReadyH.nil
        go_simp
        go_at_call 37
        refine (HRE.out true x.key HDK.out _ ((HNW.out.trans HNK.out).trans hxC)).mono ?_
        rintro e w4 ⟨m2, N2, f2, rfl, hm2, hM2, hN2, hn4, hf2⟩
        have hm2 := Nat.le_trans hxC.sz hm2
        replace hxC := hxC.trans hn4
        go_simp
        refine hK.out _ _ (HAK.out _ hxC) (fun hHeld => ?_)
        clear hK K
        try simp only [Act.put, List.setIfInBounds_toArray, List.set_cons_zero, List.set_cons_succ]
        refine wpAnyH_take (i := 6) (oi := ⟨some 9, _, _, _, _, _⟩) (v := ?_) rfl (by kernel_rfl) (by kernel_rfl) (by kernel_rfl) (fun _ _ _ h => h) (Or.inl ⟨by rfl, ?_⟩) (by assumption) ?_
        rotate_left 1
        · intro w hSw
          (try dsimp only at hSw)
          go_simp
          try with_reducible rfl
        try simp only [Act.put, List.setIfInBounds_toArray, List.set_cons_zero, List.set_cons_succ]
        refine wpAnyH_take (i := 7) (oi := ⟨some 10, _, _, _, _, _⟩) (v := ?_) rfl (by kernel_rfl) (by kernel_rfl) (by kernel_rfl) (fun _ _ _ h => h) (Or.inl ⟨by rfl, ?_⟩) (by assumption) ?_
        rotate_left 1
        · intro w hSw
          (try dsimp only at hSw)
          go_simp
          try with_reducible rfl
        try simp only [Act.put, List.setIfInBounds_toArray, List.set_cons_zero, List.set_cons_succ]
        refine wpAnyH_done (by kernel_rfl) ?_ _
        have hba := HBA.out
        have har := HAR.out
        have HL1 := hide (fun W (hg : Gr b w4 W) => (hM1.nx hn4).gr hg (show m1 ≠ b by omega))
        have HL2 := hide (fun W (hg : Gr b w4 W) => hM2.gr hg (show m2 ≠ b by omega))
        have HF1 := hide hf1
        have HF2 := hide hf2
        have HMO := hide (HMK.out.nx hxC)
        have HOO := hide (own_nx (own_nx HO.out HNK.out) hxC)
        have HRR := hide (fun r hr => own_nx (own_nx (HRS.out r hr) HNK.out) hxC)
        have hgo : Gr b w5 w4 := (HGW.out.then_nx HNK.out).then_nx hxC
        have HGO := hide hgo
        have HBO := hide (show b < w4.heap.size from HMO.out.lt)
        have HSO := hide hgo.sz
        have HNX := hide (fun W (hg : Gr b w4 W) => HNG.out W (hgo.trans hg))
        have g0c : w4.cell? ⟨g, 0, none⟩ = some (.slice (some ⟨nb, noff, none⟩) nn ca) := (HRN.out _ (HNG.out _ hgo)).1
        obtain ⟨wo, hwo⟩ : ∃ wo, wo = w4 := ⟨_, rfl⟩
        subst hwo
        obtain ⟨ROW, hROW⟩ : ∃ ROW, ROW = rowI (P x.key) ns := ⟨_, rfl⟩
        rw [← hROW] at HEQ
        have HROW := hide hROW
        clear hROW hM1 hM2 hf1 hf2 hn3 hn4 hm1 hm2 hxC hgo hba har d0 HAK HMK
        go_wp2_with fail
        clear g0c
        go_loopw [11, 40] (fun vr u wi => ∃ (i : Nat) (acc : List ByteArray) (N' : Nat), i ≤ nn ∧ u = .int .i64 i ∧ ROW = acc ++ rowI (P x.key) (ns.drop i) ∧ acc.length ≤ i ∧ wi.ownsRow wo.heap.size 9 1 vr acc.length (acc.flatMap encS) ∧ MgSB wi b N' (seenF (T ++ acc)) ∧ N' ≤ N + i ∧ Gr b wo wi) (fun _ u _ => nn - (intOf u).toNat)
        case atStart => exact ⟨0, [], N, Nat.zero_le _, rfl, HROW.out, Nat.zero_le _, World.ownsRow_nil _ _ _ _, by rw [List.append_nil]; exact HMO.out, Nat.le_refl _, Gr.refl _ _⟩
        case round =>
          obtain ⟨i, acc, N', hi, rfl, hqr, hacc, hown, hM, hN', hgi⟩ := hrel
          have HQR := hide hqr
          have HOI := hide hown
          have HMI := hide hM
          have HGI := hide hgi
          have hwz : wo.heap.size ≤ wr.heap.size := hgi.sz
          clear hqr hown hM HROW HMO
          by_cases hil : i < nn
          · have hil' : i < ns.length := by have := HNN.out; omega
            obtain ⟨e0, e1, e2⟩ := HNC.out wr (HNX.out wr hgi) i hil'
            have HDK2 := hide (HKN.out i hil')
            have HDD := hide (HD2.out x.key i hil')
            clear hgi
            generalize ns[i] = y at *
            have j1 : (0 : Int) ≤ (i : Int) := by omega
            have j2 : (i : Int) < (nn : Int) := by omega
            obtain ⟨wy, hwy⟩ : ∃ wy, wy = wr.alloc (.cells #[.string y.key, .int .i64 y.x, .int .i64 y.y] 74) := ⟨_, rfl⟩
            have hny : Nx wr wy := hwy ▸ (Nx.refl wr).alloc _
            have k0 : wy.cell? ⟨wr.heap.size, 0, none⟩ = some (.string y.key) := by rw [hwy]; go_simp
            have HBY := hide (show wy.heap[wr.heap.size]? = some (.cells #[.string y.key, .int .i64 y.x, .int .i64 y.y] 74 (0, 0)) by rw [hwy]; exact hnew rfl)
            have HNY := hide hny
            have HGY := hide (HGI.out.then_nx hny)
            have HMY := hide (HMI.out.nx hny)
            have HOY := hide (own_nx HOI.out hny)
            have hzy : wo.heap.size ≤ wy.heap.size := Nat.le_trans hwz hny.sz
            have hl1 := HL1.out wy HGY.out
            have hl2 := HL2.out wy HGY.out
            have HY1 := hide hl1
            have HY2 := hide hl2
            have HWY := hide hwy
            clear hwy hny hl1 hl2
            go_upto_region 15 with fail
            rw [← HWY.out]
            clear e0 e1 e2
            by_cases h1 : ReachE (edgesB false rs) x.key y.key
            · have HT1 := hide ((HF1.out y.key).1 h1)
              by_cases h2 : ReachE (edgesB true rs) x.key y.key
              · have HT2 := hide ((HF2.out y.key).1 h2)
                have HQ2 := hide (HDD.out.1 ((HPB.out _ _).2 ⟨h1, h2⟩))
                clear h1 h2
                have hl2r : (Instr.lookup 87 (.map (some m2)) (.string y.key) false).run Tryz.prog wy = .ok (.bool true) wy := by
                  have h := (HY2.out.look boolR law_strR Tryz.underlying87 (z := false) trivial (zeroBoolR wy) HDK2.out (keyS_mk Tryz.underlying9 HDK2.out)).1
                  rw [HT2.out] at h
                  exact h
                have hl1r : (Instr.lookup 87 (.map (some m1)) (.string y.key) false).run Tryz.prog wy = .ok (.bool true) wy := by
                  have h := (HY1.out.look boolR law_strR Tryz.underlying87 (z := false) trivial (zeroBoolR wy) HDK2.out (keyS_mk Tryz.underlying9 HDK2.out)).1
                  rw [HT1.out] at h
                  exact h
                have hacc5 : acc.length ≤ 400 := by omega
                have hN5 : N' ≤ 1000000 := by omega
                have hbz := HBO.out
                go_wp2_with (first
                  | (at_builtin; go_must (refine wpApp2 rfl _ _ _ rfl el_RS encS encS_len encS_one (by omega) (by omega) wo.heap.size _ acc rfl (HOY.out.alloc _) _ y.key _ rfl (hnew rfl) rfl (by omega) (by simp; omega) ?_); intro v9 w9 hown9 hg9 _; (have HO9 := hide hown9); (have HG9 := hide hg9); (have hb9 := (hg9.block wr.heap.size (by have h := (Array.getElem?_eq_some_iff.1 HBY.out).1; simp; omega) (fun e => own_neR HOY.out HBY.out (by decide) e.symm)).trans ((((Nx.refl wy).alloc _).block _ (Array.getElem?_eq_some_iff.1 HBY.out).1).trans HBY.out)); (have y9 : w9.cell? ⟨wr.heap.size, 0, none⟩ = some (.string y.key) := (cell_of_row w9 _ 0 _ _ _ hb9).trans rfl); (have HM9 := hide ((HMY.out.nx ((Nx.refl wy).alloc _)).grown hg9 (fun e => by have := (HOY.out.lt b e.symm).1; omega))); clear hown9 hg9 hb9)
                  | (at_mapUpdate; go_must (refine wpMgPut _ rfl _ _ _ _ rfl boolR law_strR strV_inj Tryz.underlying87 b _ _ rfl HM9.out (by unfold maxLen; omega) y.key rfl HDK2.out _ (keyS_mk Tryz.underlying9 HDK2.out) true rfl trivial ?_); intro w8 hM8 hg8; (have HM8 := hide hM8); (have HG8 := hide hg8); clear hM8 hg8))
                go_roundw
                case rel =>
                  refine ⟨i + 1, acc ++ [y.key], N' + 1, by omega, by go_num, by rw [HQR.out, HQ2.out]; simp, by simp; omega, own_gr HO9.out HG8.out HBO.out, ?_, by omega, ?_⟩
                  · rw [← List.append_assoc, seenF_add]
                    exact HM8.out
                  · exact ((HGY.out.alloc _).grown HG9.out (fun k hk => .inr (HOY.out.lt k hk).1)).trans HG8.out
                case measure => simp [intOf]; omega
              · have HT2 := hide ((HF2.out y.key).2 h2)
                have HQ2 := hide (HDD.out.2 (fun h => h2 ((HPB.out _ _).1 h).2))
                clear h1 h2
                have hl2r : (Instr.lookup 87 (.map (some m2)) (.string y.key) false).run Tryz.prog wy = .ok (.bool false) wy := by
                  have h := (HY2.out.look boolR law_strR Tryz.underlying87 (z := false) trivial (zeroBoolR wy) HDK2.out (keyS_mk Tryz.underlying9 HDK2.out)).1
                  rw [HT2.out] at h
                  exact h
                have hl1r : (Instr.lookup 87 (.map (some m1)) (.string y.key) false).run Tryz.prog wy = .ok (.bool true) wy := by
                  have h := (HY1.out.look boolR law_strR Tryz.underlying87 (z := false) trivial (zeroBoolR wy) HDK2.out (keyS_mk Tryz.underlying9 HDK2.out)).1
                  rw [HT1.out] at h
                  exact h
                go_wp2_with fail
                go_roundw
                case rel => exact ⟨i + 1, acc, N', by omega, by go_num, by rw [HQR.out, HQ2.out], by omega, HOY.out, HMY.out, by omega, HGY.out⟩
                case measure => simp [intOf]; omega
            · have HT1 := hide ((HF1.out y.key).2 h1)
              have HQ2 := hide (HDD.out.2 (fun h => h1 ((HPB.out _ _).1 h).1))
              clear h1
              have hl1r : (Instr.lookup 87 (.map (some m1)) (.string y.key) false).run Tryz.prog wy = .ok (.bool false) wy := by
                have h := (HY1.out.look boolR law_strR Tryz.underlying87 (z := false) trivial (zeroBoolR wy) HDK2.out (keyS_mk Tryz.underlying9 HDK2.out)).1
                rw [HT1.out] at h
                exact h
              go_wp2_with fail
              go_roundw
              case rel => exact ⟨i + 1, acc, N', by omega, by go_num, by rw [HQR.out, HQ2.out], by omega, HOY.out, HMY.out, by omega, HGY.out⟩
              case measure => simp [intOf]; omega
          · obtain rfl : nn = i := by omega
            have hRA : ROW = acc := by rw [HQR.out, List.drop_of_length_le (by have := HNN.out; omega)]; simp [rowI]
            obtain ⟨A', c', e', _, _⟩ := Rd.of_own encS_len rfl HOI.out
            subst e'
            have HO2 := hide (own_gr HOO.out HGI.out HB5.out.1)
            have HR2 := hide (show OwnRowsS wr w5.heap.size es from fun r hr => own_gr (HRR.out r hr) HGI.out HB5.out.1)
            have hw5 : w5.heap.size ≤ wr.heap.size := Nat.le_trans HSO.out hwz
            have HRA := hide hRA
            clear hRA hgi
            go_wp2_with (at_builtin; refine wpApp2 rfl _ _ _ rfl el_RSS encRS encRS_len encRS_one (by omega) (by omega) w5.heap.size _ es rfl (HO2.out.alloc _) _ ⟨A', c', acc⟩ _ rfl (hnew rfl) rfl (by omega) (by simp; omega) ?_; intro v9 w9 hown9 hg9 hat9; (have HO9 := hide hown9); (have HG9 := hide hg9); (have HA9 := hide hat9); clear hown9 hg9 hat9)
            go_roundw
            case rel =>
              refine ⟨j + 1, es ++ [⟨A', c', acc⟩], T ++ acc, N', by omega, by go_num, ?_, HO9.out, ?_, ?_, by omega, by simp; omega, ?_⟩
              · rw [HQ.out, HEQ.out, HRA.out]; simp
              · intro r hr
                have hI : (wr.alloc (.cells #[.slice A' acc.length c'] 34)).ownsRow w5.heap.size 9 1 (.slice r.a r.l.length r.c) r.l.length (r.l.flatMap encS) := by
                  rcases List.mem_append.1 hr with hr | hr
                  · exact (HR2.out r hr).alloc _
                  · have hr : r = ⟨A', c', acc⟩ := by simpa using hr
                    subst hr
                    exact (World.ownsRow.mono (base' := w5.heap.size) HOI.out HSO.out).alloc _
                exact hI.kept HG9.out (own_apart hI (HO2.out.alloc _) (by decide))
              · exact (HMI.out.nx ((Nx.refl wr).alloc _)).grown HG9.out (fun e => by have h1 := (HO2.out.lt b e.symm).1; have h2 := HB5.out.1; omega)
              · exact ((HGO.out.trans HGI.out).alloc _).grown HG9.out (fun k hk => .inr (HO2.out.lt k hk).1)
            case measure => simp [intOf]; omega
    · obtain rfl : nn = j := by omega
      have hMM : es.map (·.l) = L := by rw [HQ.out, List.drop_of_length_le (by have := HNN.out; omega)]; simp [islL]
      have HMM := hide hMM
      obtain ⟨Z, c, rfl, _, _⟩ := Rd.of_own encRS_len rfl HO.out
      have hle : w.heap.size ≤ w5.heap.size := Nat.le_trans HNA.out.sz HN5.out.sz
      clear hMM
      go_wp2_with fail
      go_ret2
      exact ⟨_, es, rfl, HMM.out, World.ownsRow.mono HO.out hle, fun r hr => World.ownsRow.mono (HRS.out r hr) hle, HNA.out.trans HNW.out⟩
end Go.Proofs.YtepbamacebjopaaGreatDoor
/- Knots: rows, clones. -/
namespace Go.Proofs.YtepbamacebjopaaGreatDoor
open Go.RowKit Go.Proofs Go.Shelf

theorem el_Knot : ElemOf Tryz.prog 35 78 2 16 := ElemOf.mk' (z := .agg #[.int .i64 0, .int .i64 0]) Tryz.underlying35 (by kernel_rfl) rfl
theorem encKnot_one (x : Knot) : ∀ v ∈ encKnot x, v.oneCell' = true := by
  intro v hv; simp [encKnot] at hv; rcases hv with rfl | rfl <;> rfl
set_option maxRecDepth 100000 in
set_option maxHeartbeats 400000 in
theorem w_CloneK (lo : Nat) (A : Option Addr) (c : Nat) (l : List Knot) (w : World) (hR : Rd w lo A 2 encKnot l) (hl : l.length ≤ 100000) :
    Calls Tryz.prog 46 #[.slice A l.length c] w fun e w' => ∃ v, e = .returned v ∧ w'.ownsRow w.heap.size 78 2 v l.length (l.flatMap encKnot) ∧ Nx w w' := by
  have q22 : ∀ (w : World) (a : Option Addr) (n c n' c' : Nat), (binOp .eql 35 (.slice a n c) (.slice none n' c')).run Tryz.prog w = .ok (.bool a.isNone) w := fun w a n c n' c' => Lib.run_eql_slice_nil w _ _ a n c n' c' Tryz.underlying35
  cases A with
  | none =>
    have hy : l = [] := by
      rcases l with _ | ⟨y, l⟩
      · rfl
      · obtain ⟨b, off, e, _⟩ := hR (by simp); cases e
    subst hy
    go_enter Tryz.func46, Tryz.ntmps46
    go_wp2
    go_ret
    exact ⟨_, rfl, World.ownsRow_nil _ _ _ _, Nx.refl _⟩
  | some a =>
    have hst := own_lit (w := w.alloc (.cells #[] 78)) (e := 78) (g := w.heap.size) (n := 0) (m := 0) (base := w.heap.size) (xs := ([] : List Knot)) encKnot_len (hnew rfl) (Nat.le_refl _) rfl rfl (Nat.le_refl _) (by unfold maxLen; omega)
    have HST := hide hst
    have HR := hide hR
    clear hst hR
    generalize hn : l.length = n at *
    have HN := hide hn
    clear hn
    go_enter Tryz.func46, Tryz.ntmps46
    go_wp2_with (at_builtin; refine wpAppL rfl _ _ _ rfl el_Knot encKnot encKnot_len encKnot_one (by omega) (by omega) w.heap.size _ [] rfl HST.out (some a) c l (by rw [HN.out]; rfl) (HR.out.nx ((Nx.refl _).alloc _)) (by have := HN.out; simp; omega) (by simp) ?_; intro v2 w2 hown2 hg2)
    go_ret
    rw [List.nil_append, HN.out] at hown2
    refine ⟨_, rfl, hown2, ?_⟩
    exact ((Nx.refl w).alloc _).grown hg2 (own_blk_lt HST.out)

end Go.Proofs.YtepbamacebjopaaGreatDoor
/- Roads in the making. -/
namespace Go.Proofs.YtepbamacebjopaaGreatDoor
open Go.RowKit

theorem el_NodeO : ElemOf Tryz.prog 26 74 3 32 := ElemOf.mk' (z := .agg #[.string ByteArray.empty, .int .i64 0, .int .i64 0]) Tryz.underlying26 (by kernel_rfl) rfl
theorem el_ArcO : ElemOf Tryz.prog 27 37 5 80 := ElemOf.mk' (z := .agg #[.string ByteArray.empty, .string ByteArray.empty, .string ByteArray.empty, .int .i64 0, .slice none 0 0]) Tryz.underlying27 (by kernel_rfl) rfl
theorem el_BanO : ElemOf Tryz.prog 28 80 2 32 := ElemOf.mk' (z := .agg #[.string ByteArray.empty, .string ByteArray.empty]) Tryz.underlying28 (by kernel_rfl) rfl

def rowK (a : Arc) : Value := .slice a.ka a.knots.length a.kc
/-- An arc's strings are small, its knots few. -/
def SmA (a : Arc) : Prop := a.knots.length ≤ 400 ∧ a.key.size ≤ 1000000 ∧ a.from_.size ≤ 1000000 ∧ a.to_.size ≤ 1000000
/-- Three rows of the call's own, and each arc's knots in one. -/
structure OwnR (w : World) (base : Nat) (vN vA vB : Value) (ns : List Node) (rs : List Arc) (bs : List Ban) : Prop where
  rowN : w.ownsRow base 74 3 vN ns.length (ns.flatMap encNode)
  rowA : w.ownsRow base 37 5 vA rs.length (rs.flatMap encArc)
  rowB : w.ownsRow base 80 2 vB bs.length (bs.flatMap encBan)
  each : ∀ a ∈ rs, w.ownsRow base 78 2 (rowK a) a.knots.length (a.knots.flatMap encKnot)
  smN : SmallN ns
  smA : ∀ a ∈ rs, SmA a
section
variable {w w' : World} {base : Nat} {vN vA vB : Value} {ns : List Node} {rs : List Arc} {bs : List Ban}
theorem OwnR.nil (w : World) (base : Nat) : OwnR w base (.slice none 0 0) (.slice none 0 0) (.slice none 0 0) [] [] [] :=
  ⟨World.ownsRow_nil _ _ _ _, World.ownsRow_nil _ _ _ _, World.ownsRow_nil _ _ _ _, (fun _ h => absurd h (by simp)), (fun _ h => absurd h (by simp)), (fun _ h => absurd h (by simp))⟩
theorem OwnR.gr {s : Nat} (h : OwnR w base vN vA vB ns rs bs) (hn : Gr s w w') (hs : s < base) : OwnR w' base vN vA vB ns rs bs :=
  ⟨own_gr h.rowN hn hs, own_gr h.rowA hn hs, own_gr h.rowB hn hs, fun a ha => own_gr (h.each a ha) hn hs, h.smN, h.smA⟩
theorem OwnR.nx (h : OwnR w base vN vA vB ns rs bs) (hn : Nx w w') : OwnR w' base vN vA vB ns rs bs :=
  ⟨own_nx h.rowN hn, own_nx h.rowA hn, own_nx h.rowB hn, fun a ha => own_nx (h.each a ha) hn, h.smN, h.smA⟩
theorem OwnR.low {base' : Nat} (h : OwnR w base vN vA vB ns rs bs) (hb : base' ≤ base) : OwnR w base' vN vA vB ns rs bs :=
  ⟨h.rowN.mono hb, h.rowA.mono hb, h.rowB.mono hb, fun a ha => (h.each a ha).mono hb, h.smN, h.smA⟩
theorem OwnR.appN {v' : Value} {ns' : List Node} (h : OwnR w base vN vA vB ns rs bs) (hg : w.grownBy w' vN.ownBlock) (hown : w'.ownsRow base 74 3 v' ns'.length (ns'.flatMap encNode)) (hs : SmallN ns') : OwnR w' base v' vA vB ns' rs bs :=
  ⟨hown, h.rowA.kept hg (own_apart h.rowA h.rowN (by decide)), h.rowB.kept hg (own_apart h.rowB h.rowN (by decide)), fun a ha => (h.each a ha).kept hg (own_apart (h.each a ha) h.rowN (by decide)), hs, h.smA⟩
theorem OwnR.appA {v' : Value} {rs' : List Arc} (h : OwnR w base vN vA vB ns rs bs) (hg : w.grownBy w' vA.ownBlock) (hown : w'.ownsRow base 37 5 v' rs'.length (rs'.flatMap encArc)) (hk : ∀ a ∈ rs', SmA a ∧ w.ownsRow base 78 2 (rowK a) a.knots.length (a.knots.flatMap encKnot)) : OwnR w' base vN v' vB ns rs' bs :=
  ⟨h.rowN.kept hg (own_apart h.rowN h.rowA (by decide)), hown, h.rowB.kept hg (own_apart h.rowB h.rowA (by decide)), fun a ha => (hk a ha).2.kept hg (own_apart (hk a ha).2 h.rowA (by decide)), h.smN, fun a ha => (hk a ha).1⟩
theorem OwnR.appB {v' : Value} {bs' : List Ban} (h : OwnR w base vN vA vB ns rs bs) (hg : w.grownBy w' vB.ownBlock) (hown : w'.ownsRow base 80 2 v' bs'.length (bs'.flatMap encBan)) : OwnR w' base vN vA v' ns rs bs' :=
  ⟨h.rowN.kept hg (own_apart h.rowN h.rowB (by decide)), h.rowA.kept hg (own_apart h.rowA h.rowB (by decide)), hown, fun a ha => (h.each a ha).kept hg (own_apart (h.each a ha) h.rowB (by decide)), h.smN, h.smA⟩
theorem rd_ownK {K : Nat} {α : Type} {enc : α → List Value} {xs : List α} {e : TypeId} {A : Option Addr} {n c : Nat} (hk : ∀ x, (enc x).length = K) (hn : n = xs.length) (h : w.ownsRow base e K (.slice A n c) n (xs.flatMap enc)) : Rd w base A K enc xs := by
  obtain ⟨A', c', e', hr, _⟩ := Rd.of_own hk hn h
  injection e' with e1 e2 e3
  rw [e1]; exact hr
/-- Read. -/
theorem OwnR.rd (h : OwnR w base vN vA vB ns rs bs) : ∃ A B C ca cb cc, vN = .slice A ns.length ca ∧ vA = .slice B rs.length cb ∧ vB = .slice C bs.length cc ∧ Rd w base A 3 encNode ns ∧ RdArcs w base B rs ∧ Rd w base C 2 encBan bs := by
  obtain ⟨A, ca, e1, r1, _⟩ := Rd.of_own encNode_len rfl h.rowN
  obtain ⟨B, cb, e2, r2, _⟩ := Rd.of_own encArc_len rfl h.rowA
  obtain ⟨C, cc, e3, r3, _⟩ := Rd.of_own encBan_len rfl h.rowB
  exact ⟨A, B, C, ca, cb, cc, e1, e2, e3, r1, ⟨r2, fun a ha => ⟨rd_ownK encKnot_len rfl (h.each a ha), (h.smA a ha).1, (h.smA a ha).2.1⟩⟩, r3⟩
end

def nLs : List ByteArray := [⟨#[110, 97]⟩, ⟨#[110, 98]⟩, ⟨#[110, 99]⟩, ⟨#[110, 100]⟩, ⟨#[110, 101]⟩]
theorem nLs_small : ∀ x ∈ nLs, x.size ≤ 1000000 := by
  intro x hx
  simp [nLs] at hx
  rcases hx with rfl | rfl | rfl | rfl | rfl <;> decide
/-- The stream's roads in the making: the call began in w0. -/
structure RM (w0 : World) (s : Nat) (w : World) (vN vA vB : Value) (ns : List Node) (rs : List Arc) (bs : List Ban) (K : Nat) : Prop where
  own : OwnR w (w0.heap.size + 3) vN vA vB ns rs bs
  box : w.heap[w0.heap.size + 1]? = some (.cells #[vN, vA, vB] 30 (0, 0))
  res : ∃ cs, w.heap[w0.heap.size]? = some (.cells cs 30 (0, 0)) ∧ cs.size = 3
  lit : w.heap[w0.heap.size + 2]? = some (.cells (nLs.map Value.string).toArray 9 (0, 0))
  gr_ : Gr s w0 w
  str : Str w s K
  slt : s < w0.heap.size
section
variable {w0 w w' : World} {s K K' : Nat} {vN vA vB : Value} {ns : List Node} {rs : List Arc} {bs : List Ban}
theorem RM.gr (h : RM w0 s w vN vA vB ns rs bs K) (hn : Gr s w w') (hS : Str w' s K') : RM w0 s w' vN vA vB ns rs bs K' := by
  have hs := h.slt
  have hl : ∀ g o, w.heap[g]? = some o → g ≠ s → w'.heap[g]? = some o := fun g o hg hne => (World.grownBy.block (row := some s) hn g (Array.getElem?_eq_some_iff.1 hg).1 (by simp; omega)).trans hg
  obtain ⟨cs, h1, h2⟩ := h.res
  exact ⟨h.own.gr hn (by omega), hl _ _ h.box (by omega), ⟨cs, hl _ _ h1 (by omega), h2⟩, hl _ _ h.lit (by omega), h.gr_.trans hn, hS, hs⟩
theorem RM.nx (h : RM w0 s w vN vA vB ns rs bs K) (hn : Nx w w') : RM w0 s w' vN vA vB ns rs bs K := h.gr (Gr.of_nx hn) (h.str.nx hn)
theorem RM.more (h : RM w0 s w vN vA vB ns rs bs K) (hk : K ≤ K') : RM w0 s w vN vA vB ns rs bs K' := { h with str := h.str.more hk }
theorem RM.sz (h : RM w0 s w vN vA vB ns rs bs K) : w0.heap.size + 2 < w.heap.size := (Array.getElem?_eq_some_iff.1 h.lit).1
/-- A row is written, then the box. -/
theorem RM.set {v' : Value} {j : Nat} {b : Option Nat} (h : RM w0 s w vN vA vB ns rs bs K) (hg : w.grownBy w' b) (hb : ∀ k, b = some k → w0.heap.size + 3 ≤ k) {vN' vA' vB' : Value} {ns' : List Node} {rs' : List Arc} {bs' : List Ban}
    (ho : OwnR w' (w0.heap.size + 3) vN' vA' vB' ns' rs' bs') (he : (#[vN, vA, vB] : Array Value).setIfInBounds j v' = #[vN', vA', vB']) :
    RM w0 s (w'.setCell ⟨w0.heap.size + 1, j, none⟩ v') vN' vA' vB' ns' rs' bs' K := by
  have hs := h.slt
  have hl : ∀ g o, w.heap[g]? = some o → g < w0.heap.size + 3 → w'.heap[g]? = some o := fun g o hg2 hne => (World.grownBy.block hg g (Array.getElem?_eq_some_iff.1 hg2).1 (fun e => by have := hb g e.symm; omega)).trans hg2
  have hset : Gr (w0.heap.size + 1) w' (w'.setCell ⟨w0.heap.size + 1, j, none⟩ v') := (Gr.refl _ _).setS (.inl rfl) _
  have hl2 : ∀ g o, w'.heap[g]? = some o → g ≠ w0.heap.size + 1 → (w'.setCell ⟨w0.heap.size + 1, j, none⟩ v').heap[g]? = some o := fun g o hg2 hne => (World.grownBy.block (row := some (w0.heap.size + 1)) hset g (Array.getElem?_eq_some_iff.1 hg2).1 (by simp; omega)).trans hg2
  obtain ⟨cs, h1, h2⟩ := h.res
  refine ⟨ho.gr hset (by omega), ?_, ⟨cs, hl2 _ _ (hl _ _ h1 (by omega)) (by omega), h2⟩, hl2 _ _ (hl _ _ h.lit (by omega)) (by omega), ?_, ?_, hs⟩
  · rw [← he]; exact heap_set (hl _ _ h.box (by omega))
  · exact (h.gr_.grown hg (fun k hk => .inr (by have := hb k hk; omega))).setS (.inr (by show w0.heap.size ≤ w0.heap.size + 1; omega)) _
  · exact (h.str.row hg (fun k hk => by have := hb k hk; omega)).row hset (fun k hk => by injection hk with hk; omega)
theorem RM.cellN (h : RM w0 s w vN vA vB ns rs bs K) : w.cell? ⟨w0.heap.size + 1, 0, none⟩ = some vN := cell_of_row w _ 0 _ _ _ h.box
theorem RM.cellA (h : RM w0 s w vN vA vB ns rs bs K) : w.cell? ⟨w0.heap.size + 1, 1, none⟩ = some vA := cell_of_row w _ 1 _ _ _ h.box
theorem RM.cellB (h : RM w0 s w vN vA vB ns rs bs K) : w.cell? ⟨w0.heap.size + 1, 2, none⟩ = some vB := cell_of_row w _ 2 _ _ _ h.box
theorem RM.blk {b : Option Nat} (h : RM w0 s w vN vA vB ns rs bs K) (hg : w.grownBy w' b) (hb : ∀ k, b = some k → w0.heap.size + 3 ≤ k) : w'.heap[w0.heap.size + 1]? = some (.cells #[vN, vA, vB] 30 (0, 0)) :=
  (World.grownBy.block hg _ (Array.getElem?_eq_some_iff.1 h.box).1 (fun e => by have := hb _ e.symm; omega)).trans h.box
end
theorem frozen_blk {w : World} {g j : Nat} {cs : Array Value} {t : TypeId} (h : w.heap[g]? = some (.cells cs t (0, 0))) : w.frozen? ⟨g, j, none⟩ = false := by simp [World.frozen?, h]
theorem blkA (w : World) (o1 o2 : Obj) : ((w.alloc o1).alloc o2).drew.heap[w.heap.size]? = some o1 := (((Nx.refl (w.alloc o1)).alloc o2).block _ (by simp)).trans (hnew rfl)
theorem blkB (w : World) (o1 o2 : Obj) : ((w.alloc o1).alloc o2).drew.heap[w.heap.size + 1]? = some o2 := hnew_drew (by simp)
end Go.Proofs.YtepbamacebjopaaGreatDoor
/- Plain: arcs that are the same but for where their knots lie. -/
namespace Go.Proofs.YtepbamacebjopaaGreatDoor

def coreA (a : Arc) : Arc := { a with ka := none, kc := 0 }
end Go.Proofs.YtepbamacebjopaaGreatDoor
/- A clone of a row of nodes; is an arc gone? -/
namespace Go.Proofs.YtepbamacebjopaaGreatDoor
open Go.RowKit Go.Proofs Go.Shelf

theorem encNode_one2 (x : Node) : ∀ v ∈ encNode x, v.oneCell' = true := by
  intro v hv; simp [encNode] at hv; rcases hv with rfl | rfl | rfl <;> rfl
set_option maxRecDepth 100000 in
set_option maxHeartbeats 400000 in
theorem w_CloneN (lo : Nat) (A : Option Addr) (c : Nat) (l : List Node) (w : World) (hR : Rd w lo A 3 encNode l) (hl : l.length ≤ 100000) :
    Calls Tryz.prog 45 #[.slice A l.length c] w fun e w' => ∃ v, e = .returned v ∧ w'.ownsRow w.heap.size 74 3 v l.length (l.flatMap encNode) ∧ Nx w w' := by
  have q22 : ∀ (w : World) (a : Option Addr) (n c n' c' : Nat), (binOp .eql 26 (.slice a n c) (.slice none n' c')).run Tryz.prog w = .ok (.bool a.isNone) w := fun w a n c n' c' => Lib.run_eql_slice_nil w _ _ a n c n' c' Tryz.underlying26
  cases A with
  | none =>
    have hy : l = [] := by
      rcases l with _ | ⟨y, l⟩
      · rfl
      · obtain ⟨b, off, e, _⟩ := hR (by simp); cases e
    subst hy
    go_enter Tryz.func45, Tryz.ntmps45
    go_wp2
    go_ret
    exact ⟨_, rfl, World.ownsRow_nil _ _ _ _, Nx.refl _⟩
  | some a =>
    have hst := own_lit (w := w.alloc (.cells #[] 74)) (e := 74) (g := w.heap.size) (n := 0) (m := 0) (base := w.heap.size) (xs := ([] : List Node)) encNode_len (hnew rfl) (Nat.le_refl _) rfl rfl (Nat.le_refl _) (by unfold maxLen; omega)
    have HST := hide hst
    have HR := hide hR
    clear hst hR
    generalize hn : l.length = n at *
    have HN := hide hn
    clear hn
    go_enter Tryz.func45, Tryz.ntmps45
    go_wp2_with (at_builtin; refine wpAppL rfl _ _ _ rfl el_NodeO encNode encNode_len encNode_one2 (by omega) (by omega) w.heap.size _ [] rfl HST.out (some a) c l (by rw [HN.out]; rfl) (HR.out.nx ((Nx.refl _).alloc _)) (by have := HN.out; simp; omega) (by simp) ?_; intro v2 w2 hown2 hg2)
    go_ret
    rw [List.nil_append, HN.out] at hown2
    refine ⟨_, rfl, hown2, ?_⟩
    exact ((Nx.refl w).alloc _).grown hg2 (own_blk_lt HST.out)
set_option maxRecDepth 100000 in
set_option maxHeartbeats 1000000 in
theorem w_gone (q lo : Nat) (A : Option Addr) (c : Nat) (l : List ByteArray) (s : ByteArray) (w : World) (hq : w.cell? ⟨q, 0, none⟩ = some (.slice A l.length c)) (hR : Rd w lo A 1 encS l) (hl : l.length ≤ 65536) (hs : l.Pairwise ltS) :
    Calls Tryz.prog 43 #[.string s, .pointer (some ⟨q, 0, none⟩)] w fun e w' => e = .returned (.bool (memS l s)) ∧ Nx w w' := by
  have hb := w_BinS lo A c l s w hR hl hs
  generalize memS l s = m at *
  generalize l.length = n at *
  have HB := hide hb
  clear hb hR hs
  go_enter Tryz.func43, Tryz.ntmps43
  go_wp2_with fail
  refine HB.out.mono ?_
  rintro e w2 ⟨r, rfl, hn2⟩
  go_wp2_with fail
  go_ret
  exact ⟨rfl, hn2⟩
end Go.Proofs.YtepbamacebjopaaGreatDoor
