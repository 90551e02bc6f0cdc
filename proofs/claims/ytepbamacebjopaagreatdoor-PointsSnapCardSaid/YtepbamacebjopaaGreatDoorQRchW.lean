/- Which nodes one comes to: the program's reached. -/
import Derived.Test.YtepbamacebjopaaGreatDoorQG21
import Derived.Test.YtepbamacebjopaaGreatDoorQG10
import Derived.Test.YtepbamacebjopaaGreatDoorQG15
import Derived.Test.YtepbamacebjopaaGreatDoorQG18
import Derived.Deep.RegionHeld
import Derived.Deep.AppendLies
import Derived.Deep.Onto
import Derived.Deep.DeepCutAuto
import Derived.Deep.DeepMust
namespace Go.Proofs.YtepbamacebjopaaGreatDoor
open Go.RowKit Go.Maps

def edgesB (back : Bool) (rs : List Arc) : List (ByteArray × ByteArray) := rs.map fun x => if back then (x.to_, x.from_) else (x.from_, x.to_)
theorem edges_next (back : Bool) {rs : List Arc} {j : Nat} (hj : j < rs.length) : edgesB back (rs.take (j + 1)) = edgesB back (rs.take j) ++ [if back then (rs[j].to_, rs[j].from_) else (rs[j].from_, rs[j].to_)] := by
  unfold edgesB
  rw [List.take_succ_eq_append_getElem hj, List.map_append]
  rfl
theorem zeroSlR (w : World) : (zeroValue 34).run Tryz.prog w = .ok (slVal ⟨none, 0, 0⟩) w := by kernel_rfl
theorem el_RS : ElemOf Tryz.prog 34 9 1 16 := ElemOf.mk' (z := .string ByteArray.empty) Tryz.underlying34 (by kernel_rfl) rfl
theorem own_neR {w : World} {base : Nat} {e t : TypeId} {K n : Nat} {v : Value} {xs : List Value} {G : Nat} {cs : Array Value} (h : w.ownsRow base e K v n xs) (hb : w.heap[G]? = some (.cells cs t (0, 0))) (hne : t ≠ e) : v.ownBlock ≠ some G := by
  rcases h.2 with ⟨rfl, _⟩ | ⟨g', cap, cur, rfl, _, hg, _⟩
  · intro e; cases e
  · intro e2
    injection e2 with e2
    subst e2
    rw [hb] at hg
    injection hg with hg
    injection hg with _ h2
    exact hne h2
theorem Nx.grown2 {w0 w1 w2 w3 : World} {row : Option Nat} {s : Nat} (h : Nx w0 w1) (hg : w1.grownBy w2 row) (hr : ∀ k, row = some k → w0.heap.size ≤ k) (hs : w0.heap.size ≤ s) (hg2 : Gr s w2 w3) : Nx w0 w3 :=
  (h.grown hg hr).grown (row := some s) hg2 (fun k e => by injection e with e; omega)
abbrev MgSB (w : World) (b n : Nat) (f : ByteArray → Option Bool) : Prop := MgI Tryz.prog 9 Value.string domS (plainElem Tryz.prog 4) (fun z : Bool => (.lit (.bool z) : DataW Unit)) w b n f
/-- A map written out: an entry put in. -/
theorem wpMgIns {κ V : Type} {P : Program} {K : TypeId} {ek : κ → Value} {dom : κ → Prop} {R : Value → Option (DataW Unit × List MemPlace)} {ev : V → Value} {dv : V → DataW Unit} {okv : V → Prop} [DecidableEq κ] (w : World) {ops : Array Oper} {rest : List Oper} {o : Oper} {a : Act} {Q : Exit → Act → World → Prop}
    (hg : o.guard = none) (m x v : Operand) (t : TypeId) (hop : o.op = Op.insert t m x v) (ER : ElemR R ev dv okv) {E : TypeId}
    (KL : Keyed P K) (hinj : ∀ a b : κ, ek a = ek b → a = b) (ht : P.underlying t = some (.map K E)) (b n : Nat) (f : κ → Option V)
    (hm : a.eval m = .map (some b)) (hown : MgI P K ek dom R dv w b n f) (hn : n < maxLen) (k : κ) (hx : a.eval x = ek k) (hd : dom k) (l : Lit) (hkey : keyOf P K (ek k) = some l)
    (z : V) (hz : a.eval v = ev z) (hwf : okv z)
    (hK : ∀ w', MgI P K ek dom R dv w' b (n + 1) (fun k' => if k' = k then some z else f k') → Gr b w w' → wpList P ops Q rest (a.put o.dst undef) w') :
    wpList P ops Q (o :: rest) a w := by
  refine wpList_plain hg fun K' hK' => ?_
  obtain ⟨w', hrun, r1, r2⟩ := hown.upd ER KL hinj ht hn hd hkey z hwf
  unfold Oper.wp
  simp [execOp, hop, hm, hx, hz, hrun, Result.andThen]
  exact hK' _ _ (hK w' r1 r2)
def RchOut (E : List (ByteArray × ByteArray)) (a : ByteArray) (w : World) (e : Ending) (w' : World) : Prop := ∃ (m N : Nat) (f : ByteArray → Option Bool), e = .returned (.map (some m)) ∧ w.heap.size ≤ m ∧ MgI Tryz.prog 9 Value.string domS (plainElem Tryz.prog 4) (fun z : Bool => (.lit (.bool z) : DataW Unit)) w' m N f ∧ N ≤ 402 ∧ Nx w w' ∧ ∀ x, (ReachE E a x → f x = some true) ∧ (¬ ReachE E a x → f x = none)
set_option maxRecDepth 100000 in
set_option maxHeartbeats 8000000 in
theorem w_roadReached (w : World) (g0 lo cb : Nat) (B : Option Addr) (rs : List Arc) (a0 : ByteArray) (back : Bool) (hg1 : w.cell? ⟨g0, 1, none⟩ = some (.slice B rs.length cb)) (hg0 : g0 < w.heap.size) (hA : RdArcs w lo B rs) (hal : rs.length ≤ 400) (hds : ∀ x ∈ rs, domS x.from_ ∧ domS x.to_) (ha : domS a0) :
    Calls Tryz.prog 37 #[.pointer (some ⟨g0, 0, none⟩), .string a0, .bool back] w (RchOut (edgesB back rs) a0 w) := by
  have hmm := @run_makeMap Tryz.prog
  obtain ⟨s, hs⟩ : ∃ s, s = w.heap.size := ⟨_, rfl⟩
  have HS := hide hs
  have HA := hide hA
  have HDS := hide hds
  have HDA := hide ha
  have G1 : ∀ o, (w.alloc o).cell? ⟨g0, 1, none⟩ = some (.slice B rs.length cb) := fun o => nx_cell ((Nx.refl _).alloc o) hg0 hg1
  have HAL := hide hal
  clear hA hds ha hs
  generalize hm : rs.length = m at *
  have HM := hide hm
  clear hm
  go_enter Tryz.func37, Tryz.ntmps37
  go_wp2_with fail
  clear hmm G1
  rw [← HS.out]
  go_loopw [21] (fun i wr => ∃ (j : Nat) (f : ByteArray → Option SlV), j ≤ m ∧ i = .int .i64 j ∧ Nx w wr ∧ NextI wr s (s + 1) j f (rowE (edgesB back (rs.take j)))) (fun i _ => m - (intOf i).toNat)
  case atStart =>
    refine ⟨0, fun _ => none, Nat.zero_le _, rfl, (Nx.refl w).alloc _, ?_⟩
    rw [show rowE (edgesB back (rs.take 0)) = fun _ => [] from rfl]
    rw [HS.out]
    exact NextI.made w (hnew rfl) _
  case round =>
    obtain ⟨j, f, hj, rfl, hnw, hNI⟩ := hrel
    have HNI := hide hNI
    have HNW := hide hnw
    have hszr := hnw.sz
    clear hNI
    by_cases hlt : j < m
    · have hjl : j < rs.length := by have := HM.out; omega
      obtain ⟨b, off, rfl, _, hb, hbr, hc⟩ := HA.out.1.open_ hnw (by have := HM.out; omega)
      have c0 : wr.cell? ⟨b, off + j * 5, none⟩ = some (.string rs[j].key) := hc j hjl 0 _ rfl
      have c1 : wr.cell? ⟨b, off + j * 5 + 1, none⟩ = some (.string rs[j].from_) := hc j hjl 1 _ rfl
      have c2 : wr.cell? ⟨b, off + j * 5 + 2, none⟩ = some (.string rs[j].to_) := hc j hjl 2 _ rfl
      have c3 : wr.cell? ⟨b, off + j * 5 + 3, none⟩ = some (.int .i64 rs[j].long) := hc j hjl 3 _ rfl
      have c4 : wr.cell? ⟨b, off + j * 5 + 4, none⟩ = some (.slice rs[j].ka rs[j].knots.length rs[j].kc) := hc j hjl 4 _ rfl
      obtain ⟨hdf, hdt⟩ := HDS.out _ (List.getElem_mem hjl)
      have HDF := hide hdf
      have HDT := hide hdt
      have HNX := hide (edges_next back hjl)
      clear hc hdf hdt hnw
      generalize rs[j] = x at *
      generalize x.knots.length = kl at *
      obtain ⟨EJ, hEJ⟩ : ∃ EJ, EJ = edgesB back (rs.take j) := ⟨_, rfl⟩
      rw [← hEJ] at HNX HNI
      have HEL := hide (show EJ.length ≤ 400 by rw [hEJ]; unfold edgesB; rw [List.length_map]; have := List.length_take_le j rs; have := HM.out; have := HAL.out; omega)
      clear hEJ
      have i1 : (0 : Int) ≤ (j : Int) := by omega
      have i2 : (j : Int) < (m : Int) := by omega
      cases back with
      | false =>
        go_upto_region 7 with fail
        obtain ⟨wk, hwk⟩ : ∃ wk, wk = wr.alloc (.cells #[.string x.key, .string x.from_, .string x.to_, .int .i64 x.long, .slice x.ka kl x.kc] 37) := ⟨_, rfl⟩
        have hnk : Nx wr wk := hwk ▸ (Nx.refl wr).alloc _
        have HSZ := hide (show s < wr.heap.size ∧ wr.heap.size < wk.heap.size from ⟨HNI.out.map.lt, by rw [hwk]; simp⟩)
        have HARK := hide (show wk.heap[wr.heap.size]? = some (.cells #[.string x.key, .string x.from_, .string x.to_, .int .i64 x.long, .slice x.ka kl x.kc] 37 (0, 0)) by rw [hwk]; exact hnew rfl)
        have d1 : wk.cell? ⟨wr.heap.size, 1, none⟩ = some (.string x.from_) := by rw [hwk]; go_simp
        have d2 : wk.cell? ⟨wr.heap.size, 2, none⟩ = some (.string x.to_) := by rw [hwk]; go_simp
        have HNEXT := hide (HNI.out.nx hnk)
        have HNWK := hide (HNW.out.trans hnk)
        rw [← hwk]
        clear hwk c0 c1 c2 c3 c4 hszr HNW HNI hnk
        have HNW := HNWK
        clear HNWK
        generalize wr.heap.size = ar at *
        have HDK := hide (show domS x.from_ from HDF.out)
        obtain ⟨LK, hLK⟩ : ∃ LK, LK = rowE EJ x.from_ := ⟨_, rfl⟩
        obtain ⟨V, hV⟩ : ∃ V, V = slVal ((f x.from_).getD ⟨none, 0, 0⟩) := ⟨_, rfl⟩
        have HAT := hide (show wk.ownsRow (s + 1) 9 1 V LK.length (LK.flatMap encS) by rw [hV, hLK]; exact HNEXT.out.at_ x.from_)
        have HLK := hide (fun W (hx : Nx wk W) => (show (Instr.lookup 130 (.map (some s)) (.string x.from_) false).run Tryz.prog W = .ok V W by
          rw [hV]
          exact ((HNEXT.out.nx hx).map.look elemSl law_strR Tryz.underlying130 trivial (zeroSlR W) HDK.out (keyS_mk Tryz.underlying9 HDK.out)).1))
        have HARX := hide (fun W (hx : Nx wk W) => ((hx.block _ (Array.getElem?_eq_some_iff.1 HARK.out).1).trans HARK.out))
        have HELD := hide (fun (W : World) (h : W.heap[ar]? = some (.cells #[.string x.key, .string x.from_, .string x.to_, .int .i64 x.long, .slice x.ka kl x.kc] 37 (0, 0))) => (⟨(cell_of_row W _ 1 _ _ _ h).trans rfl, (cell_of_row W _ 2 _ _ _ h).trans rfl⟩ : W.cell? ⟨ar, 1, none⟩ = some (.string x.from_) ∧ W.cell? ⟨ar, 2, none⟩ = some (.string x.to_)))
        have HROW := hide (show rowE (EJ ++ [(x.from_, x.to_)]) = fun t => if t = x.from_ then LK ++ [x.to_] else rowE EJ t by rw [hLK]; exact rowE_add EJ x.from_ x.to_)
        have HNX2 := hide (show edgesB false (rs.take (j + 1)) = EJ ++ [(x.from_, x.to_)] from HNX.out)
        have HLL := hide (show LK.length ≤ 400 by rw [hLK]; exact Nat.le_trans (rowE_len _ _) HEL.out)
        have HPUT := hide (fun (W w6 w4 : World) (hn : NextI W s (s + 1) j f (rowE EJ)) (hg6 : W.grownBy w6 V.ownBlock) (g6 c6 : Nat) (hown6 : w6.ownsRow (s + 1) 9 1 (.slice (some ⟨g6, 0, none⟩) (LK.length + 1) c6) (LK.length + 1) (LK.flatMap encS ++ [.string x.to_])) (hat6 : V.ownBlock = some g6 ∨ g6 = W.heap.size) (hm4 : MpSW w4 s (j + 1) (fun t => if t = x.from_ then some ⟨some (g6, 0), LK.length + 1, c6⟩ else f t)) (hg4 : Gr s w6 w4) (hmb : ∃ es t, w6.heap[s]? = some (.map es t)) => (show NextI w4 s (s + 1) (j + 1) (fun t => if t = x.from_ then some ⟨some (g6, 0), LK.length + 1, c6⟩ else f t) (rowE (edgesB false (rs.take (j + 1)))) by
          rw [HNX2.out, HROW.out, hLK]
          rw [hV] at hg6 hat6
          rw [hLK] at hown6 hm4
          refine hn.put hg6 (x := x.to_) ?_ (fun b hb => ?_) hm4 hg4 hmb
          · rw [List.length_append, List.flatMap_append]
            exact hown6
          · have hb : g6 = b := by injection hb
            rw [← hb]
            rcases hat6 with h | h
            · exact .inl h
            · exact .inr (by omega)))
        have hll := HLL.out
        have hjm := HAL.out
        obtain ⟨iS, zS, q1, q2, q3, q4, q5⟩ := el_RS.hi
        have E1 := hide q1
        have E2 := hide q2
        have E3 := hide q3
        have E4 := hide q4
        have E5 := hide q5
        clear q1 q2 q3 q4 q5 hLK hV HARK HROW HNX HNX2
        go_wp2_with fail
        refine wp_region_held_drew (S := fun w' => w'.cell? ⟨ar, 1, none⟩ = some (.string x.from_) ∧ w'.cell? ⟨ar, 2, none⟩ = some (.string x.to_)) (by kernel_rfl) ?_ (fun hHeld => ?_)
        · exact HELD.out _ (HARX.out _ (Nx.refl _).drew)
        refine wpAnyH_take (i := 0) (oi := ⟨some 37, _, _, _, _, _⟩) (v := ?_) rfl (by kernel_rfl) (by kernel_rfl) (by kernel_rfl) (fun _ _ _ h => h) (Or.inl ⟨by rfl, ?_⟩) (by assumption) ?_
        rotate_left 1
        · intro w hSw
          (try dsimp only at hSw)
          go_simp
          try with_reducible rfl
        try simp only [Act.put, List.setIfInBounds_toArray, List.set_cons_zero, List.set_cons_succ]
        refine wpAnyH_take (i := 1) (oi := ⟨some 38, _, _, _, _, _⟩) (v := ?_) rfl (by kernel_rfl) (by kernel_rfl) (by kernel_rfl) (fun _ _ _ h => h) (Or.inl ⟨by rfl, ?_⟩) (by assumption) ?_
        rotate_left 1
        · intro w hSw
          (try dsimp only at hSw)
          go_simp
          try with_reducible rfl
        try simp only [Act.put, List.setIfInBounds_toArray, List.set_cons_zero, List.set_cons_succ]
        refine wpAnyH_take (i := 2) (oi := ⟨some 39, _, _, _, _, _⟩) (v := ?_) rfl (by kernel_rfl) (by kernel_rfl) (by kernel_rfl) (fun _ _ _ h => h) (Or.inl ⟨by rfl, ?_⟩) (by assumption) ?_
        rotate_left 1
        · intro w hSw
          (try dsimp only at hSw)
          go_simp
          try with_reducible rfl
        try simp only [Act.put, List.setIfInBounds_toArray, List.set_cons_zero, List.set_cons_succ]
        refine wpAnyH_take (i := 3) (oi := ⟨some 40, _, _, _, _, _⟩) (v := ?_) rfl (by kernel_rfl) (by kernel_rfl) (by kernel_rfl) (fun _ _ _ h => h) (Or.inl ⟨by rfl, ?_⟩) (by assumption) ?_
        rotate_left 1
        · intro w hSw
          (try dsimp only at hSw)
          go_simp
          try with_reducible rfl
        try simp only [Act.put, List.setIfInBounds_toArray, List.set_cons_zero, List.set_cons_succ]
        refine wpAnyH_take (i := 4) (oi := ⟨some 41, _, _, _, _, _⟩) (v := ?_) rfl (by kernel_rfl) (by kernel_rfl) (by kernel_rfl) (fun _ _ _ h => h) (Or.inl ⟨by rfl, ?_⟩) (by assumption) ?_
        rotate_left 1
        · intro w hSw
          (try dsimp only at hSw)
          go_simp
          try with_reducible rfl
        try simp only [Act.put, List.setIfInBounds_toArray, List.set_cons_zero, List.set_cons_succ]
        refine wpAnyH_take (i := 5) (oi := ⟨some 42, _, _, _, _, _⟩) (v := ?_) rfl (by kernel_rfl) (by kernel_rfl) (by kernel_rfl) (fun _ _ _ h => h) (Or.inl ⟨by rfl, ?_⟩) (by assumption) ?_
        rotate_left 1
        · intro w hSw
          (try dsimp only at hSw)
          go_simp
          try with_reducible rfl
        try simp only [Act.put, List.setIfInBounds_toArray, List.set_cons_zero, List.set_cons_succ]
        refine wpAnyH_take (i := 7) (oi := ⟨some 44, _, _, _, _, _⟩) (v := ?_) rfl (by kernel_rfl) (by kernel_rfl) (by kernel_rfl) (fun _ _ _ h => h) (Or.inl ⟨by rfl, ?_⟩) (by assumption) ?_
        rotate_left 1
        · intro w hSw
          (try dsimp only at hSw)
          go_simp
          try with_reducible rfl
        try simp only [Act.put, List.setIfInBounds_toArray, List.set_cons_zero, List.set_cons_succ]
        refine wpAnyH_take (i := 8) (oi := ⟨some 45, _, _, _, _, _⟩) (v := ?_) rfl (by kernel_rfl) (by kernel_rfl) (by kernel_rfl) (fun _ _ _ h => h) (Or.inl ⟨by rfl, ?_⟩) (by assumption) ?_
        rotate_left 1
        · intro w hSw
          (try dsimp only at hSw)
          go_simp
          try with_reducible rfl
        try simp only [Act.put, List.setIfInBounds_toArray, List.set_cons_zero, List.set_cons_succ]
        refine wpAnyH_ready (rs := [6, 9]) (by kernel_rfl) (by simp) ?_
        refine AllReadyH.cons rfl (fun K hK => ?_) ?_
        · have hLK := HLK.out _ (Nx.refl wk).drew
          go_simp
          refine hK.out _ _ (HELD.out _ (HARX.out _ (by repeat (first | with_reducible exact Nx.refl _ | with_reducible refine Nx.drew ?_ | with_reducible refine Nx.alloc ?_ _)))) (fun hHeld => ?_)
          clear hK K hLK
          try simp only [Act.put, List.setIfInBounds_toArray, List.set_cons_zero, List.set_cons_succ]
          refine wpAnyH_ready (rs := [9]) (by kernel_rfl) (by simp) ?_
          refine AllReadyH.cons rfl (fun K hK => ?_) ?_
          · go_simp
            refine hK.out _ _ (HELD.out _ (HARX.out _ (by repeat (first | with_reducible exact Nx.refl _ | with_reducible refine Nx.drew ?_ | with_reducible refine Nx.alloc ?_ _)))) (fun hHeld => ?_)
            clear hK K
            try simp only [Act.put, List.setIfInBounds_toArray, List.set_cons_zero, List.set_cons_succ]
            refine wpAnyH_ready (rs := [10]) (by kernel_rfl) (by simp) ?_
            refine AllReadyH.cons rfl (fun K hK => ?_) ?_
            · refine step_append_lies _ rfl _ _ _ rfl (s + 1) _ iS zS 1 16 Tryz.underlying34 E1.out E2.out E3.out E4.out E5.out (by omega) V LK.length (LK.flatMap encS) rfl (own_nx HAT.out (by repeat (first | with_reducible exact Nx.refl _ | with_reducible refine Nx.drew ?_ | with_reducible refine Nx.alloc ?_ _))) _ 1 1 [.string x.to_] rfl rfl (news_of (hnew rfl) rfl) (by intro u hu; simp at hu; subst hu; rfl) (by omega) (by unfold maxLen; omega) (by omega) (by have := HSZ.out; simp; omega) _ rfl ?_
              intro g6 c6 w6 hown6 hg6 hat6 hlt6
              have hax := (fun (W : World) (_ : W.grownBy w6 V.ownBlock) (hx : Nx wk W) => HARX.out W hx) _ hg6 (by repeat (first | with_reducible exact Nx.refl _ | with_reducible refine Nx.drew ?_ | with_reducible refine Nx.alloc ?_ _))
              have hnxt := (fun (W : World) (_ : W.grownBy w6 V.ownBlock) (hx : Nx wk W) => HNEXT.out.nx hx) _ hg6 (by repeat (first | with_reducible exact Nx.refl _ | with_reducible refine Nx.drew ?_ | with_reducible refine Nx.alloc ?_ _))
              have har6 := (hg6.block ar (Array.getElem?_eq_some_iff.1 hax).1 (fun e => own_neR (own_nx HAT.out (by repeat (first | with_reducible exact Nx.refl _ | with_reducible refine Nx.drew ?_ | with_reducible refine Nx.alloc ?_ _))) hax (by decide) e.symm)).trans hax
              refine hK.out _ _ (HELD.out _ har6) (fun hHeld => ?_)
              clear hK K
              try simp only [Act.put, List.setIfInBounds_toArray]
              have hM6 := hnxt.map.grown hg6 (fun e => own_notMap (own_nx HAT.out (by repeat (first | with_reducible exact Nx.refl _ | with_reducible refine Nx.drew ?_ | with_reducible refine Nx.alloc ?_ _))) hnxt.map.isMap.choose_spec.choose_spec e.symm)
              obtain ⟨w4, hr, hm4, hg4⟩ := hM6.upd elemSl law_strR strV_inj Tryz.underlying130 (by unfold maxLen; omega) HDK.out (keyS_mk Tryz.underlying9 HDK.out) ⟨some (g6, 0), LK.length + 1, c6⟩ trivial
              have hr' : (Instr.mapUpdate 130 (.map (some s)) (.string x.from_) (.slice (some ⟨g6, 0, none⟩) (LK.length + 1) c6)).run Tryz.prog w6 = .ok () w4 := hr
              have hput := HPUT.out _ w6 w4 hnxt hg6 g6 c6 hown6 hat6 hm4 hg4 hM6.isMap
              have har4 := (hg4.block ar (Array.getElem?_eq_some_iff.1 har6).1 (by have := HSZ.out; simp; omega)).trans har6
              have hsz6 := hg6.size
              have hn4 : Nx w w4 := (HNW.out.trans (by repeat (first | with_reducible exact Nx.refl _ | with_reducible refine Nx.drew ?_ | with_reducible refine Nx.alloc ?_ _))).grown2 hg6 (fun k hk => by have h1 := (HAT.out.lt k hk).1; have h2 := HS.out; omega) (by have h2 := HS.out; omega) hg4
              have HP := hide hput
              have HN4 := hide hn4
              have HA4 := hide har4
              clear hr hput hm4 hg4 hM6 hown6 hg6 hat6 hlt6 hnxt hax har6 hsz6 hn4 har4
              refine wpAnyH_ready (rs := [11]) (by kernel_rfl) (by simp) ?_
              refine AllReadyH.cons rfl (fun K hK => ?_) ?_
              · go_simp
                refine hK.out _ _ (HELD.out _ HA4.out) (fun hHeld => ?_)
                clear hK K hr'
                try simp only [Act.put, List.setIfInBounds_toArray, List.set_cons_zero, List.set_cons_succ]
                refine wpAnyH_done (by kernel_rfl) ?_ _
                go_wp2_with fail
                go_roundw
                case rel => exact ⟨j + 1, _, by omega, by go_num, HN4.out, HP.out⟩
                case measure => simp [intOf]; omega
              · exact AllReadyH.nil
            · exact AllReadyH.nil
          · exact AllReadyH.nil
        · refine AllReadyH.cons rfl (fun K hK => ?_) ?_
          · go_simp
            refine hK.out _ _ (HELD.out _ (HARX.out _ (by repeat (first | with_reducible exact Nx.refl _ | with_reducible refine Nx.drew ?_ | with_reducible refine Nx.alloc ?_ _)))) (fun hHeld => ?_)
            clear hK K
            try simp only [Act.put, List.setIfInBounds_toArray, List.set_cons_zero, List.set_cons_succ]
            refine wpAnyH_ready (rs := [6]) (by kernel_rfl) (by simp) ?_
            refine AllReadyH.cons rfl (fun K hK => ?_) ?_
            · have hLK := HLK.out _ ((Nx.refl wk).alloc (.cells #[.string x.to_] 9)).drew
              go_simp
              refine hK.out _ _ (HELD.out _ (HARX.out _ (by repeat (first | with_reducible exact Nx.refl _ | with_reducible refine Nx.drew ?_ | with_reducible refine Nx.alloc ?_ _)))) (fun hHeld => ?_)
              clear hK K hLK
              try simp only [Act.put, List.setIfInBounds_toArray, List.set_cons_zero, List.set_cons_succ]
              refine wpAnyH_ready (rs := [10]) (by kernel_rfl) (by simp) ?_
              refine AllReadyH.cons rfl (fun K hK => ?_) ?_
              · refine step_append_lies _ rfl _ _ _ rfl (s + 1) _ iS zS 1 16 Tryz.underlying34 E1.out E2.out E3.out E4.out E5.out (by omega) V LK.length (LK.flatMap encS) rfl (own_nx HAT.out (by repeat (first | with_reducible exact Nx.refl _ | with_reducible refine Nx.drew ?_ | with_reducible refine Nx.alloc ?_ _))) _ 1 1 [.string x.to_] rfl rfl (news_of (hnew rfl) rfl) (by intro u hu; simp at hu; subst hu; rfl) (by omega) (by unfold maxLen; omega) (by omega) (by have := HSZ.out; simp; omega) _ rfl ?_
                intro g6 c6 w6 hown6 hg6 hat6 hlt6
                have hax := (fun (W : World) (_ : W.grownBy w6 V.ownBlock) (hx : Nx wk W) => HARX.out W hx) _ hg6 (by repeat (first | with_reducible exact Nx.refl _ | with_reducible refine Nx.drew ?_ | with_reducible refine Nx.alloc ?_ _))
                have hnxt := (fun (W : World) (_ : W.grownBy w6 V.ownBlock) (hx : Nx wk W) => HNEXT.out.nx hx) _ hg6 (by repeat (first | with_reducible exact Nx.refl _ | with_reducible refine Nx.drew ?_ | with_reducible refine Nx.alloc ?_ _))
                have har6 := (hg6.block ar (Array.getElem?_eq_some_iff.1 hax).1 (fun e => own_neR (own_nx HAT.out (by repeat (first | with_reducible exact Nx.refl _ | with_reducible refine Nx.drew ?_ | with_reducible refine Nx.alloc ?_ _))) hax (by decide) e.symm)).trans hax
                refine hK.out _ _ (HELD.out _ har6) (fun hHeld => ?_)
                clear hK K
                try simp only [Act.put, List.setIfInBounds_toArray]
                have hM6 := hnxt.map.grown hg6 (fun e => own_notMap (own_nx HAT.out (by repeat (first | with_reducible exact Nx.refl _ | with_reducible refine Nx.drew ?_ | with_reducible refine Nx.alloc ?_ _))) hnxt.map.isMap.choose_spec.choose_spec e.symm)
                obtain ⟨w4, hr, hm4, hg4⟩ := hM6.upd elemSl law_strR strV_inj Tryz.underlying130 (by unfold maxLen; omega) HDK.out (keyS_mk Tryz.underlying9 HDK.out) ⟨some (g6, 0), LK.length + 1, c6⟩ trivial
                have hr' : (Instr.mapUpdate 130 (.map (some s)) (.string x.from_) (.slice (some ⟨g6, 0, none⟩) (LK.length + 1) c6)).run Tryz.prog w6 = .ok () w4 := hr
                have hput := HPUT.out _ w6 w4 hnxt hg6 g6 c6 hown6 hat6 hm4 hg4 hM6.isMap
                have har4 := (hg4.block ar (Array.getElem?_eq_some_iff.1 har6).1 (by have := HSZ.out; simp; omega)).trans har6
                have hsz6 := hg6.size
                have hn4 : Nx w w4 := (HNW.out.trans (by repeat (first | with_reducible exact Nx.refl _ | with_reducible refine Nx.drew ?_ | with_reducible refine Nx.alloc ?_ _))).grown2 hg6 (fun k hk => by have h1 := (HAT.out.lt k hk).1; have h2 := HS.out; omega) (by have h2 := HS.out; omega) hg4
                have HP := hide hput
                have HN4 := hide hn4
                have HA4 := hide har4
                clear hr hput hm4 hg4 hM6 hown6 hg6 hat6 hlt6 hnxt hax har6 hsz6 hn4 har4
                refine wpAnyH_ready (rs := [11]) (by kernel_rfl) (by simp) ?_
                refine AllReadyH.cons rfl (fun K hK => ?_) ?_
                · go_simp
                  refine hK.out _ _ (HELD.out _ HA4.out) (fun hHeld => ?_)
                  clear hK K hr'
                  try simp only [Act.put, List.setIfInBounds_toArray, List.set_cons_zero, List.set_cons_succ]
                  refine wpAnyH_done (by kernel_rfl) ?_ _
                  go_wp2_with fail
                  go_roundw
                  case rel => exact ⟨j + 1, _, by omega, by go_num, HN4.out, HP.out⟩
                  case measure => simp [intOf]; omega
                · exact AllReadyH.nil
              · exact AllReadyH.nil
            · exact AllReadyH.nil
          · exact AllReadyH.nil
      | true =>
        go_upto_region 6 with fail
        obtain ⟨wk, hwk⟩ : ∃ wk, wk = wr.alloc (.cells #[.string x.key, .string x.from_, .string x.to_, .int .i64 x.long, .slice x.ka kl x.kc] 37) := ⟨_, rfl⟩
        have hnk : Nx wr wk := hwk ▸ (Nx.refl wr).alloc _
        have HSZ := hide (show s < wr.heap.size ∧ wr.heap.size < wk.heap.size from ⟨HNI.out.map.lt, by rw [hwk]; simp⟩)
        have HARK := hide (show wk.heap[wr.heap.size]? = some (.cells #[.string x.key, .string x.from_, .string x.to_, .int .i64 x.long, .slice x.ka kl x.kc] 37 (0, 0)) by rw [hwk]; exact hnew rfl)
        have d1 : wk.cell? ⟨wr.heap.size, 1, none⟩ = some (.string x.from_) := by rw [hwk]; go_simp
        have d2 : wk.cell? ⟨wr.heap.size, 2, none⟩ = some (.string x.to_) := by rw [hwk]; go_simp
        have HNEXT := hide (HNI.out.nx hnk)
        have HNWK := hide (HNW.out.trans hnk)
        rw [← hwk]
        clear hwk c0 c1 c2 c3 c4 hszr HNW HNI hnk
        have HNW := HNWK
        clear HNWK
        generalize wr.heap.size = ar at *
        have HDK := hide (show domS x.to_ from HDT.out)
        obtain ⟨LK, hLK⟩ : ∃ LK, LK = rowE EJ x.to_ := ⟨_, rfl⟩
        obtain ⟨V, hV⟩ : ∃ V, V = slVal ((f x.to_).getD ⟨none, 0, 0⟩) := ⟨_, rfl⟩
        have HAT := hide (show wk.ownsRow (s + 1) 9 1 V LK.length (LK.flatMap encS) by rw [hV, hLK]; exact HNEXT.out.at_ x.to_)
        have HLK := hide (fun W (hx : Nx wk W) => (show (Instr.lookup 130 (.map (some s)) (.string x.to_) false).run Tryz.prog W = .ok V W by
          rw [hV]
          exact ((HNEXT.out.nx hx).map.look elemSl law_strR Tryz.underlying130 trivial (zeroSlR W) HDK.out (keyS_mk Tryz.underlying9 HDK.out)).1))
        have HARX := hide (fun W (hx : Nx wk W) => ((hx.block _ (Array.getElem?_eq_some_iff.1 HARK.out).1).trans HARK.out))
        have HELD := hide (fun (W : World) (h : W.heap[ar]? = some (.cells #[.string x.key, .string x.from_, .string x.to_, .int .i64 x.long, .slice x.ka kl x.kc] 37 (0, 0))) => (⟨(cell_of_row W _ 1 _ _ _ h).trans rfl, (cell_of_row W _ 2 _ _ _ h).trans rfl⟩ : W.cell? ⟨ar, 1, none⟩ = some (.string x.from_) ∧ W.cell? ⟨ar, 2, none⟩ = some (.string x.to_)))
        have HROW := hide (show rowE (EJ ++ [(x.to_, x.from_)]) = fun t => if t = x.to_ then LK ++ [x.from_] else rowE EJ t by rw [hLK]; exact rowE_add EJ x.to_ x.from_)
        have HNX2 := hide (show edgesB true (rs.take (j + 1)) = EJ ++ [(x.to_, x.from_)] from HNX.out)
        have HLL := hide (show LK.length ≤ 400 by rw [hLK]; exact Nat.le_trans (rowE_len _ _) HEL.out)
        have HPUT := hide (fun (W w6 w4 : World) (hn : NextI W s (s + 1) j f (rowE EJ)) (hg6 : W.grownBy w6 V.ownBlock) (g6 c6 : Nat) (hown6 : w6.ownsRow (s + 1) 9 1 (.slice (some ⟨g6, 0, none⟩) (LK.length + 1) c6) (LK.length + 1) (LK.flatMap encS ++ [.string x.from_])) (hat6 : V.ownBlock = some g6 ∨ g6 = W.heap.size) (hm4 : MpSW w4 s (j + 1) (fun t => if t = x.to_ then some ⟨some (g6, 0), LK.length + 1, c6⟩ else f t)) (hg4 : Gr s w6 w4) (hmb : ∃ es t, w6.heap[s]? = some (.map es t)) => (show NextI w4 s (s + 1) (j + 1) (fun t => if t = x.to_ then some ⟨some (g6, 0), LK.length + 1, c6⟩ else f t) (rowE (edgesB true (rs.take (j + 1)))) by
          rw [HNX2.out, HROW.out, hLK]
          rw [hV] at hg6 hat6
          rw [hLK] at hown6 hm4
          refine hn.put hg6 (x := x.from_) ?_ (fun b hb => ?_) hm4 hg4 hmb
          · rw [List.length_append, List.flatMap_append]
            exact hown6
          · have hb : g6 = b := by injection hb
            rw [← hb]
            rcases hat6 with h | h
            · exact .inl h
            · exact .inr (by omega)))
        have hll := HLL.out
        have hjm := HAL.out
        obtain ⟨iS, zS, q1, q2, q3, q4, q5⟩ := el_RS.hi
        have E1 := hide q1
        have E2 := hide q2
        have E3 := hide q3
        have E4 := hide q4
        have E5 := hide q5
        clear q1 q2 q3 q4 q5 hLK hV HARK HROW HNX HNX2
        go_wp2_with fail
        refine wp_region_held_drew (S := fun w' => w'.cell? ⟨ar, 1, none⟩ = some (.string x.from_) ∧ w'.cell? ⟨ar, 2, none⟩ = some (.string x.to_)) (by kernel_rfl) ?_ (fun hHeld => ?_)
        · exact HELD.out _ (HARX.out _ (Nx.refl _).drew)
        refine wpAnyH_take (i := 0) (oi := ⟨some 26, _, _, _, _, _⟩) (v := ?_) rfl (by kernel_rfl) (by kernel_rfl) (by kernel_rfl) (fun _ _ _ h => h) (Or.inl ⟨by rfl, ?_⟩) (by assumption) ?_
        rotate_left 1
        · intro w hSw
          (try dsimp only at hSw)
          go_simp
          try with_reducible rfl
        try simp only [Act.put, List.setIfInBounds_toArray, List.set_cons_zero, List.set_cons_succ]
        refine wpAnyH_take (i := 1) (oi := ⟨some 27, _, _, _, _, _⟩) (v := ?_) rfl (by kernel_rfl) (by kernel_rfl) (by kernel_rfl) (fun _ _ _ h => h) (Or.inl ⟨by rfl, ?_⟩) (by assumption) ?_
        rotate_left 1
        · intro w hSw
          (try dsimp only at hSw)
          go_simp
          try with_reducible rfl
        try simp only [Act.put, List.setIfInBounds_toArray, List.set_cons_zero, List.set_cons_succ]
        refine wpAnyH_take (i := 2) (oi := ⟨some 28, _, _, _, _, _⟩) (v := ?_) rfl (by kernel_rfl) (by kernel_rfl) (by kernel_rfl) (fun _ _ _ h => h) (Or.inl ⟨by rfl, ?_⟩) (by assumption) ?_
        rotate_left 1
        · intro w hSw
          (try dsimp only at hSw)
          go_simp
          try with_reducible rfl
        try simp only [Act.put, List.setIfInBounds_toArray, List.set_cons_zero, List.set_cons_succ]
        refine wpAnyH_take (i := 3) (oi := ⟨some 29, _, _, _, _, _⟩) (v := ?_) rfl (by kernel_rfl) (by kernel_rfl) (by kernel_rfl) (fun _ _ _ h => h) (Or.inl ⟨by rfl, ?_⟩) (by assumption) ?_
        rotate_left 1
        · intro w hSw
          (try dsimp only at hSw)
          go_simp
          try with_reducible rfl
        try simp only [Act.put, List.setIfInBounds_toArray, List.set_cons_zero, List.set_cons_succ]
        refine wpAnyH_take (i := 4) (oi := ⟨some 30, _, _, _, _, _⟩) (v := ?_) rfl (by kernel_rfl) (by kernel_rfl) (by kernel_rfl) (fun _ _ _ h => h) (Or.inl ⟨by rfl, ?_⟩) (by assumption) ?_
        rotate_left 1
        · intro w hSw
          (try dsimp only at hSw)
          go_simp
          try with_reducible rfl
        try simp only [Act.put, List.setIfInBounds_toArray, List.set_cons_zero, List.set_cons_succ]
        refine wpAnyH_take (i := 5) (oi := ⟨some 31, _, _, _, _, _⟩) (v := ?_) rfl (by kernel_rfl) (by kernel_rfl) (by kernel_rfl) (fun _ _ _ h => h) (Or.inl ⟨by rfl, ?_⟩) (by assumption) ?_
        rotate_left 1
        · intro w hSw
          (try dsimp only at hSw)
          go_simp
          try with_reducible rfl
        try simp only [Act.put, List.setIfInBounds_toArray, List.set_cons_zero, List.set_cons_succ]
        refine wpAnyH_take (i := 7) (oi := ⟨some 33, _, _, _, _, _⟩) (v := ?_) rfl (by kernel_rfl) (by kernel_rfl) (by kernel_rfl) (fun _ _ _ h => h) (Or.inl ⟨by rfl, ?_⟩) (by assumption) ?_
        rotate_left 1
        · intro w hSw
          (try dsimp only at hSw)
          go_simp
          try with_reducible rfl
        try simp only [Act.put, List.setIfInBounds_toArray, List.set_cons_zero, List.set_cons_succ]
        refine wpAnyH_take (i := 8) (oi := ⟨some 34, _, _, _, _, _⟩) (v := ?_) rfl (by kernel_rfl) (by kernel_rfl) (by kernel_rfl) (fun _ _ _ h => h) (Or.inl ⟨by rfl, ?_⟩) (by assumption) ?_
        rotate_left 1
        · intro w hSw
          (try dsimp only at hSw)
          go_simp
          try with_reducible rfl
        try simp only [Act.put, List.setIfInBounds_toArray, List.set_cons_zero, List.set_cons_succ]
        refine wpAnyH_ready (rs := [6, 9]) (by kernel_rfl) (by simp) ?_
        refine AllReadyH.cons rfl (fun K hK => ?_) ?_
        · have hLK := HLK.out _ (Nx.refl wk).drew
          go_simp
          refine hK.out _ _ (HELD.out _ (HARX.out _ (by repeat (first | with_reducible exact Nx.refl _ | with_reducible refine Nx.drew ?_ | with_reducible refine Nx.alloc ?_ _)))) (fun hHeld => ?_)
          clear hK K hLK
          try simp only [Act.put, List.setIfInBounds_toArray, List.set_cons_zero, List.set_cons_succ]
          refine wpAnyH_ready (rs := [9]) (by kernel_rfl) (by simp) ?_
          refine AllReadyH.cons rfl (fun K hK => ?_) ?_
          · go_simp
            refine hK.out _ _ (HELD.out _ (HARX.out _ (by repeat (first | with_reducible exact Nx.refl _ | with_reducible refine Nx.drew ?_ | with_reducible refine Nx.alloc ?_ _)))) (fun hHeld => ?_)
            clear hK K
            try simp only [Act.put, List.setIfInBounds_toArray, List.set_cons_zero, List.set_cons_succ]
            refine wpAnyH_ready (rs := [10]) (by kernel_rfl) (by simp) ?_
            refine AllReadyH.cons rfl (fun K hK => ?_) ?_
            · refine step_append_lies _ rfl _ _ _ rfl (s + 1) _ iS zS 1 16 Tryz.underlying34 E1.out E2.out E3.out E4.out E5.out (by omega) V LK.length (LK.flatMap encS) rfl (own_nx HAT.out (by repeat (first | with_reducible exact Nx.refl _ | with_reducible refine Nx.drew ?_ | with_reducible refine Nx.alloc ?_ _))) _ 1 1 [.string x.from_] rfl rfl (news_of (hnew rfl) rfl) (by intro u hu; simp at hu; subst hu; rfl) (by omega) (by unfold maxLen; omega) (by omega) (by have := HSZ.out; simp; omega) _ rfl ?_
              intro g6 c6 w6 hown6 hg6 hat6 hlt6
              have hax := (fun (W : World) (_ : W.grownBy w6 V.ownBlock) (hx : Nx wk W) => HARX.out W hx) _ hg6 (by repeat (first | with_reducible exact Nx.refl _ | with_reducible refine Nx.drew ?_ | with_reducible refine Nx.alloc ?_ _))
              have hnxt := (fun (W : World) (_ : W.grownBy w6 V.ownBlock) (hx : Nx wk W) => HNEXT.out.nx hx) _ hg6 (by repeat (first | with_reducible exact Nx.refl _ | with_reducible refine Nx.drew ?_ | with_reducible refine Nx.alloc ?_ _))
              have har6 := (hg6.block ar (Array.getElem?_eq_some_iff.1 hax).1 (fun e => own_neR (own_nx HAT.out (by repeat (first | with_reducible exact Nx.refl _ | with_reducible refine Nx.drew ?_ | with_reducible refine Nx.alloc ?_ _))) hax (by decide) e.symm)).trans hax
              refine hK.out _ _ (HELD.out _ har6) (fun hHeld => ?_)
              clear hK K
              try simp only [Act.put, List.setIfInBounds_toArray]
              have hM6 := hnxt.map.grown hg6 (fun e => own_notMap (own_nx HAT.out (by repeat (first | with_reducible exact Nx.refl _ | with_reducible refine Nx.drew ?_ | with_reducible refine Nx.alloc ?_ _))) hnxt.map.isMap.choose_spec.choose_spec e.symm)
              obtain ⟨w4, hr, hm4, hg4⟩ := hM6.upd elemSl law_strR strV_inj Tryz.underlying130 (by unfold maxLen; omega) HDK.out (keyS_mk Tryz.underlying9 HDK.out) ⟨some (g6, 0), LK.length + 1, c6⟩ trivial
              have hr' : (Instr.mapUpdate 130 (.map (some s)) (.string x.to_) (.slice (some ⟨g6, 0, none⟩) (LK.length + 1) c6)).run Tryz.prog w6 = .ok () w4 := hr
              have hput := HPUT.out _ w6 w4 hnxt hg6 g6 c6 hown6 hat6 hm4 hg4 hM6.isMap
              have har4 := (hg4.block ar (Array.getElem?_eq_some_iff.1 har6).1 (by have := HSZ.out; simp; omega)).trans har6
              have hsz6 := hg6.size
              have hn4 : Nx w w4 := (HNW.out.trans (by repeat (first | with_reducible exact Nx.refl _ | with_reducible refine Nx.drew ?_ | with_reducible refine Nx.alloc ?_ _))).grown2 hg6 (fun k hk => by have h1 := (HAT.out.lt k hk).1; have h2 := HS.out; omega) (by have h2 := HS.out; omega) hg4
              have HP := hide hput
              have HN4 := hide hn4
              have HA4 := hide har4
              clear hr hput hm4 hg4 hM6 hown6 hg6 hat6 hlt6 hnxt hax har6 hsz6 hn4 har4
              refine wpAnyH_ready (rs := [11]) (by kernel_rfl) (by simp) ?_
              refine AllReadyH.cons rfl (fun K hK => ?_) ?_
              · go_simp
                refine hK.out _ _ (HELD.out _ HA4.out) (fun hHeld => ?_)
                clear hK K hr'
                try simp only [Act.put, List.setIfInBounds_toArray, List.set_cons_zero, List.set_cons_succ]
                refine wpAnyH_done (by kernel_rfl) ?_ _
                go_wp2_with fail
                go_roundw
                case rel => exact ⟨j + 1, _, by omega, by go_num, HN4.out, HP.out⟩
                case measure => simp [intOf]; omega
              · exact AllReadyH.nil
            · exact AllReadyH.nil
          · exact AllReadyH.nil
        · refine AllReadyH.cons rfl (fun K hK => ?_) ?_
          · go_simp
            refine hK.out _ _ (HELD.out _ (HARX.out _ (by repeat (first | with_reducible exact Nx.refl _ | with_reducible refine Nx.drew ?_ | with_reducible refine Nx.alloc ?_ _)))) (fun hHeld => ?_)
            clear hK K
            try simp only [Act.put, List.setIfInBounds_toArray, List.set_cons_zero, List.set_cons_succ]
            refine wpAnyH_ready (rs := [6]) (by kernel_rfl) (by simp) ?_
            refine AllReadyH.cons rfl (fun K hK => ?_) ?_
            · have hLK := HLK.out _ ((Nx.refl wk).alloc (.cells #[.string x.from_] 9)).drew
              go_simp
              refine hK.out _ _ (HELD.out _ (HARX.out _ (by repeat (first | with_reducible exact Nx.refl _ | with_reducible refine Nx.drew ?_ | with_reducible refine Nx.alloc ?_ _)))) (fun hHeld => ?_)
              clear hK K hLK
              try simp only [Act.put, List.setIfInBounds_toArray, List.set_cons_zero, List.set_cons_succ]
              refine wpAnyH_ready (rs := [10]) (by kernel_rfl) (by simp) ?_
              refine AllReadyH.cons rfl (fun K hK => ?_) ?_
              · refine step_append_lies _ rfl _ _ _ rfl (s + 1) _ iS zS 1 16 Tryz.underlying34 E1.out E2.out E3.out E4.out E5.out (by omega) V LK.length (LK.flatMap encS) rfl (own_nx HAT.out (by repeat (first | with_reducible exact Nx.refl _ | with_reducible refine Nx.drew ?_ | with_reducible refine Nx.alloc ?_ _))) _ 1 1 [.string x.from_] rfl rfl (news_of (hnew rfl) rfl) (by intro u hu; simp at hu; subst hu; rfl) (by omega) (by unfold maxLen; omega) (by omega) (by have := HSZ.out; simp; omega) _ rfl ?_
                intro g6 c6 w6 hown6 hg6 hat6 hlt6
                have hax := (fun (W : World) (_ : W.grownBy w6 V.ownBlock) (hx : Nx wk W) => HARX.out W hx) _ hg6 (by repeat (first | with_reducible exact Nx.refl _ | with_reducible refine Nx.drew ?_ | with_reducible refine Nx.alloc ?_ _))
                have hnxt := (fun (W : World) (_ : W.grownBy w6 V.ownBlock) (hx : Nx wk W) => HNEXT.out.nx hx) _ hg6 (by repeat (first | with_reducible exact Nx.refl _ | with_reducible refine Nx.drew ?_ | with_reducible refine Nx.alloc ?_ _))
                have har6 := (hg6.block ar (Array.getElem?_eq_some_iff.1 hax).1 (fun e => own_neR (own_nx HAT.out (by repeat (first | with_reducible exact Nx.refl _ | with_reducible refine Nx.drew ?_ | with_reducible refine Nx.alloc ?_ _))) hax (by decide) e.symm)).trans hax
                refine hK.out _ _ (HELD.out _ har6) (fun hHeld => ?_)
                clear hK K
                try simp only [Act.put, List.setIfInBounds_toArray]
                have hM6 := hnxt.map.grown hg6 (fun e => own_notMap (own_nx HAT.out (by repeat (first | with_reducible exact Nx.refl _ | with_reducible refine Nx.drew ?_ | with_reducible refine Nx.alloc ?_ _))) hnxt.map.isMap.choose_spec.choose_spec e.symm)
                obtain ⟨w4, hr, hm4, hg4⟩ := hM6.upd elemSl law_strR strV_inj Tryz.underlying130 (by unfold maxLen; omega) HDK.out (keyS_mk Tryz.underlying9 HDK.out) ⟨some (g6, 0), LK.length + 1, c6⟩ trivial
                have hr' : (Instr.mapUpdate 130 (.map (some s)) (.string x.to_) (.slice (some ⟨g6, 0, none⟩) (LK.length + 1) c6)).run Tryz.prog w6 = .ok () w4 := hr
                have hput := HPUT.out _ w6 w4 hnxt hg6 g6 c6 hown6 hat6 hm4 hg4 hM6.isMap
                have har4 := (hg4.block ar (Array.getElem?_eq_some_iff.1 har6).1 (by have := HSZ.out; simp; omega)).trans har6
                have hsz6 := hg6.size
                have hn4 : Nx w w4 := (HNW.out.trans (by repeat (first | with_reducible exact Nx.refl _ | with_reducible refine Nx.drew ?_ | with_reducible refine Nx.alloc ?_ _))).grown2 hg6 (fun k hk => by have h1 := (HAT.out.lt k hk).1; have h2 := HS.out; omega) (by have h2 := HS.out; omega) hg4
                have HP := hide hput
                have HN4 := hide hn4
                have HA4 := hide har4
                clear hr hput hm4 hg4 hM6 hown6 hg6 hat6 hlt6 hnxt hax har6 hsz6 hn4 har4
                refine wpAnyH_ready (rs := [11]) (by kernel_rfl) (by simp) ?_
                refine AllReadyH.cons rfl (fun K hK => ?_) ?_
                · go_simp
                  refine hK.out _ _ (HELD.out _ HA4.out) (fun hHeld => ?_)
                  clear hK K hr'
                  try simp only [Act.put, List.setIfInBounds_toArray, List.set_cons_zero, List.set_cons_succ]
                  refine wpAnyH_done (by kernel_rfl) ?_ _
                  go_wp2_with fail
                  go_roundw
                  case rel => exact ⟨j + 1, _, by omega, by go_num, HN4.out, HP.out⟩
                  case measure => simp [intOf]; omega
                · exact AllReadyH.nil
              · exact AllReadyH.nil
            · exact AllReadyH.nil
          · exact AllReadyH.nil
    · obtain rfl : m = j := by omega
      have hNI := HNI.out
      rw [List.take_of_length_le (by have := HM.out; omega)] at hNI
      have HDE := hide (show ∀ y, ReachE (edgesB back rs) a0 y → domS y from fun y hy => by
        rcases List.mem_cons.1 (reachE_in y hy) with rfl | h
        · exact HDA.out
        · obtain ⟨p, hp, rfl⟩ := List.mem_map.1 h
          obtain ⟨x, hx, rfl⟩ := List.mem_map.1 hp
          have := HDS.out x hx
          cases back
          · exact this.2
          · exact this.1)
      have HEL := hide (show (edgesB back rs).length ≤ 400 by unfold edgesB; rw [List.length_map]; have := HM.out; omega)
      have HNI := hide hNI
      have HNW := hide hnw
      clear hNI hnw
      generalize edgesB back rs = E at *
      obtain ⟨w1, hw1⟩ : ∃ w1, w1 = wr := ⟨_, rfl⟩
      subst hw1
      have hmm := @run_makeMap Tryz.prog
      obtain ⟨q, hq⟩ : ∃ q, q = w1.heap.size := ⟨_, rfl⟩
      have HQ := hide hq
      clear hq hszr
      go_wp2_with (refine wpMgIns _ rfl _ _ _ _ rfl boolR law_strR strV_inj Tryz.underlying87 w1.heap.size 0 (fun _ => none) rfl (MgI.made w1) (by decide) a0 rfl HDA.out _ (keyS_mk Tryz.underlying9 HDA.out) true rfl trivial ?_; intro w2 hM2 hg2; (have HM2 := hide hM2); (have HG2 := hide hg2); clear hM2 hg2)
      clear hmm
      rw [← HQ.out]
      go_loopg [11] (E.length + 1) (fun fu vl wy => ∃ (vs l : List ByteArray), Dfs E a0 vs l ∧ E.length + 1 + l.length ≤ fu + vs.length ∧ l.length ≤ vs.length ∧ Nx w1 wy ∧ MgSB wy q vs.length (seenF vs) ∧ wy.ownsRow (q + 1) 9 1 vl l.length (l.flatMap encS))
      case atStart =>
        have h1 := HM2.out
        have h2 := HG2.out.sz
        have h3 := HQ.out
        refine ⟨[a0], [a0], Dfs.first E a0, by simp, Nat.le_refl _, ((Nx.refl w1).alloc _ |>.grown (row := some w1.heap.size) HG2.out (fun k e => by injection e with e; omega)).alloc _, ?_, rfl, .inr ⟨w2.heap.size, 1, #[.string a0], rfl, ?_, hnew rfl, Nat.le_refl _, ?_, rfl, rfl⟩⟩
        · rw [show seenF [a0] = fun x => if x = a0 then some true else none from (seenF_add [] a0).trans (funext fun x => rfl), h3]
          exact h1.nx ((Nx.refl w2).alloc _)
        · simp at h2; omega
        · decide
      case round =>
        obtain ⟨vs, l, hD, hfu, hlv, hny, hM, hown⟩ := hrel
        clear HM2 HG2
        have HD := hide hD
        have HNY := hide hny
        have HMY := hide hM
        clear hD hM
        by_cases hl0 : l = []
        · subst hl0
          obtain ⟨A1, c1, ev, _, _⟩ := Rd.of_own encS_len rfl hown
          subst ev
          clear hown hny
          go_wp2_with fail
          go_ret
          refine ⟨q, vs.length, seenF vs, rfl, by rw [HQ.out]; exact HNW.out.sz, HMY.out, by have := HD.out.len; have := HEL.out; omega, HNW.out.trans HNY.out, fun x => ⟨fun h => seenF_in ((HD.out.all x).2 h), fun h => seenF_out (fun e => h ((HD.out.all x).1 e))⟩⟩
        · obtain ⟨l', n, hl⟩ : ∃ l' n, l = l' ++ [n] := ⟨l.dropLast, l.getLast hl0, (List.dropLast_concat_getLast hl0).symm⟩
          subst hl
          have hll : (l' ++ [n]).length = l'.length + 1 := by simp
          rw [hll] at hown hfu hlv
          have hcx : ∃ g cap, u11 = .slice (some ⟨g, 0, none⟩) (l'.length + 1) cap ∧ g < wr.heap.size ∧ q + 1 ≤ g := by
            rcases hown.2 with ⟨_, h⟩ | ⟨g, cap, cur, h1, h2, h3, _⟩
            · exact absurd h (by omega)
            · exact ⟨g, cap, h1, (Array.getElem?_eq_some_iff.1 h3).1, h2⟩
          obtain ⟨g, cap, ev, hgl, hgq⟩ := hcx
          subst ev
          have x0 : wr.cell? ⟨g, l'.length, none⟩ = some (.string n) := by
            have := own_cell encS_len rfl (xs := l' ++ [n]) (by rw [hll]; exact hown) l'.length (by rw [hll]; omega) 0 (.string n) (by simp [encS])
            simpa using this
          have hcap := own_cap hown
          have HOL := hide (show wr.ownsRow (q + 1) 9 1 (.slice (some ⟨g, 0, none⟩) l'.length cap) l'.length (l'.flatMap encS) by
            have h1 := own_take hown (Nat.le_succ l'.length)
            rw [flat_take encS_len, List.take_append_of_le_length (Nat.le_refl _), List.take_length] at h1
            exact h1)
          have HIN := hide (HD.out.pop)
          have hdn : domS n := HDE.out n (HD.out.rch n (HD.out.sub n (by simp)))
          have HDN := hide hdn
          have hat := HNI.out.at_ n
          obtain ⟨A1, c1, ev, hRL, _⟩ := Rd.of_own encS_len rfl hat
          have HEV := hide ev
          have HRL := hide hRL
          have HNL := hide (show (rowE E n).length ≤ 400 from Nat.le_trans (rowE_len E n) HEL.out)
          have HRI := hide (fun j (hj : j < (rowE E n).length) => rowE_mem.1 (List.getElem_mem hj))
          have HFU := hide hfu
          have hlen : vs.length ≤ E.length + 1 := HD.out.len
          have hle := HEL.out
          have hnl5 : l'.length ≤ 500 := by omega
          have HLV := hide hlv
          clear hown hny hat ev hRL hfu HD hdn hlv
          generalize hln : l'.length = nl at *
          have HLN := hide hln
          obtain ⟨nE, hnE⟩ : ∃ nE, nE = (rowE E n).length := ⟨_, rfl⟩
          rw [← hnE] at HEV HNL
          have HNE := hide hnE
          clear hln hnE
          obtain ⟨w3, hw3⟩ : ∃ w3, w3 = wr := ⟨_, rfl⟩
          subst hw3
          go_wp2_with (at_lookup; go_must (refine wpMgLook _ rfl _ _ _ rfl elemSl law_strR Tryz.underlying130 (z := (⟨none, 0, 0⟩ : SlV)) trivial (zeroSlR _) s m _ rfl (HNI.out.map.nx HNY.out) n rfl HDN.out _ (keyS_mk Tryz.underlying9 HDN.out) ?_); (rw [HEV.out]))
          go_loopw [11, 72] (fun vl i wz => ∃ (j : Nat) (vs' l2 : List ByteArray), j ≤ nE ∧ i = .int .i64 j ∧ DfsIn E a0 n j vs' l2 ∧ E.length + 1 + (l2.length + 1) ≤ gk + vs'.length ∧ l2.length + 1 ≤ vs'.length ∧ Nx w1 wz ∧ MgSB wz q vs'.length (seenF vs') ∧ wz.ownsRow (q + 1) 9 1 vl l2.length (l2.flatMap encS)) (fun _ i _ => nE - (intOf i).toNat)
          case atStart => exact ⟨0, vs, l', Nat.zero_le _, rfl, HIN.out, by rw [HLN.out]; exact HFU.out, by rw [HLN.out]; exact HLV.out, HNY.out, HMY.out, by rw [HLN.out]; exact HOL.out⟩
          case round =>
            obtain ⟨j, vs', l2, hj, rfl, hD, hfu, hlv, hnz, hM, hown⟩ := hrel
            clear HIN HFU HLV HMY HOL x0 hcap hgl hgq
            by_cases hlt : j < nE
            · have hjl : j < (rowE E n).length := by have := HNE.out; omega
              obtain ⟨b, off, rfl, _, hb, _, hc⟩ := HRL.out.open_ hnz (by omega)
              have y0 : wr.cell? ⟨b, off + j, none⟩ = some (.string (rowE E n)[j]) := by
                have := hc j hjl 0 (.string (rowE E n)[j]) (by simp [encS])
                simpa using this
              have HDY := hide (HDE.out _ (.step (hD.rch n hD.at_) (HRI.out j hjl)))
              have HOLD := hide (fun hy => hD.old hjl hy)
              have HNEW := hide (fun hy => hD.new_ hjl hy)
              have hvl : vs'.length ≤ E.length + 1 := hD.len
              have HM3 := hide hM
              have HNZ := hide hnz
              have HOW := hide hown
              have HFV := hide (And.intro hfu hlv)
              have hnl : nE ≤ 400 := HNL.out
              have hqw : q < wr.heap.size := hM.lt
              clear hc hD hM hnz hown hfu
              generalize (rowE E n)[j] = y at *
              have i1 : (0 : Int) ≤ (j : Int) := by omega
              have i2 : (j : Int) < (nE : Int) := by omega
              by_cases hv : y ∈ vs'
              · have HSE := hide (seenF_in hv)
                have HV := hide hv
                clear hv
                go_wp2_with (at_lookup; go_must (refine wpMgLook _ rfl _ _ _ rfl boolR law_strR Tryz.underlying87 (z := false) trivial (zeroBoolR _) q _ _ rfl HM3.out y rfl HDY.out _ (keyS_mk Tryz.underlying9 HDY.out) ?_); (rw [HSE.out]))
                go_roundw
                case rel => exact ⟨j + 1, vs', l2, by omega, by go_num, HOLD.out HV.out, HFV.out.1, HFV.out.2, HNZ.out, HM3.out, HOW.out⟩
                case measure => simp [intOf]; omega
              · have HSE := hide (seenF_out hv)
                have HV := hide hv
                have hl400 : l2.length ≤ 500 := by omega
                have hv400 : vs'.length ≤ 500 := by have := HEL.out; omega
                clear hv
                go_wp2_with (first
                  | (at_lookup; go_must (refine wpMgLook _ rfl _ _ _ rfl boolR law_strR Tryz.underlying87 (z := false) trivial (zeroBoolR _) q _ _ rfl HM3.out y rfl HDY.out _ (keyS_mk Tryz.underlying9 HDY.out) ?_); (rw [HSE.out]))
                  | (at_mapUpdate; go_must (refine wpMgPut _ rfl _ _ _ _ rfl boolR law_strR strV_inj Tryz.underlying87 q _ _ rfl HM3.out (by unfold maxLen; omega) y rfl HDY.out _ (keyS_mk Tryz.underlying9 HDY.out) true rfl trivial ?_); intro w7 hM7 hg7; (have HM7 := hide hM7); (have HG7 := hide hg7); (have hs7 := hg7.sz); (have HO7 := hide (HOW.out.kept (row := some q) hg7 (.inr (own_notMap HOW.out HM3.out.isMap.choose_spec.choose_spec)))); clear hM7 hg7)
                  | (at_builtin; go_must (refine wpApp2 rfl _ _ _ rfl el_RS encS encS_len encS_one (by omega) (by omega) (q + 1) _ l2 rfl (HO7.out.alloc _) _ y _ rfl (hnew rfl) rfl (by omega) (by simp; omega) ?_); intro v9 w9 hown9 hg9 _; (have HO9 := hide hown9); (have HG9 := hide hg9); clear hown9 hg9))
                go_roundw
                case rel =>
                  have hge : ∀ k, u11.ownBlock = some k → q + 1 ≤ k := fun k hk => (HOW.out.lt k hk).1
                  refine ⟨j + 1, vs' ++ [y], l2 ++ [y], by omega, by go_num, HNEW.out HV.out, by have := HFV.out.1; simp; omega, by have := HFV.out.2; simp; omega, ?_, ?_, HO9.out⟩
                  · exact ((HNZ.out.grown (row := some q) HG7.out (fun k e => by injection e with e; have := HQ.out; omega)).alloc _).grown HG9.out (fun k hk => by have := hge k hk; have := HQ.out; omega)
                  · rw [seenF_add, List.length_append]
                    exact (HM7.out.nx ((Nx.refl w7).alloc _)).grown HG9.out (fun e => by have := hge q e.symm; omega)
                case measure => simp [intOf]; omega
            · obtain rfl : nE = j := by omega
              have HDD := hide (show Dfs E a0 vs' l2 from (DfsIn.done (by rw [← HNE.out]; exact hD)))
              have hvl : vs'.length ≤ E.length + 1 := hD.len
              have HM3 := hide hM
              have HNZ := hide hnz
              have HOW := hide hown
              clear hD hM hnz hown
              go_wp2_with fail
              go_roundg (gk - 1)
              case measure => omega
              case rel => exact ⟨vs', l2, HDD.out, by omega, by omega, HNZ.out, HM3.out, HOW.out⟩
end Go.Proofs.YtepbamacebjopaaGreatDoor
