/- A memory of searches. -/
import Derived.Test.YtbjbeddjaajdaaaGreatDoorQSrchV
import Derived.Test.YtbjbeddjaajdaaaGreatDoorQG21
import Derived.Test.YtbjbeddjaajdaaaGreatDoorQG13
import Derived.Test.YtbjbeddjaajdaaaGreatDoorQG24
import Derived.Deep.DeepCutAuto
import Derived.Test.YtbjbeddjaajdaaaGreatDoorQG16
import Derived.Test.YtbjbeddjaajdaaaGreatDoorQG27
import Derived.Test.YtbjbeddjaajdaaaGreatDoorQG0
import Derived.Deep.AppendLies
import Derived.Test.YtbjbeddjaajdaaaGreatDoorQG14
import Derived.Deep.Onto
import Derived.Test.YtbjbeddjaajdaaaGreatDoorQG10
import Derived.Test.YtbjbeddjaajdaaaGreatDoorQG2
import Derived.Laws.StructEq
namespace Go.Proofs.YtbjbeddjaajdaaaGreatDoor
open Go.RowKit Go.Maps

abbrev MpT (w : World) (b n : Nat) (f : Int × Int → Option (Option Nat)) : Prop := MgI Tryz.prog 224 ekP domP ptrElem ptrD w b n f
theorem zeroTreeR (w : World) : (zeroValue 158).run Tryz.prog w = .ok (ptrV none) w := by kernel_rfl
theorem MgI.obj {κ V : Type} {P : Program} {K : TypeId} {ek : κ → Value} {dom : κ → Prop} {R : Value → Option (DataW Unit × List MemPlace)} {dv : V → DataW Unit} {w : World} {b n : Nat} {f : κ → Option V} (h : MgI P K ek dom R dv w b n f) : ∃ es cl, w.heap[b]? = some (.map es cl) := by
  obtain ⟨D, ⟨es, clock, h1, _⟩, _⟩ := h
  exact ⟨es, clock, h1⟩
theorem ne_map {w : World} {b k : Nat} {es : _} {cl : _} {cs : Array Value} {t : TypeId} {fr : Nat × Nat} (hb : w.heap[b]? = some (.map es cl)) (hk : w.heap[k]? = some (.cells cs t fr)) : k ≠ b := by
  rintro rfl
  rw [hb] at hk
  cases hk
theorem gr_blk {w w' : World} {s k : Nat} {o : Obj} (hg : Gr s w w') (h : w.heap[k]? = some o) (hne : k ≠ s) : w'.heap[k]? = some o :=
  (World.grownBy.block hg k (lt_of_heap h) (by intro e; injection e with e; exact hne e)).trans h
theorem TreeR.grm {w w' : World} {a : SA} {bm fr nn m b n : Nat} {ad : Int} {s : Sr} {f : Int × Int → Option (Option Nat)} (h : TreeR w a bm fr nn m ad s) (hm : MpT w b n f) (hg : Gr b w w') : TreeR w' a bm fr nn m ad s := by
  obtain ⟨es, cl, hb⟩ := hm.obj
  exact ⟨gr_blk hg h.hT (ne_map hb h.hT), gr_blk hg h.hF (ne_map hb h.hF), gr_blk hg h.hL (ne_map hb h.hL), gr_blk hg h.hP (ne_map hb h.hP), h.lF, h.lL, h.lP⟩
/-- A tree's blocks are none of these. -/
def TreeAv (a : SA) (Ex : Nat → Prop) : Prop := ¬ Ex a.T ∧ ¬ Ex a.gF ∧ ¬ Ex a.gL ∧ ¬ Ex a.gP
/-- A memory of searches: its map's block is b; what was there in w0 stays; Ex: blocks that are no part of it. -/
structure TripsR (w0 w : World) (bt b n : Nat) (f : Int × Int → Option (Option Nat)) (bm nn m : Nat) (G : Gph) (Ex : Nat → Prop) : Prop where
  nx : Nx w0 w
  hb : w0.heap.size ≤ b
  blk : w.heap[bt]? = some (.cells #[.pointer (some ⟨bm, 0, none⟩), .map (some b)] 218 (0, 0))
  mp : MpT w b n f
  ok : ∀ p a', f p = some (some a') → ∃ (a : SA) (fr : Nat), a.T = a' ∧ p.1 = (fr : Int) ∧ TreeR w a bm fr nn m p.2 (searchG G fr p.2) ∧ TreeAv a Ex
  eb : ¬ Ex b ∧ ¬ Ex bt
section
variable {w0 w w' : World} {bt b n : Nat} {f : Int × Int → Option (Option Nat)} {bm nn m : Nat} {G : Gph} {Ex Ex' : Nat → Prop}
theorem TripsR.step (h : TripsR w0 w bt b n f bm nn m G Ex) (hn : Nx w w') : TripsR w0 w' bt b n f bm nn m G Ex :=
  ⟨h.nx.trans hn, h.hb, (hn.block bt (lt_of_heap h.blk)).trans h.blk, h.mp.nx hn, fun p a' e => by
    obtain ⟨a, fr, h1, h2, h3, h4⟩ := h.ok p a' e
    exact ⟨a, fr, h1, h2, h3.nx hn, h4⟩, h.eb⟩
theorem TripsR.put (h : TripsR w0 w bt b n f bm nn m G Ex) (hg : Gr b w w') {k : Int × Int} {a : SA} {fr : Nat} (hk : k.1 = (fr : Int)) (ha : TreeR w a bm fr nn m k.2 (searchG G fr k.2)) (hav : TreeAv a Ex) (hm : MpT w' b (n + 1) (fun k' => if k' = k then some (some a.T) else f k')) :
    TripsR w0 w' bt b (n + 1) (fun k' => if k' = k then some (some a.T) else f k') bm nn m G Ex := by
  obtain ⟨es, cl, hb⟩ := h.mp.obj
  refine ⟨Nx.of_gr ((Gr.of_nx h.nx).trans hg) h.hb, h.hb, gr_blk hg h.blk (ne_map hb h.blk), hm, fun p a' e => ?_, h.eb⟩
  by_cases hp : p = k
  · subst hp
    rw [if_pos rfl] at e
    injection e with e; injection e with e
    exact ⟨a, fr, e, hk, ha.grm h.mp hg, hav⟩
  · rw [if_neg hp] at e
    obtain ⟨a2, fr2, h1, h2, h3, h4⟩ := h.ok p a' e
    exact ⟨a2, fr2, h1, h2, h3.grm h.mp hg, h4⟩
theorem grown_blk {row : Option Nat} (hg : w.grownBy w' row) {k : Nat} {o : Obj} (hk : w.heap[k]? = some o) (hne : some k ≠ row) : w'.heap[k]? = some o := (hg.block k (lt_of_heap hk) hne).trans hk
/-- A row that is no part of it grows. -/
theorem TripsR.app (h : TripsR w0 w bt b n f bm nn m G Ex) {row : Option Nat} (hg : w.grownBy w' row) (hr : ∀ x, row = some x → Ex x ∧ w0.heap.size ≤ x) : TripsR w0 w' bt b n f bm nn m G Ex := by
  have hne : ∀ k, ¬ Ex k → some k ≠ row := fun k hk e => hk (hr k e.symm).1
  refine ⟨h.nx.grown hg (fun k hk => (hr k hk).2), h.hb, grown_blk hg h.blk (hne _ h.eb.2), h.mp.grown hg (hne _ h.eb.1), fun p a' e => ?_, h.eb⟩
  obtain ⟨a, fr, h1, h2, h3, h4⟩ := h.ok p a' e
  exact ⟨a, fr, h1, h2, ⟨grown_blk hg h3.hT (hne _ h4.1), grown_blk hg h3.hF (hne _ h4.2.1), grown_blk hg h3.hL (hne _ h4.2.2.1), grown_blk hg h3.hP (hne _ h4.2.2.2), h3.lF, h3.lL, h3.lP⟩, h4⟩
theorem TripsR.more (h : TripsR w0 w bt b n f bm nn m G Ex) (hx : ∀ x, Ex' x → Ex x ∨ w.heap.size ≤ x) : TripsR w0 w bt b n f bm nn m G Ex' := by
  have hne : ∀ k, k < w.heap.size → ¬ Ex k → ¬ Ex' k := fun k hk he hk' => (hx k hk').elim he (fun h => by omega)
  refine ⟨h.nx, h.hb, h.blk, h.mp, fun p a' e => ?_, hne _ h.mp.lt h.eb.1, hne _ (lt_of_heap h.blk) h.eb.2⟩
  obtain ⟨a, fr, h1, h2, h3, h4⟩ := h.ok p a' e
  exact ⟨a, fr, h1, h2, h3, hne _ (lt_of_heap h3.hT) h4.1, hne _ (lt_of_heap h3.hF) h4.2.1, hne _ (lt_of_heap h3.hL) h4.2.2.1, hne _ (lt_of_heap h3.hP) h4.2.2.2⟩
/-- An element is laid and appended to a row that is no part of it. -/
theorem TripsR.push (h : TripsR w0 w bt b n f bm nn m G Ex) {o : Obj} {row : Option Nat} (hg : (w.alloc o).grownBy w' row) (hr : ∀ x, row = some x → Ex x ∧ w0.heap.size ≤ x) (hx : ∀ x, Ex' x → Ex x ∨ x = (w.alloc o).heap.size) : TripsR w0 w' bt b n f bm nn m G Ex' :=
  (((h.step ((Nx.refl w).alloc o)).more (Ex' := fun x => Ex x ∨ x = (w.alloc o).heap.size) (fun _ h => h.imp id (fun e => Nat.le_of_eq e.symm))).app hg (fun x hx => ⟨.inl (hr x hx).1, (hr x hx).2⟩)).more (fun x h => .inl (hx x h))
theorem TripsR.lt (h : TripsR w0 w bt b n f bm nn m G Ex) : bt < w.heap.size := lt_of_heap h.blk
end
set_option maxRecDepth 100000 in
set_option maxHeartbeats 1000000 in
theorem w_NewTrips (bm nn m : Nat) (G : Gph) (w : World) :
    Calls Tryz.prog 86 #[.pointer (some ⟨bm, 0, none⟩)] w fun e w' => ∃ bt b, e = .returned (.pointer (some ⟨bt, 0, none⟩)) ∧ w.heap.size ≤ bt ∧ TripsR w w' bt b 0 (fun _ => none) bm nn m G (fun _ => False) := by
  have hmm := @run_makeMap Tryz.prog
  go_enter Tryz.func86, Tryz.ntmps86
  go_wp2_with fail
  go_ret
  refine ⟨_, w.heap.size, rfl, ?_, ((Nx.refl w).alloc _).alloc _, Nat.le_refl _, hnew (by simp), (MgI.made w).nx ((Nx.refl _).alloc _), fun p a' e => (by cases e), fun h => h, fun h => h⟩
  simp
def TreeOut (w0 w : World) (bt b n bm i nn m : Nat) (ad : Int) (G : Gph) (Ex : Nat → Prop) (e : Ending) (w' : World) : Prop := ∃ (a : SA) (n' : Nat) (f' : Int × Int → Option (Option Nat)), e = .returned (.pointer (some ⟨a.T, 0, none⟩)) ∧ TreeR w' a bm i nn m ad (searchG G i ad) ∧ TripsR w0 w' bt b n' f' bm nn m G Ex ∧ n' ≤ n + 1 ∧ Gr b w w'
set_option maxRecDepth 100000 in
set_option maxHeartbeats 4000000 in
theorem w_Tree (w0 w : World) (bt b n : Nat) (f : Int × Int → Option (Option Nat)) (bm g0 lo : Nat) (A B C : Option Addr) (ca cb cc : Nat) (M : MapA) (ns : List Node) (rs : List Arc) (bs : List Ban) (i : Nat) (ad : Int) (Ex : Nat → Prop)
    (hM : MapR w0 bm g0 lo A B C ca cb cc M ns rs bs) (hC : chk (arcF ns) none rs = 0) (hT : TripsR w0 w bt b n f bm ns.length rs.length (gphOf ns rs bs) Ex) (hEx : ∀ x, Ex x → x < w.heap.size) (hi : i < ns.length) (hnl : ns.length ≤ 400) (ha : 0 ≤ ad ∧ ad ≤ 345686399999) (hn : n < 1000000) :
    Calls Tryz.prog 187 #[.pointer (some ⟨bt, 0, none⟩), .int .i64 (i : Int), .int .i64 ad] w (TreeOut w0 w bt b n bm i ns.length rs.length ad (gphOf ns rs bs) Ex) := by
  have hd : domP ((i : Int), ad) := ⟨wf_i64o.2 ⟨by show _ ≤ (i : Int); omega, by show (i : Int) ≤ _; omega⟩, wf_i64o.2 ⟨by show _ ≤ ad; omega, by show ad ≤ _; omega⟩⟩
  obtain ⟨lb, hlb⟩ := key_pair ((i : Int), ad) hd
  have HSE := hide (fun W (hx : Nx w0 W) => w_Search W bm i ad g0 lo A B C ca cb cc M ns rs bs (hM.nx hx) hC hi ha)
  have HT := hide hT
  have HD := hide hd
  have HLB := hide hlb
  obtain ⟨wa, hwa⟩ : ∃ wa, wa = w.alloc (.cells #[.int .i64 (i : Int), .int .i64 ad] 224) := ⟨_, rfl⟩
  have hna : Nx w wa := hwa ▸ (Nx.refl w).alloc _
  have hba : wa.heap[w.heap.size]? = some (.cells #[.int .i64 (i : Int), .int .i64 ad] 224 (0, 0)) := by rw [hwa]; exact hnew rfl
  have HS := hide (fun W (hx : Nx wa W) => (⟨⟨nx_cell (hna.trans hx) hT.lt ((cell_of_row w _ 0 _ _ _ hT.blk).trans rfl), nx_cell (hna.trans hx) hT.lt ((cell_of_row w _ 1 _ _ _ hT.blk).trans rfl)⟩, nx_cell hx (lt_of_heap hba) ((cell_of_row wa _ 0 _ _ _ hba).trans rfl), nx_cell hx (lt_of_heap hba) ((cell_of_row wa _ 1 _ _ _ hba).trans rfl)⟩ :
    (W.cell? ⟨bt, 0, none⟩ = some (.pointer (some ⟨bm, 0, none⟩)) ∧ W.cell? ⟨bt, 1, none⟩ = some (.map (some b))) ∧ W.cell? ⟨w.heap.size, 0, none⟩ = some (.int .i64 (i : Int)) ∧ W.cell? ⟨w.heap.size, 1, none⟩ = some (.int .i64 ad)))
  obtain ⟨v, hv⟩ : ∃ v, v = (f ((i : Int), ad)).getD none := ⟨_, rfl⟩
  have HLK := hide (fun W (hx : Nx wa W) => (show (Instr.lookup 216 (.map (some b)) (.agg #[.int .i64 (i : Int), .int .i64 ad]) false).run Tryz.prog W = .ok (ptrV v) W by
    rw [hv]
    exact ((hT.mp.nx (hna.trans hx)).look elemPtr law_pair Tryz.underlying216 (z := none) trivial (zeroTreeR _) (k := ((i : Int), ad)) hd hlb).1))
  have HV := hide hv
  have HWA := hide hwa
  have HBA := hide hba
  clear hT hd hlb hba hv hwa hM hC hi
  go_enter Tryz.func187, Tryz.ntmps187
  go_upto_region 2 with fail
  rw [← HWA.out]
  have hkx : w.heap.size ≤ wa.heap.size := hna.sz
  generalize w.heap.size = k at *
  have hnn := hna.sz
  go_cut [8] (fun u wx => u = ptrV v ∧ Nx wa wx)
  case first =>
    refine wp_region_held_drew (S := fun w' => ((w'.cell? ⟨bt, 0, none⟩ = some (.pointer (some ⟨bm, 0, none⟩)) ∧ w'.cell? ⟨bt, 1, none⟩ = some (.map (some b))) ∧ w'.cell? ⟨k, 0, none⟩ = some (.int .i64 (i : Int)) ∧ w'.cell? ⟨k, 1, none⟩ = some (.int .i64 ad)) ∧ (Instr.lookup 216 (.map (some b)) (.agg #[.int .i64 (i : Int), .int .i64 ad]) false).run Tryz.prog w' = .ok (ptrV v) w') (by kernel_rfl) ?_ (fun hHeld => ?_)
    · exact ⟨HS.out _ (Nx.refl _).drew, HLK.out _ (Nx.refl _).drew⟩
    refine wpAnyH_take (i := 0) (oi := ⟨some 12, _, _, _, _, _⟩) (v := ?_) rfl (by kernel_rfl) (by kernel_rfl) (by kernel_rfl) (fun _ _ _ h => h) (Or.inl ⟨by rfl, ?_⟩) (by assumption) ?_
    rotate_left 1
    · intro w hSw
      (try dsimp only at hSw)
      go_simp
      try with_reducible rfl
    try simp only [Act.put, List.setIfInBounds_toArray, List.set_cons_zero, List.set_cons_succ]
    refine wpAnyH_take (i := 1) (oi := ⟨some 13, _, _, _, _, _⟩) (v := ?_) rfl (by kernel_rfl) (by kernel_rfl) (by kernel_rfl) (fun _ _ _ h => h) (Or.inl ⟨by rfl, ?_⟩) (by assumption) ?_
    rotate_left 1
    · intro w hSw
      (try dsimp only at hSw)
      go_simp
      try with_reducible rfl
    try simp only [Act.put, List.setIfInBounds_toArray, List.set_cons_zero, List.set_cons_succ]
    refine wpAnyH_take (i := 2) (oi := ⟨some 14, _, _, _, _, _⟩) (v := ?_) rfl (by kernel_rfl) (by kernel_rfl) (by kernel_rfl) (fun _ _ _ h => h) (Or.inl ⟨by rfl, ?_⟩) (by assumption) ?_
    rotate_left 1
    · intro w hSw
      (try dsimp only at hSw)
      go_simp
      try with_reducible rfl
    try simp only [Act.put, List.setIfInBounds_toArray, List.set_cons_zero, List.set_cons_succ]
    refine wpAnyH_take (i := 3) (oi := ⟨some 15, _, _, _, _, _⟩) (v := ?_) rfl (by kernel_rfl) (by kernel_rfl) (by kernel_rfl) (fun _ _ _ h => h) (Or.inl ⟨by rfl, ?_⟩) (by assumption) ?_
    rotate_left 1
    · intro w hSw
      (try dsimp only at hSw)
      go_simp
      try with_reducible rfl
    try simp only [Act.put, List.setIfInBounds_toArray, List.set_cons_zero, List.set_cons_succ]
    refine wpAnyH_take (i := 4) (oi := ⟨some 16, _, _, _, _, _⟩) (v := ?_) rfl (by kernel_rfl) (by kernel_rfl) (by kernel_rfl) (fun _ _ _ h => h) (Or.inl ⟨by rfl, ?_⟩) (by assumption) ?_
    rotate_left 1
    · intro w hSw
      (try dsimp only at hSw)
      go_simp
      try with_reducible rfl
    try simp only [Act.put, List.setIfInBounds_toArray, List.set_cons_zero, List.set_cons_succ]
    refine wpAnyH_take (i := 5) (oi := ⟨some 17, _, _, _, _, _⟩) (v := ?_) rfl (by kernel_rfl) (by kernel_rfl) (by kernel_rfl) (fun _ _ _ h => h) (Or.inl ⟨by rfl, ?_⟩) (by assumption) ?_
    rotate_left 1
    · intro w hSw
      (try dsimp only at hSw)
      go_simp
      try with_reducible rfl
    try simp only [Act.put, List.setIfInBounds_toArray, List.set_cons_zero, List.set_cons_succ]
    refine wpAnyH_take (i := 6) (oi := ⟨some 8, _, _, _, _, _⟩) (v := ?_) rfl (by kernel_rfl) (by kernel_rfl) (by kernel_rfl) (fun _ _ _ h => h) (Or.inl ⟨by rfl, ?_⟩) (by assumption) ?_
    rotate_left 1
    · intro w hSw
      (try dsimp only at hSw)
      go_simp
      try with_reducible rfl
    try simp only [Act.put, List.setIfInBounds_toArray, List.set_cons_zero, List.set_cons_succ]
    refine wpAnyH_done (by kernel_rfl) ?_ _
    go_wp2
    go_meet
    exact ⟨rfl, (Nx.refl _).drew⟩
  case rest =>
    obtain ⟨rfl, hx⟩ := hcut
    cases v with
    | some a' =>
      have hf : f ((i : Int), ad) = some (some a') := by
        have h := HV.out
        cases hf : f ((i : Int), ad) with
        | none => rw [hf] at h; cases h
        | some y => rw [hf] at h; exact congrArg some h.symm
      obtain ⟨a, fr, rfl, h2, h3, _⟩ := HT.out.ok _ _ hf
      have h2 : i = fr := by have : (i : Int) = (fr : Int) := h2; omega
      subst h2
      have hR := h3.nx (hna.trans hx)
      have HR := hide hR
      clear hR h3 hf HV
      unfold ptrV
      go_wp2_with fail
      go_ret
      exact ⟨a, n, f, rfl, HR.out, HT.out.step (hna.trans hx), by omega, Gr.of_nx (hna.trans hx)⟩
    | none =>
      have hnx := hna.trans hx
      obtain ⟨⟨c0, c1⟩, d0, d1⟩ := HS.out _ hx
      clear HV
      unfold ptrV
      go_wp2_with fail
      refine (HSE.out _ (HT.out.nx.trans hnx)).mono ?_
      rintro e w3 ⟨a, rfl, hSM⟩
      have hn3 := hnx.trans hSM.nx
      have hx3 := hx.trans hSM.nx
      have HTR := hide hSM.tree
      have HAV := hide (show TreeAv a Ex from by
        have hlow : ∀ kk ∈ [a.bx, a.T, a.bt, a.bb, a.gF, a.gL, a.gP, a.gB, a.gD], ¬ Ex kk := fun kk hk he => by
          have h1 := (hSM.lo kk hk).1
          have h2 := hEx kk he
          have h3 := hx.sz
          omega
        exact ⟨hlow _ (by simp), hlow _ (by simp), hlow _ (by simp), hlow _ (by simp)⟩)
      have hT3 := HT.out.step hn3
      obtain ⟨w4, hr, hm4, hg4⟩ := (hT3.mp.nx (Nx.refl w3).drew).upd elemPtr law_pair ekP_inj Tryz.underlying216 (by unfold maxLen; omega) HD.out HLB.out (some a.T) trivial
      have hT4 := (hT3.step (Nx.refl w3).drew).put hg4 (k := ((i : Int), ad)) (a := a) (fr := i) rfl (HTR.out.nx (Nx.refl w3).drew) HAV.out hm4
      have HT4 := hide hT4
      have HTR4 := hide ((HTR.out.nx (Nx.refl w3).drew).grm (hT3.step (Nx.refl w3).drew).mp hg4)
      have hr' : (Instr.mapUpdate 216 (.map (some b)) (.agg #[.int .i64 (i : Int), .int .i64 ad]) (.pointer (some ⟨a.T, 0, none⟩))).run Tryz.prog w3.drew = .ok () w4 := hr
      have HG := hide ((Gr.of_nx hn3).trans ((Gr.refl b w3).drew.trans hg4))
      have HX3 := hide hx3
      have hk4 := gr_blk (hg4) ((((hx3.drew).block k (lt_of_heap HBA.out)).trans HBA.out)) (by obtain ⟨es, cl, hb⟩ := (hT3.step (Nx.refl w3).drew).mp.obj; exact ne_map hb (((hx3.drew).block k (lt_of_heap HBA.out)).trans HBA.out))
      have HS4 := hide (⟨⟨(cell_of_row w4 _ 0 _ _ _ hT4.blk).trans rfl, (cell_of_row w4 _ 1 _ _ _ hT4.blk).trans rfl⟩, (cell_of_row w4 _ 0 _ _ _ hk4).trans rfl, (cell_of_row w4 _ 1 _ _ _ hk4).trans rfl⟩ : (w4.cell? ⟨bt, 0, none⟩ = some (.pointer (some ⟨bm, 0, none⟩)) ∧ w4.cell? ⟨bt, 1, none⟩ = some (.map (some b))) ∧ w4.cell? ⟨k, 0, none⟩ = some (.int .i64 (i : Int)) ∧ w4.cell? ⟨k, 1, none⟩ = some (.int .i64 ad))
      clear hk4 hSM hT3 hm4 hT4 hr c0 c1 d0 d1 hg4 hnx hn3 hx3
      go_upto_region 5 with fail
      go_cut [] (fun wx => wx = w4)
      case first =>
        refine wp_region_held_drew (S := fun w' => (w'.cell? ⟨bt, 0, none⟩ = some (.pointer (some ⟨bm, 0, none⟩)) ∧ w'.cell? ⟨bt, 1, none⟩ = some (.map (some b))) ∧ w'.cell? ⟨k, 0, none⟩ = some (.int .i64 (i : Int)) ∧ w'.cell? ⟨k, 1, none⟩ = some (.int .i64 ad)) (by kernel_rfl) ?_ (fun hHeld => ?_)
        · exact HS.out _ (HX3.out.drew)
        refine wpAnyH_take (i := 0) (oi := ⟨some 27, _, _, _, _, _⟩) (v := ?_) rfl (by kernel_rfl) (by kernel_rfl) (by kernel_rfl) (fun _ _ _ h => h) (Or.inl ⟨by rfl, ?_⟩) (by assumption) ?_
        rotate_left 1
        · intro w hSw
          (try dsimp only at hSw)
          go_simp
          try with_reducible rfl
        try simp only [Act.put, List.setIfInBounds_toArray, List.set_cons_zero, List.set_cons_succ]
        refine wpAnyH_take (i := 1) (oi := ⟨some 28, _, _, _, _, _⟩) (v := ?_) rfl (by kernel_rfl) (by kernel_rfl) (by kernel_rfl) (fun _ _ _ h => h) (Or.inl ⟨by rfl, ?_⟩) (by assumption) ?_
        rotate_left 1
        · intro w hSw
          (try dsimp only at hSw)
          go_simp
          try with_reducible rfl
        try simp only [Act.put, List.setIfInBounds_toArray, List.set_cons_zero, List.set_cons_succ]
        refine wpAnyH_take (i := 2) (oi := ⟨some 29, _, _, _, _, _⟩) (v := ?_) rfl (by kernel_rfl) (by kernel_rfl) (by kernel_rfl) (fun _ _ _ h => h) (Or.inl ⟨by rfl, ?_⟩) (by assumption) ?_
        rotate_left 1
        · intro w hSw
          (try dsimp only at hSw)
          go_simp
          try with_reducible rfl
        try simp only [Act.put, List.setIfInBounds_toArray, List.set_cons_zero, List.set_cons_succ]
        refine wpAnyH_take (i := 3) (oi := ⟨some 30, _, _, _, _, _⟩) (v := ?_) rfl (by kernel_rfl) (by kernel_rfl) (by kernel_rfl) (fun _ _ _ h => h) (Or.inl ⟨by rfl, ?_⟩) (by assumption) ?_
        rotate_left 1
        · intro w hSw
          (try dsimp only at hSw)
          go_simp
          try with_reducible rfl
        try simp only [Act.put, List.setIfInBounds_toArray, List.set_cons_zero, List.set_cons_succ]
        refine wpAnyH_take (i := 4) (oi := ⟨some 31, _, _, _, _, _⟩) (v := ?_) rfl (by kernel_rfl) (by kernel_rfl) (by kernel_rfl) (fun _ _ _ h => h) (Or.inl ⟨by rfl, ?_⟩) (by assumption) ?_
        rotate_left 1
        · intro w hSw
          (try dsimp only at hSw)
          go_simp
          try with_reducible rfl
        try simp only [Act.put, List.setIfInBounds_toArray, List.set_cons_zero, List.set_cons_succ]
        refine wpAnyH_take (i := 5) (oi := ⟨some 32, _, _, _, _, _⟩) (v := ?_) rfl (by kernel_rfl) (by kernel_rfl) (by kernel_rfl) (fun _ _ _ h => h) (Or.inl ⟨by rfl, ?_⟩) (by assumption) ?_
        rotate_left 1
        · intro w hSw
          (try dsimp only at hSw)
          go_simp
          try with_reducible rfl
        try simp only [Act.put, List.setIfInBounds_toArray, List.set_cons_zero, List.set_cons_succ]
        refine wpAnyH_ready (rs := [6]) (by kernel_rfl) (by simp) ?_
        refine AllReadyH.cons rfl (fun K hK => ?_) AllReadyH.nil
        go_simp
        refine hK.out _ _ (HS4.out) (fun hHeld => ?_)
        clear hK K
        try simp only [Act.put, List.setIfInBounds_toArray, List.set_cons_zero, List.set_cons_succ]
        refine wpAnyH_done (by kernel_rfl) ?_ _
        go_wp2
        go_meet
        rfl
      case rest =>
        subst hcut
        go_wp2_with fail
        go_ret
        exact ⟨a, n + 1, _, rfl, HTR4.out, HT4.out, by omega, HG.out⟩
end Go.Proofs.YtbjbeddjaajdaaaGreatDoor
/- When one is at a node, remembered. -/
namespace Go.Proofs.YtbjbeddjaajdaaaGreatDoor
open Go.RowKit Go.Maps

def ArrOut (w0 w : World) (bt b n bm nn m : Nat) (G : Gph) (Ex : Nat → Prop) (v : Int) (e : Ending) (w' : World) : Prop := ∃ (n' : Nat) (f' : Int × Int → Option (Option Nat)), e = .returned (.int .i64 v) ∧ TripsR w0 w' bt b n' f' bm nn m G Ex ∧ n' ≤ n + 1 ∧ Gr b w w'
set_option maxRecDepth 100000 in
set_option maxHeartbeats 4000000 in
theorem w_Arrive (w0 w : World) (bt b n : Nat) (f : Int × Int → Option (Option Nat)) (bm g0 lo : Nat) (A B C : Option Addr) (ca cb cc : Nat) (M : MapA) (ns : List Node) (rs : List Arc) (bs : List Ban) (fr to_ : ByteArray) (ad : Int) (Ex : Nat → Prop)
    (hM : MapR w0 bm g0 lo A B C ca cb cc M ns rs bs) (hC : chk (arcF ns) none rs = 0) (hSN : SortN ns) (hds : ∀ s, 0 ≤ nodeI ns s → domS s) (hT : TripsR w0 w bt b n f bm ns.length rs.length (gphOf ns rs bs) Ex) (hEx : ∀ x, Ex x → x < w.heap.size) (hf : 0 ≤ nodeI ns fr) (ht : 0 ≤ nodeI ns to_) (hnl : ns.length ≤ 400) (ha : 0 ≤ ad ∧ ad ≤ 345686399999) (hn : n < 1000000) :
    Calls Tryz.prog 137 #[.pointer (some ⟨bt, 0, none⟩), .string fr, .string to_, .int .i64 ad] w (ArrOut w0 w bt b n bm ns.length rs.length (gphOf ns rs bs) Ex (gi (searchG (gphOf ns rs bs) (nodeN ns fr) ad).first (nodeN ns to_))) := by
  have hi : nodeN ns fr < ns.length := nodeN_lt hf
  have hj : nodeN ns to_ < ns.length := nodeN_lt ht
  have e1 : nodeI ns fr = ((nodeN ns fr : Nat) : Int) := by unfold nodeN; omega
  have e2 : nodeI ns to_ = ((nodeN ns to_ : Nat) : Int) := by unfold nodeN; omega
  have hF := search_found (gph_ok (bs := bs) hC) ha.1 (show nodeN ns fr < (gphOf ns rs bs).nn from hi)
  have HLKf := hide (fun W (hx : Nx w0 W) => look_run (hM.m1.nx hx) (hds fr hf) ((mapN_get hSN hf).trans (congrArg some e1)))
  have HLKt := hide (fun W (hx : Nx w0 W) => look_run (hM.m1.nx hx) (hds to_ ht) ((mapN_get hSN ht).trans (congrArg some e2)))
  have HTR := hide (fun W (hx : Nx w W) => w_Tree w0 W bt b n f bm g0 lo A B C ca cb cc M ns rs bs (nodeN ns fr) ad Ex hM hC (hT.step hx) (fun x hx2 => Nat.lt_of_lt_of_le (hEx x hx2) hx.sz) hi hnl ha hn)
  have HT := hide hT
  have HS := hide (fun W (hx : Nx w W) => (⟨nx_cell hx hT.lt ((cell_of_row w _ 0 _ _ _ hT.blk).trans rfl), nx_cell (hT.nx.trans hx) hM.lt hM.c1⟩ : W.cell? ⟨bt, 0, none⟩ = some (.pointer (some ⟨bm, 0, none⟩)) ∧ W.cell? ⟨bm, 1, none⟩ = some (.map (some M.b1))))
  have HFA := hide (hF.f0.1)
  have te : decide (ad ≥ 345686400000) = false := decide_eq_false (by omega)
  have te2 : decide (345686400000 ≤ ad) = false := decide_eq_false (by omega)
  clear hM hC hSN hds hT hEx hF e1 e2 hf ht
  generalize nodeN ns fr = i at *
  generalize nodeN ns to_ = j at *
  generalize gphOf ns rs bs = G at *
  generalize ns.length = nn at *
  generalize rs.length = m at *
  go_enter Tryz.func137, Tryz.ntmps137
  go_upto_region 3 with fail
  go_cut [9, 10] (fun u v wx => u = .int .i64 (i : Int) ∧ v = .int .i64 (j : Int) ∧ Nx w wx ∧ wx = w.drew)
  case first =>
    refine wp_region_held_drew (S := fun w' => (w'.cell? ⟨bt, 0, none⟩ = some (.pointer (some ⟨bm, 0, none⟩)) ∧ w'.cell? ⟨bm, 1, none⟩ = some (.map (some M.b1))) ∧ (Instr.lookup 219 (.map (some M.b1)) (.string fr) false).run Tryz.prog w' = .ok (.int .i64 (i : Int)) w' ∧ (Instr.lookup 219 (.map (some M.b1)) (.string to_) false).run Tryz.prog w' = .ok (.int .i64 (j : Int)) w') (by kernel_rfl) ?_ (fun hHeld => ?_)
    · exact ⟨HS.out _ (Nx.refl _).drew, HLKf.out _ (HT.out.nx.drew), HLKt.out _ (HT.out.nx.drew)⟩
    refine wpAnyH_take (i := 0) (oi := ⟨some 13, _, _, _, _, _⟩) (v := ?_) rfl (by kernel_rfl) (by kernel_rfl) (by kernel_rfl) (fun _ _ _ h => h) (Or.inl ⟨by rfl, ?_⟩) (by assumption) ?_
    rotate_left 1
    · intro w hSw
      (try dsimp only at hSw)
      go_simp
      try with_reducible rfl
    try simp only [Act.put, List.setIfInBounds_toArray, List.set_cons_zero, List.set_cons_succ]
    refine wpAnyH_take (i := 1) (oi := ⟨some 14, _, _, _, _, _⟩) (v := ?_) rfl (by kernel_rfl) (by kernel_rfl) (by kernel_rfl) (fun _ _ _ h => h) (Or.inl ⟨by rfl, ?_⟩) (by assumption) ?_
    rotate_left 1
    · intro w hSw
      (try dsimp only at hSw)
      go_simp
      try with_reducible rfl
    try simp only [Act.put, List.setIfInBounds_toArray, List.set_cons_zero, List.set_cons_succ]
    refine wpAnyH_take (i := 2) (oi := ⟨some 15, _, _, _, _, _⟩) (v := ?_) rfl (by kernel_rfl) (by kernel_rfl) (by kernel_rfl) (fun _ _ _ h => h) (Or.inl ⟨by rfl, ?_⟩) (by assumption) ?_
    rotate_left 1
    · intro w hSw
      (try dsimp only at hSw)
      go_simp
      try with_reducible rfl
    try simp only [Act.put, List.setIfInBounds_toArray, List.set_cons_zero, List.set_cons_succ]
    refine wpAnyH_take (i := 3) (oi := ⟨some 16, _, _, _, _, _⟩) (v := ?_) rfl (by kernel_rfl) (by kernel_rfl) (by kernel_rfl) (fun _ _ _ h => h) (Or.inl ⟨by rfl, ?_⟩) (by assumption) ?_
    rotate_left 1
    · intro w hSw
      (try dsimp only at hSw)
      go_simp
      try with_reducible rfl
    try simp only [Act.put, List.setIfInBounds_toArray, List.set_cons_zero, List.set_cons_succ]
    refine wpAnyH_take (i := 4) (oi := ⟨some 17, _, _, _, _, _⟩) (v := ?_) rfl (by kernel_rfl) (by kernel_rfl) (by kernel_rfl) (fun _ _ _ h => h) (Or.inl ⟨by rfl, ?_⟩) (by assumption) ?_
    rotate_left 1
    · intro w hSw
      (try dsimp only at hSw)
      go_simp
      try with_reducible rfl
    try simp only [Act.put, List.setIfInBounds_toArray, List.set_cons_zero, List.set_cons_succ]
    refine wpAnyH_take (i := 5) (oi := ⟨some 18, _, _, _, _, _⟩) (v := ?_) rfl (by kernel_rfl) (by kernel_rfl) (by kernel_rfl) (fun _ _ _ h => h) (Or.inl ⟨by rfl, ?_⟩) (by assumption) ?_
    rotate_left 1
    · intro w hSw
      (try dsimp only at hSw)
      go_simp
      try with_reducible rfl
    try simp only [Act.put, List.setIfInBounds_toArray, List.set_cons_zero, List.set_cons_succ]
    refine wpAnyH_take (i := 6) (oi := ⟨some 19, _, _, _, _, _⟩) (v := ?_) rfl (by kernel_rfl) (by kernel_rfl) (by kernel_rfl) (fun _ _ _ h => h) (Or.inl ⟨by rfl, ?_⟩) (by assumption) ?_
    rotate_left 1
    · intro w hSw
      (try dsimp only at hSw)
      go_simp
      try with_reducible rfl
    try simp only [Act.put, List.setIfInBounds_toArray, List.set_cons_zero, List.set_cons_succ]
    refine wpAnyH_take (i := 7) (oi := ⟨some 20, _, _, _, _, _⟩) (v := ?_) rfl (by kernel_rfl) (by kernel_rfl) (by kernel_rfl) (fun _ _ _ h => h) (Or.inl ⟨by rfl, ?_⟩) (by assumption) ?_
    rotate_left 1
    · intro w hSw
      (try dsimp only at hSw)
      go_simp
      try with_reducible rfl
    try simp only [Act.put, List.setIfInBounds_toArray, List.set_cons_zero, List.set_cons_succ]
    refine wpAnyH_take (i := 8) (oi := ⟨some 21, _, _, _, _, _⟩) (v := ?_) rfl (by kernel_rfl) (by kernel_rfl) (by kernel_rfl) (fun _ _ _ h => h) (Or.inl ⟨by rfl, ?_⟩) (by assumption) ?_
    rotate_left 1
    · intro w hSw
      (try dsimp only at hSw)
      go_simp
      try with_reducible rfl
    try simp only [Act.put, List.setIfInBounds_toArray, List.set_cons_zero, List.set_cons_succ]
    refine wpAnyH_take (i := 9) (oi := ⟨some 22, _, _, _, _, _⟩) (v := ?_) rfl (by kernel_rfl) (by kernel_rfl) (by kernel_rfl) (fun _ _ _ h => h) (Or.inl ⟨by rfl, ?_⟩) (by assumption) ?_
    rotate_left 1
    · intro w hSw
      (try dsimp only at hSw)
      go_simp
      try with_reducible rfl
    try simp only [Act.put, List.setIfInBounds_toArray, List.set_cons_zero, List.set_cons_succ]
    refine wpAnyH_take (i := 10) (oi := ⟨some 23, _, _, _, _, _⟩) (v := ?_) rfl (by kernel_rfl) (by kernel_rfl) (by kernel_rfl) (fun _ _ _ h => h) (Or.inl ⟨by rfl, ?_⟩) (by assumption) ?_
    rotate_left 1
    · intro w hSw
      (try dsimp only at hSw)
      go_simp
      try with_reducible rfl
    try simp only [Act.put, List.setIfInBounds_toArray, List.set_cons_zero, List.set_cons_succ]
    refine wpAnyH_take (i := 11) (oi := ⟨some 24, _, _, _, _, _⟩) (v := ?_) rfl (by kernel_rfl) (by kernel_rfl) (by kernel_rfl) (fun _ _ _ h => h) (Or.inl ⟨by rfl, ?_⟩) (by assumption) ?_
    rotate_left 1
    · intro w hSw
      (try dsimp only at hSw)
      go_simp
      try with_reducible rfl
    try simp only [Act.put, List.setIfInBounds_toArray, List.set_cons_zero, List.set_cons_succ]
    refine wpAnyH_take (i := 12) (oi := ⟨some 25, _, _, _, _, _⟩) (v := ?_) rfl (by kernel_rfl) (by kernel_rfl) (by kernel_rfl) (fun _ _ _ h => h) (Or.inl ⟨by rfl, ?_⟩) (by assumption) ?_
    rotate_left 1
    · intro w hSw
      (try dsimp only at hSw)
      go_simp
      try with_reducible rfl
    try simp only [Act.put, List.setIfInBounds_toArray, List.set_cons_zero, List.set_cons_succ]
    refine wpAnyH_take (i := 13) (oi := ⟨some 26, _, _, _, _, _⟩) (v := ?_) rfl (by kernel_rfl) (by kernel_rfl) (by kernel_rfl) (fun _ _ _ h => h) (Or.inl ⟨by rfl, ?_⟩) (by assumption) ?_
    rotate_left 1
    · intro w hSw
      (try dsimp only at hSw)
      go_simp
      try with_reducible rfl
    try simp only [Act.put, List.setIfInBounds_toArray, List.set_cons_zero, List.set_cons_succ]
    refine wpAnyH_take (i := 14) (oi := ⟨some 27, _, _, _, _, _⟩) (v := ?_) rfl (by kernel_rfl) (by kernel_rfl) (by kernel_rfl) (fun _ _ _ h => h) (Or.inl ⟨by rfl, ?_⟩) (by assumption) ?_
    rotate_left 1
    · intro w hSw
      (try dsimp only at hSw)
      go_simp
      try with_reducible rfl
    try simp only [Act.put, List.setIfInBounds_toArray, List.set_cons_zero, List.set_cons_succ]
    refine wpAnyH_take (i := 15) (oi := ⟨some 28, _, _, _, _, _⟩) (v := ?_) rfl (by kernel_rfl) (by kernel_rfl) (by kernel_rfl) (fun _ _ _ h => h) (Or.inl ⟨by rfl, ?_⟩) (by assumption) ?_
    rotate_left 1
    · intro w hSw
      (try dsimp only at hSw)
      go_simp
      try with_reducible rfl
    try simp only [Act.put, List.setIfInBounds_toArray, List.set_cons_zero, List.set_cons_succ]
    refine wpAnyH_take (i := 16) (oi := ⟨some 29, _, _, _, _, _⟩) (v := ?_) rfl (by kernel_rfl) (by kernel_rfl) (by kernel_rfl) (fun _ _ _ h => h) (Or.inl ⟨by rfl, ?_⟩) (by assumption) ?_
    rotate_left 1
    · intro w hSw
      (try dsimp only at hSw)
      go_simp
      try with_reducible rfl
    try simp only [Act.put, List.setIfInBounds_toArray, List.set_cons_zero, List.set_cons_succ]
    refine wpAnyH_take (i := 17) (oi := ⟨some 30, _, _, _, _, _⟩) (v := ?_) rfl (by kernel_rfl) (by kernel_rfl) (by kernel_rfl) (fun _ _ _ h => h) (Or.inl ⟨by rfl, ?_⟩) (by assumption) ?_
    rotate_left 1
    · intro w hSw
      (try dsimp only at hSw)
      go_simp
      try with_reducible rfl
    try simp only [Act.put, List.setIfInBounds_toArray, List.set_cons_zero, List.set_cons_succ]
    refine wpAnyH_take (i := 18) (oi := ⟨some 9, _, _, _, _, _⟩) (v := ?_) rfl (by kernel_rfl) (by kernel_rfl) (by kernel_rfl) (fun _ _ _ h => h) (Or.inl ⟨by rfl, ?_⟩) (by assumption) ?_
    rotate_left 1
    · intro w hSw
      (try dsimp only at hSw)
      go_simp
      try with_reducible rfl
    try simp only [Act.put, List.setIfInBounds_toArray, List.set_cons_zero, List.set_cons_succ]
    refine wpAnyH_take (i := 19) (oi := ⟨some 10, _, _, _, _, _⟩) (v := ?_) rfl (by kernel_rfl) (by kernel_rfl) (by kernel_rfl) (fun _ _ _ h => h) (Or.inl ⟨by rfl, ?_⟩) (by assumption) ?_
    rotate_left 1
    · intro w hSw
      (try dsimp only at hSw)
      go_simp
      try with_reducible rfl
    try simp only [Act.put, List.setIfInBounds_toArray, List.set_cons_zero, List.set_cons_succ]
    refine wpAnyH_done (by kernel_rfl) ?_ _
    go_wp2
    go_meet
    exact ⟨rfl, rfl, (Nx.refl _).drew, rfl⟩
  case rest =>
    obtain ⟨rfl, rfl, hx, rfl⟩ := hcut
    by_cases hij : i = j
    · subst hij
      have tq : ((i : Int) == (i : Int)) = true := by simp
      have HF := HFA.out
      generalize gi (searchG G i ad).first i = z at *
      subst HF
      go_wp2_with fail
      go_ret
      exact ⟨n, f, rfl, HT.out.step hx, by omega, Gr.of_nx hx⟩
    · have tq : ((i : Int) == (j : Int)) = false := by rw [beq_eq_false_iff_ne]; omega
      have HR := hide (HTR.out _ hx)
      clear HTR hij
      go_wp2_with fail
      refine HR.out.mono ?_
      rintro e w3 ⟨a, n', f', rfl, hTR, hT3, hn3, hg3⟩
      have t3 : w3.cell? ⟨a.T, 3, none⟩ = some (.slice (some ⟨a.gF, 0, none⟩) nn nn) := (cell_of_row w3 _ 3 _ _ _ hTR.hT).trans rfl
      have x0 := intRow_cell hTR.hF (i := j) (by rw [hTR.lF]; exact hj)
      have hTl := lt_of_heap hTR.hT
      have hFl := lt_of_heap hTR.hF
      have i1 : (0 : Int) ≤ (j : Int) := by omega
      have i2 : (j : Int) < (nn : Int) := by omega
      have HT3 := hide hT3
      have HG3 := hide hg3
      clear hTR hT3 hg3 HT HS HR
      generalize gi (searchG G i ad).first j = z at *
      go_wp2_with fail
      go_ret
      exact ⟨n', f', rfl, HT3.out, hn3, (Gr.of_nx hx).trans HG3.out⟩
end Go.Proofs.YtbjbeddjaajdaaaGreatDoor
/- The node from which another one is reached first: the program. -/
namespace Go.Proofs.YtbjbeddjaajdaaaGreatDoor
open Go.RowKit

def nearV (p : Int × Int) (F : Int) : Value := .tuple #[.int .i64 (if p.1 < 0 then 0 else p.1), .int .i64 (if p.1 < 0 then 0 else p.2), .bool (decide (0 ≤ p.1)), .int .i64 F]
end Go.Proofs.YtbjbeddjaajdaaaGreatDoor
/- 'out = append(out, y)' at a step of a region that draws. Of no program. -/
namespace Go.Proofs.YtbjbeddjaajdaaaGreatDoor
open Go.RowKit
theorem step_app {α : Type} {P : Program} {w : World} {ops : Array Oper} {o : Oper} {a : Act} {K' : Act → World → Prop} {Q : Exit → Act → World → Prop} {E' : Prop} (hgd : o.guard = none) (s x : Operand) (t : TypeId)
    (ho : o.op = .call { callee := .builtin .append, args := #[s, x], argTypes := #[t, t] })
    {e : TypeId} {K bytes : Nat} (E : ElemOf P t e K bytes) (enc : α → List Value) (hk : ∀ x, (enc x).length = K) (h1c : ∀ x, ∀ v ∈ enc x, v.oneCell' = true) (hK : 0 < K) (hB : bytes ≤ 1000)
    (base : Nat) (v : Value) (L : List α) (hs : a.eval s = v) (hown : w.ownsRow base e K v L.length (L.flatMap enc)) (g : Nat) (y : α) (cs : Array Value) (hx : a.eval x = .slice (some ⟨g, 0, none⟩) 1 1)
    (hblk : w.heap[g]? = some (.cells cs e (0, 0))) (hcs : cs.toList = enc y) (hlen : L.length ≤ 10000000) (hbase : base ≤ w.heap.size)
    (h : ∀ v' w', w'.ownsRow base e K v' (L ++ [y]).length ((L ++ [y]).flatMap enc) → w.grownBy w' v.ownBlock → (∀ b, v'.ownBlock = some b → v.ownBlock = some b ∨ b = w.heap.size) → K' (a.put o.dst v') w') :
    if Region.wanted o (yielded ops a.tmps) = true then Oper.wp P o a w K' Q else E' := by
  obtain ⟨i, z, h1, h2, h3, h4, h5⟩ := E.hi
  refine step_append_lies w hgd s x t ho base e i z K bytes E.ht h1 h2 h3 h4 h5 hK v L.length _ hs hown ⟨g, 0, none⟩ 1 1 (enc y) hx (by rw [hk]; omega) (news_of hblk hcs) (h1c y) (by omega) (by unfold maxLen; omega) ?_ hbase _ rfl ?_
  · have : (L.length + 1) * bytes ≤ 10000001 * 1000 := Nat.mul_le_mul (by omega) hB
    omega
  · intro g' cap w' ho' hg' hat _
    have e1 : (L ++ [y]).length = L.length + 1 := by simp
    refine h _ w' (by rw [e1, List.flatMap_append]; simpa using ho') hg' (fun b hb => ?_)
    have : g' = b := by simpa [Value.ownBlock] using hb
    subst this
    exact hat
/-- .. at an operation of a region that does not draw. -/
theorem wpApp2 {α : Type} {P : Program} {w : World} {ops : Array Oper} {rest : List Oper} {o : Oper} {a : Act} {Q : Exit → Act → World → Prop} (hgd : o.guard = none) (s x : Operand) (t : TypeId)
    (ho : o.op = .call { callee := .builtin .append, args := #[s, x], argTypes := #[t, t] })
    {e : TypeId} {K bytes : Nat} (E : ElemOf P t e K bytes) (enc : α → List Value) (hk : ∀ x, (enc x).length = K) (h1c : ∀ x, ∀ v ∈ enc x, v.oneCell' = true) (hK : 0 < K) (hB : bytes ≤ 1000)
    (base : Nat) (v : Value) (L : List α) (hs : a.eval s = v) (hown : w.ownsRow base e K v L.length (L.flatMap enc)) (g : Nat) (y : α) (cs : Array Value) (hx : a.eval x = .slice (some ⟨g, 0, none⟩) 1 1)
    (hblk : w.heap[g]? = some (.cells cs e (0, 0))) (hcs : cs.toList = enc y) (hlen : L.length ≤ 10000000) (hbase : base ≤ w.heap.size)
    (h : ∀ v' w', w'.ownsRow base e K v' (L ++ [y]).length ((L ++ [y]).flatMap enc) → w.grownBy w' v.ownBlock → (∀ b, v'.ownBlock = some b → v.ownBlock = some b ∨ b = w.heap.size) → wpList P ops Q rest (a.put o.dst v') w') : wpList P ops Q (o :: rest) a w := by
  obtain ⟨i, z, h1, h2, h3, h4, h5⟩ := E.hi
  refine wpList_append_lies w hgd s x t ho base e i z K bytes E.ht h1 h2 h3 h4 h5 hK v L.length _ hs hown ⟨g, 0, none⟩ 1 1 (enc y) hx (by rw [hk]; omega) (news_of hblk hcs) (h1c y) (by omega) (by unfold maxLen; omega) ?_ hbase _ rfl ?_
  · have : (L.length + 1) * bytes ≤ 10000001 * 1000 := Nat.mul_le_mul (by omega) hB
    omega
  · intro g' cap w' ho' hg' hat _
    have e1 : (L ++ [y]).length = L.length + 1 := by simp
    refine h _ w' (by rw [e1, List.flatMap_append]; simpa using ho') hg' (fun b hb => ?_)
    have : g' = b := by simpa [Value.ownBlock] using hb
    subst this
    exact hat
end Go.Proofs.YtbjbeddjaajdaaaGreatDoor
/- Which weights are reached from a node: the program. -/
namespace Go.Proofs.YtbjbeddjaajdaaaGreatDoor
open Go.RowKit

def reachB (ns : List Node) (rs : List Arc) (bs : List Ban) (ad wi : Int) (s t : ByteArray) : Bool := decide (arrS ns rs bs s t ad < endT ∧ arrS ns rs bs s t ad - ad ≤ wi)
theorem el_Bo : ElemOf Tryz.prog 154 4 1 1 := ElemOf.mk' (z := .bool false) Tryz.underlying154 (by kernel_rfl) rfl
def ReachedOut (w0 w : World) (bt b q bm nn m : Nat) (G : Gph) (Ex : Nat → Prop) (row : List Bool) (e : Ending) (w' : World) : Prop := ∃ (v : Value) (q' : Nat) (f' : Int × Int → Option (Option Nat)), e = .returned v ∧ w'.ownsRow w.heap.size 4 1 v row.length (row.flatMap encBo) ∧ TripsR w0 w' bt b q' f' bm nn m G (fun x => Ex x ∨ v.ownBlock = some x) ∧ q' ≤ q + row.length ∧ Gr b w w'
set_option maxRecDepth 100000 in
set_option maxHeartbeats 4000000 in
theorem w_reached (w0 w : World) (bt b q : Nat) (f : Int × Int → Option (Option Nat)) (bm g0 lo : Nat) (A B C : Option Addr) (ca cb cc : Nat) (M : MapA) (ns : List Node) (rs : List Arc) (bs : List Ban) (fr : ByteArray) (lo2 : Nat) (D : Option Addr) (cd : Nat) (l : List Wgt) (ad wi : Int) (Ex : Nat → Prop)
    (hM : MapR w0 bm g0 lo A B C ca cb cc M ns rs bs) (hC : chk (arcF ns) none rs = 0) (hSN : SortN ns) (hds : ∀ s, 0 ≤ nodeI ns s → domS s) (hT : TripsR w0 w bt b q f bm ns.length rs.length (gphOf ns rs bs) Ex) (hEx : ∀ x, Ex x → x < w.heap.size) (hf : 0 ≤ nodeI ns fr) (hnl : ns.length ≤ 400) (ha : 0 ≤ ad ∧ ad ≤ 345686399999) (_hwi : 0 ≤ wi ∧ wi ≤ 86400000)
    (hD : Rd w0 lo2 D 2 encW l) (hl : l.length ≤ 500) (hb : ∀ x ∈ l, 0 ≤ nodeI ns x.node) (hq : q + l.length < 1000000) :
    Calls Tryz.prog 88 #[.pointer (some ⟨bt, 0, none⟩), .string fr, .slice D l.length cd, .int .i64 ad, .int .i64 wi] w (ReachedOut w0 w bt b q bm ns.length rs.length (gphOf ns rs bs) Ex (l.map fun x => reachB ns rs bs ad wi fr x.node)) := by
  have HAR := hide (fun W n f (Ex' : Nat → Prop) (hT : TripsR w0 W bt b n f bm ns.length rs.length (gphOf ns rs bs) Ex') (hx : ∀ x, Ex' x → x < W.heap.size) t (ht : 0 ≤ nodeI ns t) hn => w_Arrive w0 W bt b n f bm g0 lo A B C ca cb cc M ns rs bs fr t ad Ex' hM hC hSN hds hT hx hf ht hnl ha hn)
  have HIX := hide (fun t (ht : 0 ≤ nodeI ns t) => (show (gi (searchG (gphOf ns rs bs) (nodeN ns fr) ad).first (nodeN ns t) < 0 ∧ arrS ns rs bs fr t ad = endT) ∨ (0 ≤ gi (searchG (gphOf ns rs bs) (nodeN ns fr) ad).first (nodeN ns t) ∧ arrS ns rs bs fr t ad = gi (searchG (gphOf ns rs bs) (nodeN ns fr) ad).first (nodeN ns t) ∧ gi (searchG (gphOf ns rs bs) (nodeN ns fr) ad).first (nodeN ns t) < endT ∧ ad ≤ gi (searchG (gphOf ns rs bs) (nodeN ns fr) ad).first (nodeN ns t)) from arr_ix (bs := bs) hC (nodeN_lt hf) (nodeN_lt ht) ha.1 (by unfold endT; omega)))
  have HB := hide hb
  have HDD := hide hD
  have HTT0 := hide hT
  have HXX := hide hEx
  have HMB := hide ha
  have HBS := hide (show b < w.heap.size from hT.mp.lt)
  clear hM hC hSN hds hT hEx hf hnl hb hD ha
  obtain ⟨P, hP⟩ : ∃ P : ByteArray → Bool, P = reachB ns rs bs ad wi fr := ⟨_, rfl⟩
  have HPV := hide (fun t (ht : 0 ≤ nodeI ns t) => (show P t = decide (0 ≤ gi (searchG (gphOf ns rs bs) (nodeN ns fr) ad).first (nodeN ns t) ∧ gi (searchG (gphOf ns rs bs) (nodeN ns fr) ad).first (nodeN ns t) - ad ≤ wi) by
    rw [hP]; unfold reachB; exact (decide_eq_decide.2 (reach_test (HIX.out t ht))).symm))
  have HZB := hide (fun t (ht : 0 ≤ nodeI ns t) => (show gi (searchG (gphOf ns rs bs) (nodeN ns fr) ad).first (nodeN ns t) < 345686400000 by have h := HIX.out t ht; unfold endT at h; omega))
  rw [show (fun x : Wgt => reachB ns rs bs ad wi fr x.node) = fun x => P x.node by rw [hP]]
  clear hP HIX
  generalize gphOf ns rs bs = G at *
  generalize ns.length = nn at *
  generalize rs.length = m at *
  obtain ⟨ROW, hROW⟩ : ∃ ROW, ROW = l.map (fun x => P x.node) := ⟨_, rfl⟩
  have HRL := hide (show ROW.length = l.length by rw [hROW, List.length_map])
  rw [← hROW]
  have HROW := hide hROW
  clear hROW
  generalize hln : l.length = n at *
  have HLN := hide hln
  clear hln
  go_enter Tryz.func88, Tryz.ntmps88
  go_wp2_with fail
  go_loopw [11, 17] (fun vr u wi' => ∃ (j : Nat) (acc : List Bool) (q' : Nat) (fm' : Int × Int → Option (Option Nat)), j ≤ n ∧ u = .int .i64 j ∧ acc.length = j ∧ ROW = acc ++ (l.drop j).map (fun x => P x.node) ∧ wi'.ownsRow w.heap.size 4 1 vr acc.length (acc.flatMap encBo) ∧ TripsR w0 wi' bt b q' fm' bm nn m G (fun x => Ex x ∨ vr.ownBlock = some x) ∧ q' ≤ q + j ∧ Gr b w wi') (fun _ u _ => n - (intOf u).toNat)
  case atStart => exact ⟨0, [], q, f, Nat.zero_le _, rfl, rfl, HROW.out, World.ownsRow_nil _ _ _ _, HTT0.out.more (fun x h => .inl (h.elim id (fun h => by cases h))), Nat.le_refl _, Gr.refl _ _⟩
  case round =>
    obtain ⟨j, acc, q', fm', hj, rfl, hac, hqr, hown, hT, hqj, hgw⟩ := hrel
    have HQR := hide hqr
    have HTI := hide hT
    have HOI := hide hown
    have HGW := hide hgw
    have HAC := hide hac
    have hszi : w.heap.size ≤ wr.heap.size := hgw.sz
    have hbs : b < wr.heap.size := Nat.lt_of_lt_of_le HBS.out hgw.sz
    clear hqr hT hown hgw hac
    by_cases hlj : j < n
    · have hlj' : j < l.length := by have := HLN.out; omega
      have hwi2 := HTI.out.nx
      obtain ⟨yb, yo, rfl, _, hyb, hyb1, hyc⟩ := HDD.out.open_ hwi2 (by omega)
      have c0 : wr.cell? ⟨yb, yo + j * 2, none⟩ = some (.string l[j].node) := hyc j hlj' 0 _ rfl
      have c1 : wr.cell? ⟨yb, yo + j * 2 + 1, none⟩ = some (.int .i64 l[j].many) := hyc j hlj' 1 _ rfl
      have HDJ := hide (map_drop (fun x : Wgt => P x.node) l j hlj')
      have ht := HB.out _ (List.getElem_mem hlj')
      have hpv := HPV.out _ ht
      have hzb := HZB.out _ ht
      have HA := hide (HAR.out (wr.alloc (.cells #[.string l[j].node, .int .i64 l[j].many] 86)) q' fm' _ (HTI.out.step ((Nx.refl wr).alloc _)) (fun x hx => Nat.lt_of_lt_of_le (hx.elim (fun h => Nat.lt_of_lt_of_le (HXX.out x h) hszi) (fun h => (HOI.out.lt x h).2)) (by simp)) l[j].node ht (by omega))
      have HOA := hide (HOI.out.alloc (.cells #[.string l[j].node, .int .i64 l[j].many] 86))
      have HGA := hide (HGW.out.alloc (.cells #[.string l[j].node, .int .i64 l[j].many] 86))
      clear hyc ht hwi2
      generalize l[j].node = t at *
      generalize gi (searchG G (nodeN ns fr) ad).first (nodeN ns t) = z at *
      have hbs2 : b < (wr.alloc (.cells #[.string t, .int .i64 l[j].many] 86)).heap.size := by simp; omega
      have HX2 := hide (fun x (hx : u11.ownBlock = some x) => (show w0.heap.size ≤ x by have h1 := (HOI.out.lt x hx).1; have h2 := HTT0.out.nx.sz; omega))
      clear HPV
      go_wp2_with fail
      refine HA.out.mono ?_
      rintro e w7 ⟨q7, fm7, rfl, hT7, hq7, hg7⟩
      have HT7 := hide hT7
      have HG7 := hide hg7
      have hO7 := own_gr HOA.out hg7 HBS.out
      have HO7 := hide hO7
      have hwz7 : w.heap.size ≤ w7.heap.size := Nat.le_trans hszi (Nat.le_trans (by simp) hg7.sz)
      clear hT7 hg7 c0 c1 HA hO7
      by_cases h1 : 0 ≤ z
      · have e1 : decide (z ≥ 0) = true := decide_eq_true h1
        have e1' : decide (0 ≤ z) = true := decide_eq_true h1
        have k1 : IntKind.i64.wrap (z - ad) = z - ad := IntWalk.i64_in _ (by have := HMB.out; omega)
        by_cases h2 : z - ad ≤ wi
        · have e2 : decide (z - ad ≤ wi) = true := decide_eq_true h2
          have HPV := hide (show P t = true by rw [hpv]; exact decide_eq_true ⟨h1, h2⟩)
          clear h1 h2 hpv
          go_wp2_with (at_builtin; refine wpApp2 rfl _ _ _ rfl el_Bo encBo encBo_len encBo_one (by omega) (by omega) w.heap.size _ acc rfl (HO7.out.alloc _) _ true _ rfl (hnew rfl) rfl (by have := HAC.out; omega) (by simp; omega) ?_; intro v9 w9 hown9 hg9 hat9; (have HO9 := hide hown9); (have HG9 := hide hg9); (have HA9 := hide hat9); clear hown9 hg9 hat9)
          go_roundw
          case rel =>
            refine ⟨j + 1, acc ++ [true], q7, fm7, by omega, by go_num, by have := HAC.out; simp; omega, by rw [HQR.out, HDJ.out, HPV.out]; simp, HO9.out, ?_, by omega, ?_⟩
            · exact HT7.out.push HG9.out (fun x hx => ⟨.inr hx, HX2.out x hx⟩) (fun x hx => hx.elim (fun h => .inl (.inl h)) (fun h => (HA9.out x h).elim (fun e => .inl (.inr e)) .inr))
            · exact ((HGA.out.trans HG7.out).alloc _).grown HG9.out (fun x hx => .inr (own_blk_lt HO7.out x hx))
          case measure => simp [intOf]; omega
        · have e2 : decide (z - ad ≤ wi) = false := decide_eq_false h2
          have HPV := hide (show P t = false by rw [hpv]; exact decide_eq_false (fun h => h2 h.2))
          clear h1 h2 hpv
          go_wp2_with (at_builtin; refine wpApp2 rfl _ _ _ rfl el_Bo encBo encBo_len encBo_one (by omega) (by omega) w.heap.size _ acc rfl (HO7.out.alloc _) _ false _ rfl (hnew rfl) rfl (by have := HAC.out; omega) (by simp; omega) ?_; intro v9 w9 hown9 hg9 hat9; (have HO9 := hide hown9); (have HG9 := hide hg9); (have HA9 := hide hat9); clear hown9 hg9 hat9)
          go_roundw
          case rel =>
            refine ⟨j + 1, acc ++ [false], q7, fm7, by omega, by go_num, by have := HAC.out; simp; omega, by rw [HQR.out, HDJ.out, HPV.out]; simp, HO9.out, ?_, by omega, ?_⟩
            · exact HT7.out.push HG9.out (fun x hx => ⟨.inr hx, HX2.out x hx⟩) (fun x hx => hx.elim (fun h => .inl (.inl h)) (fun h => (HA9.out x h).elim (fun e => .inl (.inr e)) .inr))
            · exact ((HGA.out.trans HG7.out).alloc _).grown HG9.out (fun x hx => .inr (own_blk_lt HO7.out x hx))
          case measure => simp [intOf]; omega
      · have e1 : decide (z ≥ 0) = false := decide_eq_false h1
        have e1' : decide (0 ≤ z) = false := decide_eq_false h1
        have HPV := hide (show P t = false by rw [hpv]; exact decide_eq_false (fun h => h1 h.1))
        clear h1 hpv
        go_wp2_with (at_builtin; refine wpApp2 rfl _ _ _ rfl el_Bo encBo encBo_len encBo_one (by omega) (by omega) w.heap.size _ acc rfl (HO7.out.alloc _) _ false _ rfl (hnew rfl) rfl (by have := HAC.out; omega) (by simp; omega) ?_; intro v9 w9 hown9 hg9 hat9; (have HO9 := hide hown9); (have HG9 := hide hg9); (have HA9 := hide hat9); clear hown9 hg9 hat9)
        go_roundw
        case rel =>
          refine ⟨j + 1, acc ++ [false], q7, fm7, by omega, by go_num, by have := HAC.out; simp; omega, by rw [HQR.out, HDJ.out, HPV.out]; simp, HO9.out, ?_, by omega, ?_⟩
          · exact HT7.out.push HG9.out (fun x hx => ⟨.inr hx, HX2.out x hx⟩) (fun x hx => hx.elim (fun h => .inl (.inl h)) (fun h => (HA9.out x h).elim (fun e => .inl (.inr e)) .inr))
          · exact ((HGA.out.trans HG7.out).alloc _).grown HG9.out (fun x hx => .inr (own_blk_lt HO7.out x hx))
        case measure => simp [intOf]; omega
    · obtain rfl : n = j := by omega
      have hRA : ROW = acc := by rw [HQR.out, List.drop_of_length_le (by have := HLN.out; omega)]; simp
      subst hRA
      go_wp2_with fail
      go_ret
      exact ⟨_, q', fm', rfl, HOI.out, HTI.out, by have := HAC.out; omega, HGW.out⟩
end Go.Proofs.YtbjbeddjaajdaaaGreatDoor
/- How long the ways between nodes take: the program. -/
namespace Go.Proofs.YtbjbeddjaajdaaaGreatDoor
open Go.RowKit

theorem el_Rows : ElemOf Tryz.prog 220 22 1 24 := ElemOf.mk' (z := .slice none 0 0) Tryz.underlying220 (by kernel_rfl) rfl
def MatOut (w : World) (rows : List (List Int)) (F : Int) (e : Ending) (w' : World) : Prop := ∃ (Z : Option Addr) (c : Nat) (es : List RowE), es.map (·.l) = rows ∧ e = .returned (.tuple #[.slice Z es.length c, .int .i64 F]) ∧ Rd w' 0 Z 1 encRow es ∧ (∀ r ∈ es, Rd w' 0 r.a 1 encI r.l) ∧ Nx w w'
end Go.Proofs.YtbjbeddjaajdaaaGreatDoor
/- How much is covered from some nodes: the program. -/
namespace Go.Proofs.YtbjbeddjaajdaaaGreatDoor
open Go.RowKit

theorem restF_ok {ns : List Node} {l : List Wgt} {ad wi : Int} (h : restF ns l ad wi = 0) : wgtsF ns l = 0 ∧ momB ad = true ∧ 0 ≤ wi ∧ wi ≤ 86400000 := by
  unfold restF at h
  by_cases h0 : wgtsF ns l = 0
  · rw [if_pos h0] at h
    unfold argF at h
    cases hm : momB ad with
    | false => rw [hm, Bool.false_and, if_neg (by simp)] at h; exact absurd h (by decide)
    | true =>
      cases ho : outB wi 0 86400000 with
      | true => rw [hm, ho] at h; exact absurd h (by decide)
      | false => exact ⟨h0, rfl, (outB_false).1 ho⟩
  · rw [if_neg h0] at h; exact absurd h h0
/-- What is wrong with what Covered is asked (of no more than 200 nodes). -/
def coverF (ns : List Node) (rs : List Arc) (bs : List Ban) (l : List ByteArray) (ws : List Wgt) (ad wi : Int) : Int := if roadsF ns rs bs = 0 then (if missB ns l = true then 8 else restF ns ws ad wi) else roadsF ns rs bs
def coverV (ns : List Node) (rs : List Arc) (bs : List Ban) (l : List ByteArray) (ws : List Wgt) (ad wi : Int) : Int := if coverF ns rs bs l ws ad wi = 0 then covS (reachB ns rs bs ad wi) l ws else 0
theorem el_RowB : ElemOf Tryz.prog 153 154 1 24 := ElemOf.mk' (z := .slice none 0 0) Tryz.underlying153 (by kernel_rfl) rfl
/-- Rows of the call's own. -/
def OwnRowsB (w : World) (base : Nat) (es : List RowB) : Prop := ∀ r ∈ es, w.ownsRow base 4 1 (.slice r.a r.l.length r.c) r.l.length (r.l.flatMap encBo)
theorem OwnRowsB.gr {w w' : World} {base s : Nat} {es : List RowB} (h : OwnRowsB w base es) (hn : Gr s w w') (hs : s < base) : OwnRowsB w' base es := fun r hr => own_gr (h r hr) hn hs
theorem OwnRowsB.nx {w w' : World} {base : Nat} {es : List RowB} (h : OwnRowsB w base es) (hn : Nx w w') : OwnRowsB w' base es := fun r hr => own_nx (h r hr) hn
theorem OwnRowsB.rows {w : World} {base n : Nat} {es : List RowB} (h : OwnRowsB w base es) (hl : ∀ r ∈ es, r.l.length = n) : RowsB w 0 es n := fun r hr => ⟨by
  obtain ⟨A', c', e, h2, _⟩ := Rd.of_own encBo_len rfl (h r hr)
  injection e with e _ _
  rw [e]
  exact h2.low (Nat.zero_le _), hl r hr⟩
end Go.Proofs.YtbjbeddjaajdaaaGreatDoor
/- Plain: what the law NodesReached weighs. -/
namespace Go.Proofs.YtbjbeddjaajdaaaGreatDoor
open Go.RowKit

theorem getD_in {α : Type} {l : List α} {i : Nat} {d : α} (h : i < l.length) : l.getD i d = l[i] := by rw [List.getD_eq_getElem?_getD, List.getElem?_eq_getElem h]; rfl
theorem reach_or {ns : List Node} {rs : List Arc} {bs : List Ban} {f : ByteArray} {ad wi : Int} (h : roadsF ns rs bs = 0) : orI [noneF ns f, momF ad, if outB wi 0 86400000 then 1 else 0] = reachF ns rs bs f ad wi := by
  unfold reachF endsF
  rw [if_pos h]
  unfold noneF momF argF
  by_cases h1 : nodeI ns f < 0
  · rw [if_pos h1, if_pos (show nodeI ns f < 0 ∨ nodeI ns f < 0 from .inl h1)]; rfl
  · rw [if_neg h1, if_neg (show ¬ (nodeI ns f < 0 ∨ nodeI ns f < 0) by omega)]
    cases momB ad <;> cases outB wi 0 86400000 <;> rfl
theorem near_or {ns : List Node} {rs : List Arc} {bs : List Ban} {l : List ByteArray} {t : ByteArray} {ad : Int} (h : roadsF ns rs bs = 0) (hl : l.length ≤ 200) : orI [askF ns l 200, noneF ns t, momF ad] = nearF ns rs bs l t ad := by
  unfold nearF
  rw [if_pos h]
  unfold askF noneF momF argF
  rw [if_neg (by omega)]
  cases h1 : missB ns l
  · rw [if_neg (show ¬ (false = true) by simp)]
    by_cases h2 : nodeI ns t < 0
    · rw [if_pos h2, if_pos (show false = true ∨ nodeI ns t < 0 from .inr h2)]; rfl
    · rw [if_neg h2, if_neg (show ¬ (false = true ∨ nodeI ns t < 0) from fun h => h.elim (by simp) h2)]
      cases momB ad <;> rfl
  · rw [if_pos rfl, if_pos (show true = true ∨ nodeI ns t < 0 from .inl rfl)]; rfl
theorem mat_or {ns : List Node} {rs : List Arc} {bs : List Ban} {l : List ByteArray} {ad : Int} (h : roadsF ns rs bs = 0) (hl : l.length ≤ 50) : orI [askF ns l 50, momF ad] = matF ns rs bs l ad := by
  unfold matF
  rw [if_pos h]
  unfold askF momF argF
  rw [if_neg (by omega)]
  cases h1 : missB ns l
  · rw [if_neg (show ¬ (false = true) by simp), if_neg (show ¬ (false = true) by simp)]
    cases momB ad <;> rfl
  · rw [if_pos rfl, if_pos rfl]; rfl
theorem reachF_ok {ns : List Node} {rs : List Arc} {bs : List Ban} {f : ByteArray} {ad wi : Int} (h : reachF ns rs bs f ad wi = 0) : roadsF ns rs bs = 0 ∧ 0 ≤ nodeI ns f ∧ momB ad = true ∧ 0 ≤ wi ∧ wi ≤ 86400000 := by
  unfold reachF at h
  split at h
  · rename_i he
    obtain ⟨h1, h2, _, h4⟩ := endsF_ok he
    split at h
    · exact absurd h (by decide)
    · rename_i ho
      unfold outB at ho
      simp at ho
      exact ⟨h1, h2, h4, by omega, by omega⟩
  · rename_i he
    exact absurd h he
theorem nearF_ok {ns : List Node} {rs : List Arc} {bs : List Ban} {l : List ByteArray} {t : ByteArray} {ad : Int} (h : nearF ns rs bs l t ad = 0) : roadsF ns rs bs = 0 ∧ (∀ s ∈ l, 0 ≤ nodeI ns s) ∧ 0 ≤ nodeI ns t ∧ momB ad = true := by
  unfold nearF at h
  split at h
  · rename_i hr
    split at h
    · exact absurd h (by decide)
    · rename_i hm
      split at h
      · rename_i hb
        exact ⟨hr, miss_all (by cases hq : missB ns l with | false => rfl | true => exact absurd (.inl hq) hm), by omega, hb⟩
      · exact absurd h (by decide)
  · rename_i hr
    exact absurd h hr
theorem matF_ok {ns : List Node} {rs : List Arc} {bs : List Ban} {l : List ByteArray} {ad : Int} (h : matF ns rs bs l ad = 0) : roadsF ns rs bs = 0 ∧ (∀ s ∈ l, 0 ≤ nodeI ns s) ∧ momB ad = true := by
  unfold matF at h
  split at h
  · rename_i hr
    split at h
    · exact absurd h (by decide)
    · rename_i hm
      split at h
      · rename_i hb
        exact ⟨hr, miss_all (by cases hq : missB ns l with | false => rfl | true => exact absurd hq hm), hb⟩
      · exact absurd h (by decide)
  · rename_i hr
    exact absurd h hr
theorem reachF_bad {ns : List Node} {rs : List Arc} {bs : List Ban} {f : ByteArray} {ad wi : Int} (h : roadsF ns rs bs ≠ 0) : reachF ns rs bs f ad wi = roadsF ns rs bs := by
  have he : endsF ns rs bs f f ad = roadsF ns rs bs := if_neg h
  unfold reachF
  rw [he, if_neg h]
theorem matL_at {ns : List Node} {rs : List Arc} {bs : List Ban} {l : List ByteArray} {ad : Int} {es : List RowE} (h : es.map (·.l) = matL ns rs bs l ad) : es.length = l.length ∧ ∀ i, i < l.length → (es.getD i default).l.length = l.length ∧ ∀ j, j < l.length → (es.getD i default).l.getD j 0 = matV (arrS ns rs bs (l.getD i default) (l.getD j default) ad) ad := by
  have hl : es.length = l.length := by have := congrArg List.length h; simpa [matL] using this
  refine ⟨hl, fun i hi => ?_⟩
  have he : (es.getD i default).l = matR ns rs bs l ad (l.getD i default) := by
    have h1 : (es.map (·.l))[i]? = (matL ns rs bs l ad)[i]? := by rw [h]
    unfold matL at h1
    rw [List.getElem?_map, List.getElem?_map, List.getElem?_eq_getElem (show i < es.length by omega), List.getElem?_eq_getElem hi] at h1
    rw [getD_in (show i < es.length by omega), getD_in hi]
    exact Option.some.inj h1
  rw [he]
  unfold matR
  refine ⟨by simp, fun j hj => ?_⟩
  rw [getD_in (show j < (List.map (fun t => matV (arrS ns rs bs (l.getD i default) t ad) ad) l).length by simpa using hj), List.getElem_map, getD_in hj]
theorem reachL_len (ns : List Node) (rs : List Arc) (bs : List Ban) (f : ByteArray) (ad wi : Int) : (reachL ns rs bs f ad wi).length ≤ ns.length := by
  unfold reachL
  split
  · exact rOf_len _ _ _ _ _
  · exact Nat.zero_le _
theorem wi_cases {a b wi E : Int} (h : orI [a, b, if outB wi 0 86400000 then 1 else 0] = E) : ∃ z : Int, orI [a, b, z] = E ∧ ((decide (wi < 0) = true ∧ z = 1) ∨ (decide (wi < 0) = false ∧ decide (wi > 86400000) = true ∧ z = 1) ∨ (decide (wi < 0) = false ∧ decide (wi > 86400000) = false ∧ z = 0)) := by
  refine ⟨_, h, ?_⟩
  unfold outB
  by_cases h1 : wi < 0
  · left; simp [h1]
  · right
    by_cases h2 : (86400000 : Int) < wi
    · left; simp [h1, h2]
    · right; simp [h1, h2]
theorem arrS_in {ns : List Node} {rs : List Arc} {bs : List Ban} {s t : ByteArray} {ad : Int} (hC : chk (arcF ns) none rs = 0) (hs : 0 ≤ nodeI ns s) (ht : 0 ≤ nodeI ns t) (ha : 0 ≤ ad ∧ ad ≤ 345686399999) : ad ≤ arrS ns rs bs s t ad ∧ arrS ns rs bs s t ad ≤ endT := by
  have h := arr_ix (bs := bs) hC (nodeN_lt hs) (nodeN_lt ht) ha.1 (show ad < endT by unfold endT; omega)
  unfold arrS
  rcases h with ⟨_, h⟩ | ⟨_, h1, h2, h3⟩
  · rw [h]; unfold endT; omega
  · rw [h1]; omega
theorem sort_of {ns : List Node} {rs : List Arc} {bs : List Ban} (h : roadsF ns rs bs = 0) : SortN ns := sortN_of (roads_ok h).1
def NearAt (F : Int) (V : ByteArray → Int) (l : List ByteArray) (k : Nat) (fi be : Int) (P : Int × Int) : Prop := (F = 0 → nearO V (l.drop k) k fi be = P) ∧ (F ≠ 0 → (fi, be) = P)
theorem NearAt.done {F : Int} {V : ByteArray → Int} {l : List ByteArray} {k : Nat} {fi be : Int} {P : Int × Int} (h : NearAt F V l k fi be P) (hk : l.length ≤ k) : (fi, be) = P := by
  by_cases hF : F = 0
  · have := h.1 hF
    rw [List.drop_eq_nil_of_le hk] at this
    exact this
  · exact h.2 hF
theorem near_if {F : Int} {V : ByteArray → Int} {l : List ByteArray} {P : Int × Int} (h0 : F = 0 → nearO V l 0 (-1) endT = P) (h1 : F ≠ 0 → P = (-1, endT)) : NearAt F V l 0 (-1) endT P := ⟨fun h => h0 h, fun h => (h1 h).symm⟩
theorem reachOf_pack {P : Program} {ns : List Node} {rs : List Arc} {bs : List Ban} {f : ByteArray} {ad wi : Int} (hF : reachF ns rs bs f ad wi = 0) {fn : Nat} {args : Array Value} {W : World}
    (h : Calls P fn args W fun e w' => ∃ (Z : Option Addr) (c : Nat), e = .returned (.slice Z (rOf (fun k => arrG (gphOf ns rs bs) (nodeN ns f) k ad) ad wi ns 0).length c) ∧ Rd w' 0 Z 2 encPair (rOf (fun k => arrG (gphOf ns rs bs) (nodeN ns f) k ad) ad wi ns 0) ∧ Nx W w') :
    Calls P fn args W fun e w' => ∃ (Z : Option Addr) (c : Nat), e = .returned (.slice Z (reachL ns rs bs f ad wi).length c) ∧ Rd w' 0 Z 2 encPair (reachL ns rs bs f ad wi) ∧ Nx W w' := by
  rw [show reachL ns rs bs f ad wi = rOf (fun k => arrG (gphOf ns rs bs) (nodeN ns f) k ad) ad wi ns 0 from if_pos hF]
  exact h
theorem near_pack {P : Program} (p : Int × Int) (F : Int) {args : Array Value} {Q : World → Prop} {fn : Nat} (h : ∀ W, Q W → Calls P fn args W fun e w' => e = .returned (.tuple #[.int .i64 (if p.1 < 0 then 0 else p.1), .int .i64 (if p.1 < 0 then 0 else p.2), .bool (decide (0 ≤ p.1)), .int .i64 F]) ∧ Nx W w') :
    ∃ (k t : Int) (is : Bool), ((p.1 < 0 ∧ k = 0 ∧ t = 0 ∧ is = false) ∨ (0 ≤ p.1 ∧ k = p.1 ∧ t = p.2 ∧ is = true)) ∧ ∀ W, Q W → Calls P fn args W fun e w' => e = .returned (.tuple #[.int .i64 k, .int .i64 t, .bool is, .int .i64 F]) ∧ Nx W w' := by
  refine ⟨_, _, _, ?_, h⟩
  by_cases hp : p.1 < 0
  · left; rw [if_pos hp, if_pos hp]; exact ⟨hp, rfl, rfl, decide_eq_false (by omega)⟩
  · right; rw [if_neg hp, if_neg hp]; exact ⟨by omega, rfl, rfl, decide_eq_true (by omega)⟩
end Go.Proofs.YtbjbeddjaajdaaaGreatDoor
/- Is a ban among the bans: the reference. -/
namespace Go.Proofs.YtbjbeddjaajdaaaGreatDoor
open Go.RowKit

theorem gd_Ban : Tryz.prog.eqGuardType Tryz.prog.depth 98 = false := by kernel_rfl
theorem sin_Ban (d : Nat) (x y a b : ByteArray) (w : World) : (Op.equalIn (d + 2) 98 (.agg #[.string x, .string y]) (.agg #[.string a, .string b])).run Tryz.prog w = .ok (x.toList == a.toList && y.toList == b.toList) w := by
  have u3 := Tryz.underlying9
  have a3 := Tryz.isAgg9
  have z3 := Tryz.sizeOf9
  have hS : Tryz.prog.underlying 98 = some (.struct (Tryz.prog.fieldsOf 98)) := by kernel_rfl
  have hp : Tryz.prog.stoodInHeld 98 = false := by kernel_rfl
  rw [run_equalIn_agg w (d + 1) 98 _ _ hS hp]
  simp only [Program.fieldsOf, Tryz.underlying98]
  go_simp
  cases h1 : x.toList == a.toList <;> cases h2 : y.toList == b.toList <;> simp_all
theorem eql_Ban (x y a b : ByteArray) (w : World) : (binOp .eql 98 (.agg #[.string x, .string y]) (.agg #[.string a, .string b])).run Tryz.prog w = .ok (.bool (x.toList == a.toList && y.toList == b.toList)) w := by
  rw [run_eql_struct, show (10000 : Nat) = 9998 + 2 from rfl, sin_Ban]; rfl
attribute [local go_sem ↓] eql_Ban

set_option maxRecDepth 100000 in
set_option maxHeartbeats 2000000 in
theorem w_IdxB (lo : Nat) (A : Option Addr) (c : Nat) (l : List Ban) (f t : ByteArray) (w : World) (hR : Rd w lo A 2 encBan l) (hl : l.length ≤ 65536) :
    Calls Tryz.prog 243 #[.slice A l.length c, .agg #[.string f, .string t]] w fun e w' => ∃ r : Int, e = .returned (.int .i64 r) ∧ decide (0 ≤ r) = bannedB l f t ∧ Nx w w' := by
  obtain ⟨wa, hwa⟩ : ∃ wa, wa = w.alloc (.cells #[.string f, .string t] 98) := ⟨_, rfl⟩
  have hna : Nx w wa := hwa ▸ (Nx.refl w).alloc _
  have hgw : w.heap.size < wa.heap.size := by rw [hwa]; simp
  have x0 : wa.cell? ⟨w.heap.size, 0, none⟩ = some (.string f) := by rw [hwa]; go_simp
  have x1 : wa.cell? ⟨w.heap.size, 1, none⟩ = some (.string t) := by rw [hwa]; go_simp
  have HR := hide (hR.nx hna)
  clear hR
  generalize hn : l.length = n at *
  have HN := hide hn
  clear hn
  go_enter Tryz.func243, Tryz.ntmps243
  go_wp2_with fail
  rw [← hwa]
  have HWA := hide hwa
  clear hwa
  generalize w.heap.size = g at *
  go_loopw [5, 8] (fun _ i wr => ∃ k : Nat, k ≤ n ∧ i = .int .i64 k ∧ Nx wa wr ∧ bannedB (l.take k) f t = false) (fun _ i _ => n - (intOf i).toNat)
  case atStart => exact ⟨0, Nat.zero_le _, rfl, Nx.refl _, rfl⟩
  case round =>
    obtain ⟨k, hk, rfl, hbw, hq⟩ := hrel
    have HQ := hide hq
    clear hq
    by_cases hlt : k < n
    · have hlt' : k < l.length := by have := HN.out; omega
      have y0 := nx_cell hbw hgw x0
      have y1 := nx_cell hbw hgw x1
      obtain ⟨b, off, rfl, _, hb, hbr, hc⟩ := HR.out.open_ hbw (by omega)
      have c0 : wr.cell? ⟨b, off + k * 2, none⟩ = some (.string l[k].from_) := hc k hlt' 0 _ rfl
      have c1 : wr.cell? ⟨b, off + k * 2 + 1, none⟩ = some (.string l[k].to_) := hc k hlt' 1 _ rfl
      have k1 : (k : Int) < (n : Int) := by omega
      have k2 : (0 : Int) ≤ (k : Int) := by omega
      have HT := hide (show bannedB (l.take (k + 1)) f t = (bannedB (l.take k) f t || (decide (l[k].from_ = f) && decide (l[k].to_ = t))) by
        unfold bannedB
        rw [List.take_succ_eq_append_getElem hlt', List.any_append]; simp)
      have HM := hide (show (decide (l[k].from_ = f) && decide (l[k].to_ = t)) = true → bannedB l f t = true from fun h => by
        unfold bannedB
        exact List.any_eq_true.2 ⟨l[k], List.getElem_mem hlt', h⟩)
      clear hc
      generalize l[k] = x at *
      have he : (f.toList == x.from_.toList && t.toList == x.to_.toList) = (decide (x.from_ = f) && decide (x.to_ = t)) := by
        rw [eqS_iff, eqS_iff]
        congr 1
        · exact decide_eq_decide.2 eq_comm
        · exact decide_eq_decide.2 eq_comm
      generalize hbb : (decide (x.from_ = f) && decide (x.to_ = t)) = bb at *
      go_upto_region 4 with fail
      go_quiet (fail)
      cases bb
      · go_wp2_with fail
        go_roundw
        case rel => exact ⟨k + 1, by omega, by go_num, hbw.drewN _, by rw [HT.out, HQ.out]; rfl⟩
        case measure => simp [intOf]; omega
      · go_wp2_with fail
        go_ret
        exact ⟨_, rfl, by rw [HM.out (by trivial)]; simp, hna.trans (hbw.drewN _)⟩
    · go_wp2_with fail
      go_ret
      refine ⟨_, rfl, ?_, hna.trans hbw⟩
      have := HQ.out
      rw [List.take_of_length_le (by have := HN.out; omega)] at this
      rw [this]; rfl
theorem w_ContB (lo : Nat) (A : Option Addr) (c : Nat) (l : List Ban) (f t : ByteArray) (w : World) (hR : Rd w lo A 2 encBan l) (hl : l.length ≤ 65536) :
    Calls Tryz.prog 213 #[.slice A l.length c, .agg #[.string f, .string t]] w fun e w' => e = .returned (.bool (bannedB l f t)) ∧ Nx w w' := by
  have HI := hide (fun W hx => w_IdxB lo A c l f t W hx hl)
  have HR := hide (hR.nx ((Nx.refl w).alloc (.cells #[.string f, .string t] 98)))
  clear hR
  generalize l.length = n at *
  generalize bannedB l f t = z at *
  go_enter Tryz.func213, Tryz.ntmps213
  go_wp2_with (go_at_call 243; refine (HI.out _ HR.out).mono ?_; rintro e w2 ⟨r, rfl, hr, hn2⟩)
  go_ret
  exact ⟨rfl, ((Nx.refl w).alloc _).trans hn2⟩
theorem w_bannedQ (lo : Nat) (A B C : Option Addr) (n1 n2 ca cb cc : Nat) (l : List Ban) (f t : ByteArray) (w : World) (hR : Rd w lo C 2 encBan l) (hl : l.length ≤ 65536) :
    Calls Tryz.prog 177 #[.agg #[.slice A n1 ca, .slice B n2 cb, .slice C l.length cc], .string f, .string t] w fun e w' => e = .returned (.bool (bannedB l f t)) ∧ Nx w w' := by
  have HI := hide (fun W hx => w_ContB lo C cc l f t W hx hl)
  have HR := hide (hR.nx ((Nx.refl w).alloc (.cells #[.slice A n1 ca, .slice B n2 cb, .slice C l.length cc] 30)))
  clear hR
  generalize l.length = n at *
  generalize bannedB l f t = z at *
  go_enter Tryz.func177, Tryz.ntmps177
  go_wp2_with (go_at_call 213; refine (HI.out _ HR.out).mono ?_; rintro e w2 ⟨rfl, hn2⟩)
  go_ret
  exact ⟨rfl, ((Nx.refl w).alloc _).trans hn2⟩
end Go.Proofs.YtbjbeddjaajdaaaGreatDoor
