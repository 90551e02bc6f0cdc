/- Roads made into a map: the walk. -/
import Derived.Test.YtepbamacebjopaaGreatDoorQG10
namespace Go.Proofs.YtepbamacebjopaaGreatDoor
open Go.RowKit Go.Maps

theorem run_make_rows (n : Nat) (hn : n ≤ 100000) (w : World) : (Instr.makeSlice 155 (.int .i64 (n : Int)) (.int .i64 (n : Int))).run Tryz.prog w = .ok (.slice (some ⟨w.heap.size, 0, none⟩) n n) (w.alloc (.cells (madeCells #[.slice none 0 0] n) 22)) := by
  obtain ⟨i, h1, h2, h3, h4⟩ := info_parts (show (Tryz.prog.info? 22).map (fun i => (i.zero, i.size, i.bytes)) = some (some (.slice none 0 0), 1, 24) by kernel_rfl)
  have h := run_make (P := Tryz.prog) w 155 22 i (.slice none 0 0) Tryz.underlying155 h1 h2 .i64 .i64 (n : Int) (n : Int) (by omega) (by omega) (by rw [h4]; omega) (by omega)
  rw [h]
  simp [h3, Value.cells]
theorem made_rows (n i : Nat) (hi : i < n) : (madeCells #[.slice none 0 0] n)[i]? = some (.slice none 0 0) := by
  rw [← Array.getElem?_toList, toList_madeCells_one]
  simp [hi]
theorem made_rows_size (n : Nat) : (madeCells #[.slice none 0 0] n).size = n := by
  rw [← Array.length_toList, toList_madeCells_one]
  simp
/-- What the rows hold behind j arcs: row nn the nodes at the arcs' ends, the others the arcs that begin at a node. -/
def rowsJ (ns : List Node) (rs : List Arc) (j k : Nat) : List Int :=
  if k = ns.length then (List.range j).map fun a => (nodeN ns (arcX rs a).to_ : Int) else intsOf ((List.range j).filter fun a => nodeN ns (arcX rs a).from_ == k)
theorem rowsJ_step (ns : List Node) (rs : List Arc) (j : Nat) (hf : nodeN ns (arcX rs j).from_ < ns.length) :
    rowsJ ns rs (j + 1) = upd (upd (rowsJ ns rs j) ns.length (rowsJ ns rs j ns.length ++ [(nodeN ns (arcX rs j).to_ : Int)])) (nodeN ns (arcX rs j).from_) (rowsJ ns rs j (nodeN ns (arcX rs j).from_) ++ [(j : Int)]) := by
  funext k
  by_cases e : k = nodeN ns (arcX rs j).from_
  · subst e
    rw [upd_self]
    unfold rowsJ
    rw [if_neg (by omega), if_neg (by omega), List.range_succ, List.filter_append]
    simp [intsOf]
  · rw [upd_ne _ _ e]
    by_cases e2 : k = ns.length
    · subst e2
      rw [upd_self]
      unfold rowsJ
      rw [if_pos rfl, if_pos rfl, List.range_succ, List.map_append]; rfl
    · rw [upd_ne _ _ e2]
      unfold rowsJ
      rw [if_neg e2, if_neg e2, List.range_succ, List.filter_append]
      have : ¬ nodeN ns (arcX rs j).from_ = k := fun h => e h.symm
      simp [intsOf, this]
theorem rowsJ_len (ns : List Node) (rs : List Arc) (j k : Nat) : (rowsJ ns rs j k).length ≤ j := by
  unfold rowsJ
  split
  · simp
  · unfold intsOf; rw [List.length_map]; exact Nat.le_trans (List.length_filter_le _ _) (by simp)
theorem keyB_le {s : ByteArray} (h : keyB s = true) : s.size ≤ 40 := by
  have h0 : 0 < s.size := by
    rcases Nat.eq_zero_or_pos s.size with h0 | h0
    · have e : s.data.toList = [] := by
        apply List.eq_nil_of_length_eq_zero
        rw [Array.length_toList]; exact h0
      unfold keyB at h
      rw [e] at h
      exact absurd h (by decide)
    · exact h0
  rw [keyB_eq s h0] at h
  simp only [Bool.and_eq_true, decide_eq_true_eq] at h
  exact h.1.1
theorem own_neT2 {w : World} {base : Nat} {e t : TypeId} {K n : Nat} {v : Value} {xs : List Value} {G : Nat} {cs : Array Value} (h : w.ownsRow base e K v n xs) (hb : w.heap[G]? = some (.cells cs t (0, 0))) (hne : t ≠ e) : v.ownBlock ≠ some G := by
  rcases h.2 with ⟨rfl, _⟩ | ⟨g, cap, cur, rfl, _, hg, _⟩
  · intro e; cases e
  · intro e
    injection e with e
    have e : g = G := e
    subst e
    rw [hb] at hg
    injection hg with hg
    injection hg with _ h2 _
    exact hne h2
theorem key_small {s : ByteArray} (h : keyB s = true) : domS s := by
  have := keyB_le h
  unfold domS maxLen; omega
theorem NM.mapR {w wr : World} {g0 lo n1 n4 : Nat} {A B C : Option Addr} {ca cb cc : Nat} {ns : List Node} {rs : List Arc} {bs : List Ban} {v : Nat → Value} (h : NM w wr g0 ns.length v (rowsJ ns rs rs.length) n1 (mapN ns ns.length) n4 (mapB rs bs bs.length)) (hB : BoxR w g0 lo A B C ca cb cc ns rs bs) :
    ∃ M : MapA, MapR wr (w.heap.size + 3) g0 lo A B C ca cb cc M ns rs bs := by
  obtain ⟨T, cT, eT, hT, _⟩ := Rd.of_own encI_len rfl (h.rows.rows ns.length (by omega))
  have e0 : rowsJ ns rs rs.length ns.length = (List.range rs.length).map fun k => (nodeN ns (arcX rs k).to_ : Int) := if_pos rfl
  rw [e0] at eT hT
  have el : ((List.range rs.length).map fun k => (nodeN ns (arcX rs k).to_ : Int)).length = rs.length := by simp
  rw [el] at eT
  have hb := h.blk
  rw [eT] at hb
  obtain ⟨cs, o1, o2, o3⟩ := h.out
  refine ⟨⟨w.heap.size, n1, w.heap.size + 2, n4, T, cT, w.heap.size + 1⟩, (cell_of_row wr _ 0 _ _ _ hb).trans rfl, (cell_of_row wr _ 1 _ _ _ hb).trans rfl, (cell_of_row wr _ 2 _ _ _ hb).trans rfl, (cell_of_row wr _ 3 _ _ _ hb).trans rfl, (cell_of_row wr _ 4 _ _ _ hb).trans rfl, h.lt, hT.low (Nat.zero_le _), fun i hi => ?_, (Array.getElem?_eq_some_iff.1 o1).1, h.m1, h.m4, hB.nx h.nx⟩
  obtain ⟨Ai, ci, ei, hi2, _⟩ := Rd.of_own encI_len rfl (h.rows.rows i (by omega))
  have e1 : rowsJ ns rs rs.length i = intsOf ((gphOf ns rs bs).outs i) := if_neg (by omega)
  rw [e1] at ei hi2
  have e2 : (intsOf ((gphOf ns rs bs).outs i)).length = ((gphOf ns rs bs).outs i).length := by simp [intsOf]
  rw [e2] at ei
  exact ⟨Ai, ci, ((cell_of_row wr _ i _ _ _ o1).trans (o3 i hi)).trans (by rw [ei]), hi2.low (Nat.zero_le _)⟩
/-- What New has of roads that are right. -/
structure NewOk (ns : List Node) (rs : List Arc) (bs : List Ban) : Prop where
  sn : SortN ns
  sa : SortA rs
  kn : ∀ x ∈ ns, domS x.key
  ka : ∀ x ∈ rs, domS x.key ∧ domS x.from_ ∧ domS x.to_ ∧ 0 ≤ nodeI ns x.from_ ∧ 0 ≤ nodeI ns x.to_
  kb : ∀ x ∈ bs, domS x.from_ ∧ domS x.to_ ∧ 0 ≤ arcI rs x.from_ ∧ 0 ≤ arcI rs x.to_
set_option maxRecDepth 100000 in
set_option maxHeartbeats 4000000 in
theorem w_New (g0 lo : Nat) (A B C : Option Addr) (ca cb cc : Nat) (ns : List Node) (rs : List Arc) (bs : List Ban) (w : World) (hBox : BoxR w g0 lo A B C ca cb cc ns rs bs) (hOK : NewOk ns rs bs) :
    Calls Tryz.prog 81 #[.pointer (some ⟨g0, 0, none⟩)] w fun e w' => ∃ (bm : Nat) (M : MapA), e = .returned (.pointer (some ⟨bm, 0, none⟩)) ∧ w.heap.size ≤ bm ∧ MapR w' bm g0 lo A B C ca cb cc M ns rs bs ∧ Nx w w' := by
  have hbn := hBox.nl
  have hba := hBox.al
  have hbb := hBox.bl
  have hgl := hBox.gl
  have b0 := hBox.g0
  have b1 := hBox.g1
  have b2 := hBox.g2
  have HBX := hide hBox
  have HOK := hide hOK
  clear hBox hOK
  have hmk := fun w => run_make_rows ns.length (by omega) w
  obtain ⟨Z, hZ⟩ : ∃ Z, madeCells #[.slice none 0 0] ns.length = Z := ⟨_, rfl⟩
  have HZ1 := hide (fun i (hi : i < ns.length) => made_rows ns.length i hi)
  have HZ2 := hide (made_rows_size ns.length)
  rw [hZ] at hmk HZ1 HZ2
  clear hZ
  have HM0 := hide (show mapN ns 0 = fun _ => none from funext fun _ => rfl)
  have HB0 := hide (show mapB rs bs 0 = fun _ => none from funext fun _ => rfl)
  generalize hn : ns.length = nn at *
  generalize hr : rs.length = m at *
  generalize hb : bs.length = nb at *
  have HN := hide hn
  have HR := hide hr
  have HB := hide hb
  clear hn hr hb
  have hmm := @run_makeMap Tryz.prog
  go_enter Tryz.func81, Tryz.ntmps81
  go_upto_region 2 with fail
  clear hmm
  obtain ⟨wI, hwI⟩ : ∃ wI, wI = (((w.alloc (.map #[] 0)).alloc (.cells Z 22)).alloc (.map #[] 0)).alloc (.cells #[.pointer (some ⟨g0, 0, none⟩), .map (some w.heap.size), .slice none 0 0, .slice (some ⟨w.heap.size + 1, 0, none⟩) nn nn, .map (some (w.heap.size + 2))] 158) := ⟨_, rfl⟩
  have hnI : Nx w wI := hwI ▸ ((((Nx.refl w).alloc _).alloc _).alloc _).alloc _
  have hNM0 : NM w wI g0 nn (fun _ => .slice none 0 0) (fun _ => []) 0 (mapN ns 0) 0 (mapB rs bs 0) := by
    have k0 : wI.heap[w.heap.size]? = some (.map #[] 0) := by rw [hwI]; exact (((((Nx.refl _).alloc _).alloc _).alloc _).block _ (by simp)).trans (hnew rfl)
    have k1 : wI.heap[w.heap.size + 1]? = some (.cells Z 22 (0, 0)) := by rw [hwI]; exact ((((Nx.refl _).alloc _).alloc _).block _ (by simp)).trans (hnew (by simp))
    have k2 : wI.heap[w.heap.size + 2]? = some (.map #[] 0) := by rw [hwI]; exact (((Nx.refl _).alloc _).block _ (by simp)).trans (hnew (by simp))
    refine ⟨hnI, ?_, ⟨Z, k1, HZ2.out, fun i hi => HZ1.out i hi⟩, ⟨fun k _ => World.ownsRow_nil _ _ _ _, fun _ _ _ _ _ => .inl rfl⟩, ?_, ?_⟩
    · rw [hwI]; exact hnew (by simp)
    · rw [HM0.out]; exact MgI.fresh k0
    · rw [HB0.out]; exact MgI.fresh k2
  rw [← hwI]
  have HWI := hide hwI
  have HNM0 := hide hNM0
  have B0 := nx_cell hnI hgl b0
  have HBX2 := hide (fun W (hx : Nx w W) => (⟨nx_cell hx hgl b0, nx_cell hx hgl b1, nx_cell hx hgl b2⟩ : W.cell? ⟨g0, 0, none⟩ = some (.slice A nn ca) ∧ W.cell? ⟨g0, 1, none⟩ = some (.slice B m cb) ∧ W.cell? ⟨g0, 2, none⟩ = some (.slice C nb cc)))
  clear hwI hNM0 b0 b1 b2 hmk HM0 HB0
  generalize hs : w.heap.size = s at *
  have HS := hide hs
  clear hs
  go_wp2_with fail
  clear B0
  go_loopw [27] (fun i wr => ∃ k : Nat, k ≤ nn ∧ i = .int .i64 k ∧ NM w wr g0 nn (fun _ => .slice none 0 0) (fun _ => []) k (mapN ns k) 0 (mapB rs bs 0)) (fun i _ => nn - (intOf i).toNat)
  case atStart => exact ⟨0, Nat.zero_le _, rfl, HNM0.out⟩
  case round =>
    clear HNM0
    obtain ⟨k, hk, rfl, hNM⟩ := hrel
    have HNM := hide hNM
    have hbw := hNM.nx
    clear hNM
    by_cases hlt : k < nn
    · have hkl : k < ns.length := by have := HN.out; omega
      obtain ⟨b, off, rfl, _, hb, hbr, hc⟩ := HBX.out.hN.open_ hbw (by have := HN.out; omega)
      have c0 : wr.cell? ⟨b, off + k * 3, none⟩ = some (.string ns[k].key) := hc k hkl 0 _ rfl
      have c1 : wr.cell? ⟨b, off + k * 3 + 1, none⟩ = some (.int .i64 ns[k].x) := hc k hkl 1 _ rfl
      have c2 : wr.cell? ⟨b, off + k * 3 + 2, none⟩ = some (.int .i64 ns[k].y) := hc k hkl 2 _ rfl
      have hds : domS ns[k].key := HOK.out.kn _ (List.getElem_mem hkl)
      have HST := hide (show mapN ns (k + 1) = fun k' => if k' = ns[k].key then some (k : Int) else mapN ns k k' by
        funext s'
        rw [mapN, List.getD_eq_getElem?_getD, List.getElem?_eq_getElem hkl]; rfl)
      have i1 : (0 : Int) ≤ (k : Int) := by omega
      have i2 : (k : Int) < (nn : Int) := by omega
      clear hc
      generalize ns[k].key = ky at *
      generalize ns[k].x = kx at *
      generalize ns[k].y = kz at *
      go_upto_region 5 with fail
      obtain ⟨wk, hwk⟩ : ∃ wk, wk = wr.alloc (.cells #[.string ky, .int .i64 kx, .int .i64 kz] 74) := ⟨_, rfl⟩
      have hnk : Nx wr wk := hwk ▸ (Nx.refl wr).alloc _
      have d0 : wk.cell? ⟨wr.heap.size, 0, none⟩ = some (.string ky) := by rw [hwk]; go_simp
      have HNK := hide (HNM.out.step hnk)
      have e1 : wk.cell? ⟨s + 3, 1, none⟩ = some (.map (some s)) := by have h := HNK.out.blk; rw [HS.out] at h; exact (cell_of_row wk _ 1 _ _ _ h).trans rfl
      rw [← hwk]
      have HWK := hide hwk
      clear hwk c0 c1 c2
      go_still_tail 7, (by kernel_rfl)
      change wpList _ _ _ _ _ wk.drew
      go_wp2_with (at_mapUpdate; refine wpMgPut _ rfl _ _ _ _ rfl intR law_strR strV_inj Tryz.underlying154 s k (mapN ns k) rfl (by have h := HNK.out.m1.nx ((Nx.refl _).drew); rw [HS.out] at h; exact h) (by unfold maxLen; omega) ky rfl hds _ (keyS_mk Tryz.underlying9 hds) (k : Int) rfl (wf_i64o.2 ⟨by omega, by omega⟩) ?_; intro w2 hm2 hg2; (have HM2 := hide hm2); clear hm2)
      go_roundw
      case rel => exact ⟨k + 1, by omega, by go_num, (HNK.out.step (Nx.refl _).drew).put1 (by rw [HS.out]; exact hg2) (by rw [HS.out, HST.out]; exact HM2.out)⟩
      case measure => simp [intOf]; omega
    · obtain rfl : nn = k := by omega
      clear hlt
      have hmm := @run_makeMap Tryz.prog
      have B1 : ∀ o, (wr.alloc o).cell? ⟨g0, 1, none⟩ = some (.slice B m cb) := fun o => (HBX2.out _ (hbw.alloc o)).2.1
      go_wp2_with fail
      clear hmm B1
      obtain ⟨wJ, hwJ⟩ : ∃ wJ, wJ = wr.alloc (.map #[] 0) := ⟨_, rfl⟩
      have hnJ : Nx wr wJ := hwJ ▸ (Nx.refl wr).alloc _
      have hM6 : MpRI wJ wr.heap.size 0 (mapA rs 0) := by
        rw [show mapA rs 0 = fun _ => none from funext fun _ => rfl, hwJ]
        exact MgI.made wr
      have hb6 : s + 4 ≤ wr.heap.size := by have := HNM.out.lt; rw [HS.out] at this; omega
      have HNJ := hide (And.intro (HNM.out.step hnJ) hM6)
      rw [← hwJ]
      have HWJ := hide hwJ
      clear hwJ hM6 HNM hbw
      generalize wr.heap.size = b6 at *
      go_loopw [46] (fun i wq => ∃ (j : Nat) (v : Nat → Value), j ≤ m ∧ i = .int .i64 j ∧ NM w wq g0 nn v (rowsJ ns rs j) nn (mapN ns nn) 0 (mapB rs bs 0) ∧ MpRI wq b6 j (mapA rs j)) (fun i _ => m - (intOf i).toNat)
      case atStart =>
        refine ⟨0, fun _ => .slice none 0 0, Nat.zero_le _, rfl, ?_, HNJ.out.2⟩
        have h := HNJ.out.1
        have e : rowsJ ns rs 0 = fun _ => [] := by funext k; unfold rowsJ intsOf; split <;> rfl
        rw [e]
        exact h
      case round =>
        clear HNJ
        obtain ⟨j, v, hj, rfl, hNM, hM6⟩ := hrel
        have HNM := hide hNM
        have HM6 := hide hM6
        have hbw := hNM.nx
        clear hNM hM6
        by_cases hlt : j < m
        · have hjl : j < rs.length := by have := HR.out; omega
          obtain ⟨b, off, rfl, _, hb, hbr, hc⟩ := HBX.out.hA.1.open_ hbw (by have := HR.out; omega)
          have c0 : wr.cell? ⟨b, off + j * 5, none⟩ = some (.string rs[j].key) := hc j hjl 0 _ rfl
          have c1 : wr.cell? ⟨b, off + j * 5 + 1, none⟩ = some (.string rs[j].from_) := hc j hjl 1 _ rfl
          have c2 : wr.cell? ⟨b, off + j * 5 + 2, none⟩ = some (.string rs[j].to_) := hc j hjl 2 _ rfl
          have c3 : wr.cell? ⟨b, off + j * 5 + 3, none⟩ = some (.int .i64 rs[j].long) := hc j hjl 3 _ rfl
          have c4 : wr.cell? ⟨b, off + j * 5 + 4, none⟩ = some (.slice rs[j].ka rs[j].knots.length rs[j].kc) := hc j hjl 4 _ rfl
          obtain ⟨hdk, hdf, hdt, hnf, hnt⟩ := HOK.out.ka _ (List.getElem_mem hjl)
          have hXj : arcX rs j = rs[j] := arcX_get hjl
          have HST := hide (show mapA rs (j + 1) = fun k' => if k' = rs[j].key then some (j : Int) else mapA rs j k' by
            funext s'
            rw [mapA, List.getD_eq_getElem?_getD, List.getElem?_eq_getElem hjl]; rfl)
          have hf := mapN_get HOK.out.sn hnf
          have ht := mapN_get HOK.out.sn hnt
          have hfl := nodeN_lt hnf
          have htl := nodeN_lt hnt
          have HRS := hide (rowsJ_step ns rs j (by rw [hXj]; exact hfl))
          have HRL := hide (rowsJ_len ns rs j)
          rw [hXj, HN.out] at HRS
          have e1 : nodeI ns rs[j].from_ = ((nodeN ns rs[j].from_ : Nat) : Int) := by unfold nodeN; omega
          have e2 : nodeI ns rs[j].to_ = ((nodeN ns rs[j].to_ : Nat) : Int) := by unfold nodeN; omega
          rw [e1] at hf
          rw [e2] at ht
          rw [HN.out] at hf ht
          have HF := hide hf
          have HT := hide ht
          rw [HN.out] at hfl htl
          clear hc hXj e1 e2 hnf hnt hf ht
          generalize nodeN ns rs[j].from_ = nf at *
          generalize nodeN ns rs[j].to_ = nt at *
          generalize rs[j] = x at *
          generalize x.knots.length = kl at *
          have i1 : (0 : Int) ≤ (j : Int) := by omega
          have i2 : (j : Int) < (m : Int) := by omega
          go_upto_region 11 with fail
          obtain ⟨wk, hwk⟩ : ∃ wk, wk = wr.alloc (.cells #[.string x.key, .string x.from_, .string x.to_, .int .i64 x.long, .slice x.ka kl x.kc] 37) := ⟨_, rfl⟩
          have hnk : Nx wr wk := hwk ▸ (Nx.refl wr).alloc _
          have hsk : wr.heap.size < wk.heap.size := by rw [hwk]; simp
          have hAR : wk.heap[wr.heap.size]? = some (.cells #[.string x.key, .string x.from_, .string x.to_, .int .i64 x.long, .slice x.ka kl x.kc] 37 (0, 0)) := by rw [hwk]; exact hnew rfl
          have d0 : wk.cell? ⟨wr.heap.size, 0, none⟩ = some (.string x.key) := by rw [hwk]; go_simp
          have d1 : wk.cell? ⟨wr.heap.size, 1, none⟩ = some (.string x.from_) := by rw [hwk]; go_simp
          have d2 : wk.cell? ⟨wr.heap.size, 2, none⟩ = some (.string x.to_) := by rw [hwk]; go_simp
          have HNK := hide (HNM.out.step hnk)
          have HM6k := hide (HM6.out.nx hnk)
          have hb6r : b6 < wr.heap.size := HM6.out.lt
          have hs4 : s + 4 ≤ wr.heap.size := by have := HNM.out.lt; rw [HS.out] at this; omega
          rw [← hwk]
          have HWK := hide hwk
          clear hwk c0 c1 c2 c3 c4 HNM HM6
          generalize wr.heap.size = ar at *
          go_wp2_with (at_mapUpdate; refine wpMgPut _ rfl _ _ _ _ rfl intR law_strR strV_inj Tryz.underlying154 b6 j (mapA rs j) rfl HM6k.out (by unfold maxLen; omega) x.key rfl hdk _ (keyS_mk Tryz.underlying9 hdk) (j : Int) rfl (wf_i64o.2 ⟨by omega, by omega⟩) ?_; intro w2 hm2 hg2; (have HM2 := hide hm2); (have HG2 := hide hg2); clear hm2 hg2)
          have HAR := hide (show w2.heap[ar]? = some (.cells #[.string x.key, .string x.from_, .string x.to_, .int .i64 x.long, .slice x.ka kl x.kc] 37 (0, 0)) from (World.grownBy.block (row := some b6) HG2.out ar hsk (by simp; omega)).trans hAR)
          clear hAR
          have HN2 := hide (HNK.out.keepMap (by rw [HS.out]; exact hb6) (fun k hk => own_neMap (HNK.out.rows.rows k hk) HM6k.out) HG2.out)
          rw [show ∀ a : Act, a.put none undef = a from fun _ => rfl]
          go_cut [70] (fun _ wx => ∃ v' : Nat → Value, NM w wx g0 nn v' (upd (rowsJ ns rs j) nn (rowsJ ns rs j nn ++ [(nt : Int)])) nn (mapN ns nn) 0 (mapB rs bs 0) ∧ MpRI wx b6 (j + 1) (mapA rs (j + 1)) ∧ wx.cell? ⟨ar, 1, none⟩ = some (.string x.from_) ∧ ar < wx.heap.size ∧ wx.heap[ar]? = some (.cells #[.string x.key, .string x.from_, .string x.to_, .int .i64 x.long, .slice x.ka kl x.kc] 37 (0, 0)))
          case first =>
            have hg2 := HG2.out
            have d1' : w2.cell? ⟨ar, 1, none⟩ = some (.string x.from_) := World.grownBy.cell (row := some b6) hg2 d1 (by simp; omega)
            have d2' : w2.cell? ⟨ar, 2, none⟩ = some (.string x.to_) := World.grownBy.cell (row := some b6) hg2 d2 (by simp; omega)
            have hs2 := hg2.sz
            have HB2 := hide (show w2.heap[s + 3]? = some (.cells #[.pointer (some ⟨g0, 0, none⟩), .map (some s), v nn, .slice (some ⟨s + 1, 0, none⟩) nn nn, .map (some (s + 2))] 158 (0, 0)) by have h := HN2.out.blk; rw [HS.out] at h; exact h)
            have HE := hide (fun W (hx : Nx w2 W) => (⟨(cell_of_row W _ 1 _ _ _ ((hx.block _ (Array.getElem?_eq_some_iff.1 HB2.out).1).trans HB2.out)).trans rfl, (cell_of_row W _ 2 _ _ _ ((hx.block _ (Array.getElem?_eq_some_iff.1 HB2.out).1).trans HB2.out)).trans rfl⟩ : W.cell? ⟨s + 3, 1, none⟩ = some (.map (some s)) ∧ W.cell? ⟨s + 3, 2, none⟩ = some (v nn)))
            obtain ⟨e1, e2⟩ := HE.out w2 (Nx.refl _)
            have e1A : ∀ o, (w2.alloc o).cell? ⟨s + 3, 1, none⟩ = some (.map (some s)) := fun o => (HE.out _ ((Nx.refl _).alloc o)).1
            have e2A : ∀ o, (w2.alloc o).cell? ⟨s + 3, 2, none⟩ = some (v nn) := fun o => (HE.out _ ((Nx.refl _).alloc o)).2
            have hL0 := look_run (W := w2.drew) (by have h := HN2.out.m1; rw [HS.out] at h; exact h.nx ((Nx.refl _).drew)) hdt HT.out
            have HROW := hide (show w2.ownsRow (s + 4) 3 1 (v nn) (rowsJ ns rs j nn).length ((rowsJ ns rs j nn).flatMap encI) by have h := HN2.out.rows.rows nn (by omega); rw [HS.out] at h; exact h)
            have hrl := HRL.out nn
            generalize hvn : v nn = vn at *
            have HVN := hide hvn
            obtain ⟨iI, zI, q1, q2, q3, q4, q5⟩ := el_IntR.hi
            have E1 := hide q1
            have E2 := hide q2
            have E3 := hide q3
            have E4 := hide q4
            have E5 := hide q5
            clear q1 q2 q3 q4 q5 d0 d1 d2 hvn
            go_region_law
              (first
                | (refine step_append_lies _ rfl _ _ _ rfl (s + 4) _ iI zI 1 8 Tryz.underlying22 E1.out E2.out E3.out E4.out E5.out (by omega) vn (rowsJ ns rs j nn).length ((rowsJ ns rs j nn).flatMap encI) rfl (own_nx HROW.out (by repeat (first | with_reducible exact Nx.refl _ | with_reducible refine Nx.drew ?_ | with_reducible refine Nx.alloc ?_ _))) _ 1 1 [.int .i64 (nt : Int)] rfl rfl (news_of (hnew rfl) rfl) (by intro u hu; simp at hu; subst hu; rfl) (by omega) (by unfold maxLen; omega) (by omega) (by simp; omega) _ rfl ?_; intro g6 c6 w6 hown6 hg6 hat6 hlt6; (have b6' : w6.heap[s + 3]? = some (.cells #[.pointer (some ⟨g0, 0, none⟩), .map (some s), vn, .slice (some ⟨s + 1, 0, none⟩) nn nn, .map (some (s + 2))] 158 (0, 0)) := (hg6.block (s + 3) (by simp; omega) (fun e => by have := own_blk_lt HROW.out _ e.symm; omega)).trans ((((Nx.refl w2).alloc _).block _ (by omega)).trans HB2.out)); (have d6 : w6.cell? ⟨s + 3, 2, none⟩ = some vn := (cell_of_row w6 _ 2 _ _ _ b6').trans rfl); (have f6 := frozen_blkR (j := 2) b6')))
            all_goals
              go_wp2
              go_meet
              have hx1 : NM w _ g0 nn _ _ nn (mapN ns nn) 0 (mapB rs bs 0) := HN2.out.appT' (by repeat (first | with_reducible exact Nx.refl _ | with_reducible refine Nx.drew ?_ | with_reducible refine Nx.alloc ?_ _)) rfl HVN.out hg6 (by rw [HS.out]; exact hown6) hat6
              rw [HS.out] at hx1
              have hm1 : MpRI (w6.setCell ⟨s + 3, 2, none⟩ (.slice (some ⟨g6, 0, none⟩) ((rowsJ ns rs j nn).length + 1) c6)) b6 (j + 1) (mapA rs (j + 1)) := by
                rw [HST.out]
                have hlt6 := HM2.out.lt
                exact ((HM2.out.nx (by repeat (first | with_reducible exact Nx.refl _ | with_reducible refine Nx.drew ?_ | with_reducible refine Nx.alloc ?_ _))).grown hg6 (fun e => own_neMap HROW.out HM2.out e.symm)).gr ((Gr.refl (s + 3) w6).setS (.inl rfl) _) (by omega)
              have hd1 : (w6.setCell ⟨s + 3, 2, none⟩ (.slice (some ⟨g6, 0, none⟩) ((rowsJ ns rs j nn).length + 1) c6)).cell? ⟨ar, 1, none⟩ = some (.string x.from_) := by
                have hne := own_neT2 HROW.out (show w2.heap[ar]? = some _ from HAR.out) (by decide)
                rw [cell_set (by omega)]
                exact World.grownBy.cell hg6 (nx_cell (by repeat (first | with_reducible exact Nx.refl _ | with_reducible refine Nx.drew ?_ | with_reducible refine Nx.alloc ?_ _)) (by omega) d1') (fun e => hne e.symm)
              have hs6 : ar < (w6.setCell ⟨s + 3, 2, none⟩ (.slice (some ⟨g6, 0, none⟩) ((rowsJ ns rs j nn).length + 1) c6)).heap.size := by
                have := hg6.size
                simp [World.setCell] at this ⊢; omega
              have ha6 : (w6.setCell ⟨s + 3, 2, none⟩ (.slice (some ⟨g6, 0, none⟩) ((rowsJ ns rs j nn).length + 1) c6)).heap[ar]? = some (.cells #[.string x.key, .string x.from_, .string x.to_, .int .i64 x.long, .slice x.ka kl x.kc] 37 (0, 0)) := by
                have hne := own_neT2 HROW.out (show w2.heap[ar]? = some _ from HAR.out) (by decide)
                rw [Below.heap_setCell _ _ _ _ (by show ar ≠ s + 3; omega)]
                exact (hg6.block ar (by simp; omega) (fun e => hne e.symm)).trans ((((Nx.refl w2).alloc _).block ar (by omega)).trans HAR.out)
              first | exact ⟨_, hx1, hm1, hd1, hs6, ha6⟩ | exact ⟨_, hx1.step (Nx.refl _).drew, hm1.nx (Nx.refl _).drew, hd1, hs6, ha6⟩
          case rest =>
            obtain ⟨v', hNc, hMc, d1c, hsc, hARc⟩ := hcut
            have HAR2 := hide hARc
            clear hARc
            have hbwc := hNc.nx
            have HNC := hide hNc
            have HMC := hide hMc
            have HBC := hide (show wc.heap[s + 3]? = some (.cells #[.pointer (some ⟨g0, 0, none⟩), .map (some s), v' nn, .slice (some ⟨s + 1, 0, none⟩) nn nn, .map (some (s + 2))] 158 (0, 0)) by have h := hNc.blk; rw [HS.out] at h; exact h)
            obtain ⟨cso, o1, o2, o3⟩ := hNc.out
            rw [HS.out] at o1
            have HOC := hide o1
            have HOV := hide (o3 nf hfl)
            have hsl3 : s + 3 < wc.heap.size := (Array.getElem?_eq_some_iff.1 HBC.out).1
            have HE := hide (fun W (hx : Nx wc W) => (⟨(cell_of_row W _ 1 _ _ _ ((hx.block _ hsl3).trans HBC.out)).trans rfl, (cell_of_row W _ 3 _ _ _ ((hx.block _ hsl3).trans HBC.out)).trans rfl, (cell_of_row W _ nf _ _ _ ((hx.block _ (by omega)).trans HOC.out)).trans HOV.out, nx_cell hx hsc d1c⟩ : W.cell? ⟨s + 3, 1, none⟩ = some (.map (some s)) ∧ W.cell? ⟨s + 3, 3, none⟩ = some (.slice (some ⟨s + 1, 0, none⟩) nn nn) ∧ W.cell? ⟨s + 1, nf, none⟩ = some (v' nf) ∧ W.cell? ⟨ar, 1, none⟩ = some (.string x.from_)))
            have HROW := hide (show wc.ownsRow (s + 4) 3 1 (v' nf) (rowsJ ns rs j nf).length ((rowsJ ns rs j nf).flatMap encI) by have h := hNc.rows.rows nf (by omega); rw [HS.out, upd_ne _ _ (by omega)] at h; exact h)
            have hne1 : (v' nf).ownBlock ≠ some ar := own_neT2 HROW.out (show wc.heap[ar]? = some _ from HAR2.out) (by decide)
            have HNE1 := hide hne1
            have hrl := HRL.out nf
            have hM1 := hide (show MpRI wc s nn (mapN ns nn) by have h := hNc.m1; rw [HS.out] at h; exact h)
            have D1C := hide d1c
            clear hNc hMc o1 o2 o3 d1c d1 d2 d0 HG2 HM2 HN2 HAR hne1
            obtain ⟨e1, e3, e4, e5⟩ := HE.out wc (Nx.refl _)
            have e4A : ∀ o, (wc.alloc o).cell? ⟨s + 1, nf, none⟩ = some (v' nf) := fun o => (HE.out _ ((Nx.refl _).alloc o)).2.2.1
            have i3 : (nf : Int) < (nn : Int) := by omega
            have i4 : (0 : Int) ≤ (nf : Int) := by omega
            have hlo := own_blk_lt HROW.out
            have HELD := hide (fun W (hk : KpA wc (v' nf).ownBlock (s + 1) W) => (⟨hk.cell (by omega) e1 (fun e => by have := hlo _ e.symm; omega) (by omega), hk.cell (by omega) e3 (fun e => by have := hlo _ e.symm; omega) (by omega), hk.cell hsc e5 (fun e => HNE1.out e.symm) (by omega), look_run (hk.map hM1.out (fun e => by have := hlo _ e.symm; omega) (by omega)) hdf HF.out⟩ : W.cell? ⟨s + 3, 1, none⟩ = some (.map (some s)) ∧ W.cell? ⟨s + 3, 3, none⟩ = some (.slice (some ⟨s + 1, 0, none⟩) nn nn) ∧ W.cell? ⟨ar, 1, none⟩ = some (.string x.from_) ∧ (Instr.lookup 154 (.map (some s)) (.string x.from_) false).run Tryz.prog W = .ok (.int .i64 (nf : Int)) W))
            generalize hvf : v' nf = vf at *
            have HVF := hide hvf
            obtain ⟨iI, zI, q1, q2, q3, q4, q5⟩ := el_IntR.hi
            have E1 := hide q1
            have E2 := hide q2
            have E3 := hide q3
            have E4 := hide q4
            have E5 := hide q5
            have HLO := hide hlo
            have hL0 := (HELD.out wc (KpA.nx (Nx.refl _))).2.2.2
            clear q1 q2 q3 q4 q5 hvf hlo
            go_wp2_with fail
            refine wp_region_held_drew (S := fun w' => w'.cell? ⟨s + 3, 1, none⟩ = some (.map (some s)) ∧ w'.cell? ⟨s + 3, 3, none⟩ = some (.slice (some ⟨s + 1, 0, none⟩) nn nn) ∧ w'.cell? ⟨ar, 1, none⟩ = some (.string x.from_) ∧ (Instr.lookup 154 (.map (some s)) (.string x.from_) false).run Tryz.prog w' = .ok (.int .i64 (nf : Int)) w') (by kernel_rfl) ?_ (fun hHeld => ?_)
            · exact HELD.out _ (KpA.nx (Nx.refl _).drew)
            refine wpAnyH_take (i := 0) (v := ?_) rfl (by kernel_rfl) (by kernel_rfl) (by kernel_rfl) (fun _ _ _ h => h) (Or.inl ⟨by rfl, ?_⟩) (by assumption) ?_
            rotate_left 1
            · intro w hSw
              (try dsimp only at hSw)
              go_simp
              try with_reducible rfl
            try simp only [Act.put, List.setIfInBounds_toArray]
            refine wpAnyH_take (i := 1) (v := ?_) rfl (by kernel_rfl) (by kernel_rfl) (by kernel_rfl) (fun _ _ _ h => h) (Or.inl ⟨by rfl, ?_⟩) (by assumption) ?_
            rotate_left 1
            · intro w hSw
              (try dsimp only at hSw)
              go_simp
              try with_reducible rfl
            try simp only [Act.put]
            refine wpAnyH_take (i := 2) (v := ?_) rfl (by kernel_rfl) (by kernel_rfl) (by kernel_rfl) (fun _ _ _ h => h) (Or.inl ⟨by rfl, ?_⟩) (by assumption) ?_
            rotate_left 1
            · intro w hSw
              (try dsimp only at hSw)
              go_simp
              try with_reducible rfl
            try simp only [Act.put]
            refine wpAnyH_take (i := 3) (v := ?_) rfl (by kernel_rfl) (by kernel_rfl) (by kernel_rfl) (fun _ _ _ h => h) (Or.inl ⟨by rfl, ?_⟩) (by assumption) ?_
            rotate_left 1
            · intro w hSw
              (try dsimp only at hSw)
              go_simp
              try with_reducible rfl
            try simp only [Act.put]
            refine wpAnyH_take (i := 4) (v := ?_) rfl (by kernel_rfl) (by kernel_rfl) (by kernel_rfl) (fun _ _ _ h => h) (Or.inl ⟨by rfl, ?_⟩) (by assumption) ?_
            rotate_left 1
            · intro w hSw
              (try dsimp only at hSw)
              go_simp
              try with_reducible rfl
            try simp only [Act.put]
            refine wpAnyH_take (i := 5) (v := ?_) rfl (by kernel_rfl) (by kernel_rfl) (by kernel_rfl) (fun _ _ _ h => h) (Or.inl ⟨by rfl, ?_⟩) (by assumption) ?_
            rotate_left 1
            · intro w hSw
              (try dsimp only at hSw)
              go_simp
              try with_reducible rfl
            try simp only [Act.put]
            refine wpAnyH_take (i := 6) (v := ?_) rfl (by kernel_rfl) (by kernel_rfl) (by kernel_rfl) (fun _ _ _ h => h) (Or.inl ⟨by rfl, ?_⟩) (by assumption) ?_
            rotate_left 1
            · intro w hSw
              (try dsimp only at hSw)
              go_simp
              try with_reducible rfl
            try simp only [Act.put]
            refine wpAnyH_take (i := 7) (v := ?_) rfl (by kernel_rfl) (by kernel_rfl) (by kernel_rfl) (fun _ _ _ h => h) (Or.inl ⟨by rfl, ?_⟩) (by assumption) ?_
            rotate_left 1
            · intro w hSw
              (try dsimp only at hSw)
              go_simp
              try with_reducible rfl
            try simp only [Act.put]
            refine wpAnyH_take (i := 8) (v := ?_) rfl (by kernel_rfl) (by kernel_rfl) (by kernel_rfl) (fun _ _ _ h => h) (Or.inl ⟨by rfl, ?_⟩) (by assumption) ?_
            rotate_left 1
            · intro w hSw
              (try dsimp only at hSw)
              go_simp
              try with_reducible rfl
            try simp only [Act.put]
            refine wpAnyH_take (i := 9) (v := ?_) rfl (by kernel_rfl) (by kernel_rfl) (by kernel_rfl) (fun _ _ _ h => h) (Or.inl ⟨by rfl, ?_⟩) (by assumption) ?_
            rotate_left 1
            · intro w hSw
              (try dsimp only at hSw)
              go_simp
              try with_reducible rfl
            try simp only [Act.put]
            refine wpAnyH_take (i := 10) (v := ?_) rfl (by kernel_rfl) (by kernel_rfl) (by kernel_rfl) (fun _ _ _ h => h) (Or.inl ⟨by rfl, ?_⟩) (by assumption) ?_
            rotate_left 1
            · intro w hSw
              (try dsimp only at hSw)
              go_simp
              try with_reducible rfl
            try simp only [Act.put]
            refine wpAnyH_take (i := 11) (v := ?_) rfl (by kernel_rfl) (by kernel_rfl) (by kernel_rfl) (fun _ _ _ h => h) (Or.inl ⟨by rfl, ?_⟩) (by assumption) ?_
            rotate_left 1
            · intro w hSw
              (try dsimp only at hSw)
              go_simp
              try with_reducible rfl
            try simp only [Act.put]
            refine wpAnyH_take (i := 12) (v := ?_) rfl (by kernel_rfl) (by kernel_rfl) (by kernel_rfl) (fun _ _ _ h => h) (Or.inl ⟨by rfl, ?_⟩) (by assumption) ?_
            rotate_left 1
            · intro w hSw
              (try dsimp only at hSw)
              go_simp
              try with_reducible rfl
            try simp only [Act.put]
            refine wpAnyH_take (i := 13) (v := ?_) rfl (by kernel_rfl) (by kernel_rfl) (by kernel_rfl) (fun _ _ _ h => h) (Or.inl ⟨by rfl, ?_⟩) (by assumption) ?_
            rotate_left 1
            · intro w hSw
              (try dsimp only at hSw)
              go_simp
              try with_reducible rfl
            try simp only [Act.put]
            refine wpAnyH_take (i := 14) (v := ?_) rfl (by kernel_rfl) (by kernel_rfl) (by kernel_rfl) (fun _ _ _ h => h) (Or.inl ⟨by rfl, ?_⟩) (by assumption) ?_
            rotate_left 1
            · intro w hSw
              (try dsimp only at hSw)
              go_simp
              try with_reducible rfl
            try simp only [Act.put]
            refine wpAnyH_take (i := 15) (v := ?_) rfl (by kernel_rfl) (by kernel_rfl) (by kernel_rfl) (fun _ _ _ h => h) (Or.inl ⟨by rfl, ?_⟩) (by assumption) ?_
            rotate_left 1
            · intro w hSw
              (try dsimp only at hSw)
              go_simp
              try with_reducible rfl
            try simp only [Act.put]
            refine wpAnyH_take (i := 16) (v := ?_) rfl (by kernel_rfl) (by kernel_rfl) (by kernel_rfl) (fun _ _ _ h => h) (Or.inl ⟨by rfl, ?_⟩) (by assumption) ?_
            rotate_left 1
            · intro w hSw
              (try dsimp only at hSw)
              go_simp
              try with_reducible rfl
            try simp only [Act.put]
            refine wpAnyH_take (i := 17) (v := ?_) rfl (by kernel_rfl) (by kernel_rfl) (by kernel_rfl) (fun _ _ _ h => h) (Or.inl ⟨by rfl, ?_⟩) (by assumption) ?_
            rotate_left 1
            · intro w hSw
              (try dsimp only at hSw)
              go_simp
              try with_reducible rfl
            try simp only [Act.put]
            refine wpAnyH_take (i := 18) (v := ?_) rfl (by kernel_rfl) (by kernel_rfl) (by kernel_rfl) (fun _ _ _ h => h) (Or.inl ⟨by rfl, ?_⟩) (by assumption) ?_
            rotate_left 1
            · intro w hSw
              (try dsimp only at hSw)
              go_simp
              try with_reducible rfl
            try simp only [Act.put]
            refine wpAnyH_take (i := 19) (v := ?_) rfl (by kernel_rfl) (by kernel_rfl) (by kernel_rfl) (fun _ _ _ h => h) (Or.inl ⟨by rfl, ?_⟩) (by assumption) ?_
            rotate_left 1
            · intro w hSw
              (try dsimp only at hSw)
              go_simp
              try with_reducible rfl
            try simp only [Act.put]
            refine wpAnyH_take (i := 20) (v := ?_) rfl (by kernel_rfl) (by kernel_rfl) (by kernel_rfl) (fun _ _ _ h => h) (Or.inl ⟨by rfl, ?_⟩) (by assumption) ?_
            rotate_left 1
            · intro w hSw
              (try dsimp only at hSw)
              go_simp
              try with_reducible rfl
            try simp only [Act.put]
            refine wpAnyH_take (i := 21) (v := ?_) rfl (by kernel_rfl) (by kernel_rfl) (by kernel_rfl) (fun _ _ _ h => h) (Or.inl ⟨by rfl, ?_⟩) (by assumption) ?_
            rotate_left 1
            · intro w hSw
              (try dsimp only at hSw)
              go_simp
              try with_reducible rfl
            try simp only [Act.put]
            refine wpAnyH_take (i := 22) (v := ?_) rfl (by kernel_rfl) (by kernel_rfl) (by kernel_rfl) (fun _ _ _ h => h) (Or.inl ⟨by rfl, ?_⟩) (by assumption) ?_
            rotate_left 1
            · intro w hSw
              (try dsimp only at hSw)
              go_simp
              try with_reducible rfl
            try simp only [Act.put]
            refine wpAnyH_take (i := 24) (v := ?_) rfl (by kernel_rfl) (by kernel_rfl) (by kernel_rfl) (fun _ _ _ h => h) (Or.inl ⟨by rfl, ?_⟩) (by assumption) ?_
            rotate_left 1
            · intro w hSw
              (try dsimp only at hSw)
              go_simp
              try with_reducible rfl
            try simp only [Act.put]
            refine wpAnyH_ready (rs := [23, 25]) (by kernel_rfl) (by simp) ?_
            refine AllReadyH.cons rfl (fun K hK => ?_) ?_
            · go_simp
              refine hK.out _ _ (HELD.out _ (by repeat (first | assumption | (with_reducible refine KpA.set ?_ _) | (with_reducible refine KpA.drew ?_) | (refine KpA.nx (by repeat (first | with_reducible exact Nx.refl _ | with_reducible refine Nx.drew ?_ | with_reducible refine Nx.alloc ?_ _)))))) (fun hHeld => ?_)
              clear hK K
              try simp only [Act.put, List.setIfInBounds_toArray, List.set_cons_zero, List.set_cons_succ]
              refine wpAnyH_ready (rs := [25]) (by kernel_rfl) (by simp) ?_
              refine AllReadyH.cons rfl (fun K hK => ?_) ?_
              · go_simp
                refine hK.out _ _ (HELD.out _ (by repeat (first | assumption | (with_reducible refine KpA.set ?_ _) | (with_reducible refine KpA.drew ?_) | (refine KpA.nx (by repeat (first | with_reducible exact Nx.refl _ | with_reducible refine Nx.drew ?_ | with_reducible refine Nx.alloc ?_ _)))))) (fun hHeld => ?_)
                clear hK K
                try simp only [Act.put, List.setIfInBounds_toArray, List.set_cons_zero, List.set_cons_succ]
                refine wpAnyH_ready (rs := [26]) (by kernel_rfl) (by simp) ?_
                refine AllReadyH.cons rfl (fun K hK => ?_) ?_
                · (refine step_append_lies _ rfl _ _ _ rfl (s + 4) _ iI zI 1 8 Tryz.underlying22 E1.out E2.out E3.out E4.out E5.out (by omega) vf (rowsJ ns rs j nf).length ((rowsJ ns rs j nf).flatMap encI) rfl (own_nx HROW.out (by repeat (first | with_reducible exact Nx.refl _ | with_reducible refine Nx.drew ?_ | with_reducible refine Nx.alloc ?_ _))) _ 1 1 [.int .i64 (j : Int)] rfl rfl (news_of (hnew rfl) rfl) (by intro u hu; simp at hu; subst hu; rfl) (by omega) (by unfold maxLen; omega) (by omega) (by simp; omega) _ rfl ?_; intro g6 c6 w6 hown6 hg6 hat6 hlt6; (have hkp6 : KpA wc vf.ownBlock (s + 1) w6 := KpA.app (by repeat (first | with_reducible exact Nx.refl _ | with_reducible refine Nx.drew ?_ | with_reducible refine Nx.alloc ?_ _)) hg6); (have b7' : w6.heap[s + 1]? = some (.cells cso 22 (0, 0)) := (hg6.block (s + 1) (by simp; omega) (fun e => by have := HLO.out _ e.symm; omega)).trans ((((Nx.refl wc).alloc _).block _ (by omega)).trans HOC.out)); (have x4 : w6.cell? ⟨s + 1, nf, none⟩ = some vf := (cell_of_row w6 _ nf _ _ _ b7').trans HOV.out); (have f4 := frozen_blkR (j := nf) b7'))
                  refine hK.out _ _ (HELD.out _ (by repeat (first | assumption | (with_reducible refine KpA.set ?_ _) | (with_reducible refine KpA.drew ?_) | (refine KpA.nx (by repeat (first | with_reducible exact Nx.refl _ | with_reducible refine Nx.drew ?_ | with_reducible refine Nx.alloc ?_ _)))))) (fun hHeld => ?_)
                  clear hK K
                  try simp only [Act.put, List.setIfInBounds_toArray]
                  refine wpAnyH_take (i := 27) (v := ?_) rfl (by kernel_rfl) (by kernel_rfl) (by kernel_rfl) (fun _ _ _ h => h) (Or.inl ⟨by rfl, ?_⟩) (by assumption) ?_
                  rotate_left 1
                  · intro w hSw
                    (try dsimp only at hSw)
                    go_simp
                    try with_reducible rfl
                  try simp only [Act.put]
                  refine wpAnyH_ready (rs := [28]) (by kernel_rfl) (by simp) ?_
                  refine AllReadyH.cons rfl (fun K hK => ?_) ?_
                  · go_simp
                    refine hK.out _ _ (HELD.out _ (by repeat (first | assumption | (with_reducible refine KpA.set ?_ _) | (with_reducible refine KpA.drew ?_) | (refine KpA.nx (by repeat (first | with_reducible exact Nx.refl _ | with_reducible refine Nx.drew ?_ | with_reducible refine Nx.alloc ?_ _)))))) (fun hHeld => ?_)
                    clear hK K
                    try simp only [Act.put, List.setIfInBounds_toArray, List.set_cons_zero, List.set_cons_succ]
                    refine wpAnyH_done (by kernel_rfl) ?_ _
                    go_wp2_with fail
                    go_roundw
                    case rel =>
                      have hx1 := HNC.out.appO' hfl (W := _) (by repeat (first | with_reducible exact Nx.refl _ | with_reducible refine Nx.drew ?_ | with_reducible refine Nx.alloc ?_ _)) (upd_ne _ _ (by omega)) HVF.out hg6 (by rw [HS.out]; exact hown6) hat6
                      rw [HS.out] at hx1
                      have hm1 := hkp6.map HMC.out (fun e => own_neMap HROW.out HMC.out e.symm) (by omega)
                      refine ⟨j + 1, upd v' nf (.slice (some ⟨g6, 0, none⟩) ((rowsJ ns rs j nf).length + 1) c6), by omega, by go_num, ?_, (hm1.gr (s := s + 1) ((Gr.refl (s + 1) w6).setS (p := ⟨s + 1, nf, none⟩) (.inl rfl) _) (by omega))⟩
                      rw [HRS.out]
                      exact hx1
                    case measure => simp [intOf]; omega
                  · exact AllReadyH.nil
                · exact AllReadyH.nil
              · exact AllReadyH.nil
            refine AllReadyH.cons rfl (fun K hK => ?_) ?_
            · go_simp
              refine hK.out _ _ (HELD.out _ (by repeat (first | assumption | (with_reducible refine KpA.set ?_ _) | (with_reducible refine KpA.drew ?_) | (refine KpA.nx (by repeat (first | with_reducible exact Nx.refl _ | with_reducible refine Nx.drew ?_ | with_reducible refine Nx.alloc ?_ _)))))) (fun hHeld => ?_)
              clear hK K
              try simp only [Act.put, List.setIfInBounds_toArray, List.set_cons_zero, List.set_cons_succ]
              refine wpAnyH_ready (rs := [23]) (by kernel_rfl) (by simp) ?_
              refine AllReadyH.cons rfl (fun K hK => ?_) ?_
              · go_simp
                refine hK.out _ _ (HELD.out _ (by repeat (first | assumption | (with_reducible refine KpA.set ?_ _) | (with_reducible refine KpA.drew ?_) | (refine KpA.nx (by repeat (first | with_reducible exact Nx.refl _ | with_reducible refine Nx.drew ?_ | with_reducible refine Nx.alloc ?_ _)))))) (fun hHeld => ?_)
                clear hK K
                try simp only [Act.put, List.setIfInBounds_toArray, List.set_cons_zero, List.set_cons_succ]
                refine wpAnyH_ready (rs := [26]) (by kernel_rfl) (by simp) ?_
                refine AllReadyH.cons rfl (fun K hK => ?_) ?_
                · (refine step_append_lies _ rfl _ _ _ rfl (s + 4) _ iI zI 1 8 Tryz.underlying22 E1.out E2.out E3.out E4.out E5.out (by omega) vf (rowsJ ns rs j nf).length ((rowsJ ns rs j nf).flatMap encI) rfl (own_nx HROW.out (by repeat (first | with_reducible exact Nx.refl _ | with_reducible refine Nx.drew ?_ | with_reducible refine Nx.alloc ?_ _))) _ 1 1 [.int .i64 (j : Int)] rfl rfl (news_of (hnew rfl) rfl) (by intro u hu; simp at hu; subst hu; rfl) (by omega) (by unfold maxLen; omega) (by omega) (by simp; omega) _ rfl ?_; intro g6 c6 w6 hown6 hg6 hat6 hlt6; (have hkp6 : KpA wc vf.ownBlock (s + 1) w6 := KpA.app (by repeat (first | with_reducible exact Nx.refl _ | with_reducible refine Nx.drew ?_ | with_reducible refine Nx.alloc ?_ _)) hg6); (have b7' : w6.heap[s + 1]? = some (.cells cso 22 (0, 0)) := (hg6.block (s + 1) (by simp; omega) (fun e => by have := HLO.out _ e.symm; omega)).trans ((((Nx.refl wc).alloc _).block _ (by omega)).trans HOC.out)); (have x4 : w6.cell? ⟨s + 1, nf, none⟩ = some vf := (cell_of_row w6 _ nf _ _ _ b7').trans HOV.out); (have f4 := frozen_blkR (j := nf) b7'))
                  refine hK.out _ _ (HELD.out _ (by repeat (first | assumption | (with_reducible refine KpA.set ?_ _) | (with_reducible refine KpA.drew ?_) | (refine KpA.nx (by repeat (first | with_reducible exact Nx.refl _ | with_reducible refine Nx.drew ?_ | with_reducible refine Nx.alloc ?_ _)))))) (fun hHeld => ?_)
                  clear hK K
                  try simp only [Act.put, List.setIfInBounds_toArray]
                  refine wpAnyH_take (i := 27) (v := ?_) rfl (by kernel_rfl) (by kernel_rfl) (by kernel_rfl) (fun _ _ _ h => h) (Or.inl ⟨by rfl, ?_⟩) (by assumption) ?_
                  rotate_left 1
                  · intro w hSw
                    (try dsimp only at hSw)
                    go_simp
                    try with_reducible rfl
                  try simp only [Act.put]
                  refine wpAnyH_ready (rs := [28]) (by kernel_rfl) (by simp) ?_
                  refine AllReadyH.cons rfl (fun K hK => ?_) ?_
                  · go_simp
                    refine hK.out _ _ (HELD.out _ (by repeat (first | assumption | (with_reducible refine KpA.set ?_ _) | (with_reducible refine KpA.drew ?_) | (refine KpA.nx (by repeat (first | with_reducible exact Nx.refl _ | with_reducible refine Nx.drew ?_ | with_reducible refine Nx.alloc ?_ _)))))) (fun hHeld => ?_)
                    clear hK K
                    try simp only [Act.put, List.setIfInBounds_toArray, List.set_cons_zero, List.set_cons_succ]
                    refine wpAnyH_done (by kernel_rfl) ?_ _
                    go_wp2_with fail
                    go_roundw
                    case rel =>
                      have hx1 := HNC.out.appO' hfl (W := _) (by repeat (first | with_reducible exact Nx.refl _ | with_reducible refine Nx.drew ?_ | with_reducible refine Nx.alloc ?_ _)) (upd_ne _ _ (by omega)) HVF.out hg6 (by rw [HS.out]; exact hown6) hat6
                      rw [HS.out] at hx1
                      have hm1 := hkp6.map HMC.out (fun e => own_neMap HROW.out HMC.out e.symm) (by omega)
                      refine ⟨j + 1, upd v' nf (.slice (some ⟨g6, 0, none⟩) ((rowsJ ns rs j nf).length + 1) c6), by omega, by go_num, ?_, (hm1.gr (s := s + 1) ((Gr.refl (s + 1) w6).setS (p := ⟨s + 1, nf, none⟩) (.inl rfl) _) (by omega))⟩
                      rw [HRS.out]
                      exact hx1
                    case measure => simp [intOf]; omega
                  · exact AllReadyH.nil
                · exact AllReadyH.nil
              · exact AllReadyH.nil
            exact AllReadyH.nil
        · obtain rfl : m = j := by omega
          clear hlt
          have B2 := (HBX2.out wr hbw).2.2
          go_wp2_with fail
          clear B2
          have hb6c : s + 4 ≤ b6 := hb6
          go_loopw [105] (fun i wr => ∃ k : Nat, k ≤ nb ∧ i = .int .i64 k ∧ NM w wr g0 nn v (rowsJ ns rs m) nn (mapN ns nn) k (mapB rs bs k) ∧ MpRI wr b6 m (mapA rs m)) (fun i _ => nb - (intOf i).toNat)
          case atStart => exact ⟨0, Nat.zero_le _, rfl, HNM.out, HM6.out⟩
          case round =>
            clear HNM HM6 hbw
            obtain ⟨k, hk, rfl, hNM, hM6⟩ := hrel
            have HNM := hide hNM
            have HM6 := hide hM6
            have hbw := hNM.nx
            clear hNM hM6
            by_cases hlt : k < nb
            · have hkl : k < bs.length := by have := HB.out; omega
              obtain ⟨b, off, rfl, _, hb, hbr, hc⟩ := HBX.out.hB.open_ hbw (by have := HB.out; omega)
              have c0 : wr.cell? ⟨b, off + k * 2, none⟩ = some (.string bs[k].from_) := hc k hkl 0 _ rfl
              have c1 : wr.cell? ⟨b, off + k * 2 + 1, none⟩ = some (.string bs[k].to_) := hc k hkl 1 _ rfl
              obtain ⟨hdf, hdt, hf0, ht0⟩ := HOK.out.kb _ (List.getElem_mem hkl)
              have hf := mapA_get HOK.out.sa hf0
              have ht := mapA_get HOK.out.sa ht0
              rw [HR.out] at hf ht
              obtain ⟨kf, hkf, ekf, _⟩ := arc_foundK hf0
              obtain ⟨kt, hkt, ekt, _⟩ := arc_foundK ht0
              have HST := hide (show mapB rs bs (k + 1) = fun p => if p = ((kf : Int), (kt : Int)) then some true else mapB rs bs k p by
                funext p
                rw [mapB, List.getD_eq_getElem?_getD, List.getElem?_eq_getElem hkl, ← ekf, ← ekt]; rfl)
              rw [ekf] at hf
              rw [ekt] at ht
              rw [HR.out] at hkf hkt
              have HF := hide hf
              have HT := hide ht
              have i1 : (0 : Int) ≤ (k : Int) := by omega
              have i2 : (k : Int) < (nb : Int) := by omega
              clear hc hf ht hf0 ht0 ekf ekt
              generalize bs[k].from_ = xf at *
              generalize bs[k].to_ = xt at *
              go_upto_region 18 with fail
              obtain ⟨wk, hwk⟩ : ∃ wk, wk = wr.alloc (.cells #[.string xf, .string xt] 80) := ⟨_, rfl⟩
              have hnk : Nx wr wk := hwk ▸ (Nx.refl wr).alloc _
              have d0 : wk.cell? ⟨wr.heap.size, 0, none⟩ = some (.string xf) := by rw [hwk]; go_simp
              have d1 : wk.cell? ⟨wr.heap.size, 1, none⟩ = some (.string xt) := by rw [hwk]; go_simp
              have HNK := hide (HNM.out.step hnk)
              have HM6k := hide (HM6.out.nx hnk)
              have e4 : wk.cell? ⟨s + 3, 4, none⟩ = some (.map (some (s + 2))) := by have h := HNK.out.blk; rw [HS.out] at h; exact (cell_of_row wk _ 4 _ _ _ h).trans rfl
              have hL1 := look_run (W := wk.drew) (HM6k.out.nx ((Nx.refl _).drew)) hdf HF.out
              have hL2 := look_run (W := wk.drew) (HM6k.out.nx ((Nx.refl _).drew)) hdt HT.out
              have hdp : domP ((kf : Int), (kt : Int)) := ⟨wf_i64o.2 ⟨by show _ ≤ (kf : Int); omega, by show (kf : Int) ≤ _; omega⟩, wf_i64o.2 ⟨by show _ ≤ (kt : Int); omega, by show (kt : Int) ≤ _; omega⟩⟩
              obtain ⟨kl, hkl2⟩ := key_pair _ hdp
              rw [← hwk]
              have HWK := hide hwk
              clear hwk c0 c1 HNM HM6
              go_still_tail 13, (by kernel_rfl)
              change wpList _ _ _ _ _ wk.drew
              go_wp2_with (at_mapUpdate; refine wpMgPut _ rfl _ _ _ _ rfl boolR law_pair ekP_inj Tryz.underlying156 (s + 2) k (mapB rs bs k) rfl (by have h := HNK.out.m4.nx ((Nx.refl _).drew); rw [HS.out] at h; exact h) (by unfold maxLen; omega) ((kf : Int), (kt : Int)) rfl hdp _ hkl2 true rfl trivial ?_; intro w2 hm2 hg2; (have HM2 := hide hm2); (have HG2 := hide hg2); clear hm2 hg2)
              go_roundw
              case rel =>
                refine ⟨k + 1, by omega, by go_num, (HNK.out.step (Nx.refl _).drew).put4 (by rw [HS.out]; exact HG2.out) (by rw [HS.out, HST.out]; exact HM2.out), ?_⟩
                exact (HM6k.out.nx (Nx.refl _).drew).gr HG2.out (by omega)
              case measure => simp [intOf]; omega
            · obtain rfl : nb = k := by omega
              clear hlt
              go_wp2_with fail
              go_ret
              have hx := HNM.out
              rw [← HN.out, ← HR.out, ← HB.out] at hx
              obtain ⟨M, hM⟩ := hx.mapR HBX.out
              rw [HS.out] at hM
              exact ⟨s + 3, M, rfl, by rw [HS.out]; omega, hM, hbw⟩
end Go.Proofs.YtepbamacebjopaaGreatDoor
