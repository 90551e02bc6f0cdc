/- slices.Sort and slices.Compact of numbers, on a row of one's own. -/
import Derived.Test.YtmpnilliichpfaaGreatDoorQH0
import Derived.Test.YtmpnilliichpfaaGreatDoorQG1
import Derived.Test.YtmpnilliichpfaaGreatDoorQShelfN
import Derived.Sort.OwnSortedInts
import Derived.Sort.EveryDepth
import Derived.Lib.SlicesCompact
import Derived.Test.YtmpnilliichpfaaGreatDoorQPlainW
import Derived.Test.YtmpnilliichpfaaGreatDoorQG21
import Derived.Test.YtmpnilliichpfaaGreatDoorQG11
import Derived.Test.YtmpnilliichpfaaGreatDoorQG32
namespace Go.Proofs.YtmpnilliichpfaaGreatDoor
open Go.RowKit Go.Proofs Go.Shelf

theorem mem_compact (zs : List Int) (x : Int) : x ∈ Lib.compact zs ↔ x ∈ zs := by
  have hx : ∀ j, j < zs.length → zs.toArray[j]! = zs.getD j 0 := fun j hj => by
    rw [List.getD_eq_getElem?_getD, List.getElem?_eq_getElem hj]
    simp [hj]
  unfold Lib.compact Lib.compactUpTo
  constructor
  · intro h
    obtain ⟨j, hj, e⟩ := List.mem_map.1 h
    have hl := List.mem_range.1 (List.mem_filter.1 hj).1
    rw [← e, hx j hl, List.getD_eq_getElem?_getD, List.getElem?_eq_getElem hl]
    exact List.getElem_mem hl
  · intro h
    obtain ⟨j, hj, e⟩ := List.mem_iff_getElem.1 h
    suffices hh : ∀ j, j < zs.length → zs.toArray[j]! ∈ List.map (fun k => zs.toArray[k]!) (List.filter (Lib.keeps zs.toArray) (List.range zs.length)) by
      have := hh j hj
      rw [hx j hj, List.getD_eq_getElem?_getD, List.getElem?_eq_getElem hj] at this
      rw [← e]
      exact this
    intro j
    induction j with
    | zero =>
      intro hj
      exact List.mem_map.2 ⟨0, List.mem_filter.2 ⟨List.mem_range.2 hj, by simp [Lib.keeps]⟩, rfl⟩
    | succ j ih =>
      intro hj
      by_cases hk : zs.toArray[j + 1]! ≠ zs.toArray[j]!
      · exact List.mem_map.2 ⟨j + 1, List.mem_filter.2 ⟨List.mem_range.2 hj, Lib.keeps_pos (by simpa using hk)⟩, rfl⟩
      · have e : zs.toArray[j + 1]! = zs.toArray[j]! := Classical.not_not.1 hk
        rw [e]
        exact ih (by omega)
theorem mem_sortI (l : List Int) (x : Int) : x ∈ (l.mergeSort fun a b => decide (a ≤ b)) ↔ x ∈ l := List.mem_mergeSort
/-- A block whose first numbers are these. -/
def IntsAt (w : World) (g cap : Nat) (l : List Int) : Prop := ∃ cur, w.heap[g]? = some (.cells cur 3 (0, 0)) ∧ cur.size = cap ∧ l.length ≤ cap ∧ cur.toList.take l.length = l.map (Value.int .i64)
theorem w_SortI (g cap : Nat) (l : List Int) (w : World) (h : IntsAt w g cap l) (hl : l.length ≤ 100000) :
    Calls Tryz.prog 99 #[.slice (some ⟨g, 0, none⟩) l.length cap] w fun e w' => e = .returned (.tuple #[]) ∧ IntsAt w' g cap (l.mergeSort fun a b => decide (a ≤ b)) ∧ Gr g w w' := by
  obtain ⟨cur, hb, h3, h1, ht⟩ := h
  have hcon := AnyG.slices_Sort_int Tryz.sortInts g 0 cap l w (holds_of_blockI hb ht) (Array.getElem?_eq_some_iff.1 hb).1 (by omega)
  change Calls Tryz.prog 99 _ _ _ at hcon
  refine hcon.mono ?_
  rintro e w' ⟨rfl, n, os, rfl⟩
  have hle : (l.mergeSort fun a b => decide (a ≤ b)).length = l.length := List.length_mergeSort l
  refine ⟨rfl, ⟨_, heap_sortedI _ hb, by simp [Sort.putCells, h3], by rw [hle]; exact h1, take_putCellsI cur _ (by rw [hle]; omega)⟩, grownBy_sortedI _⟩
theorem w_CompI (g cap : Nat) (l : List Int) (w : World) (h : IntsAt w g cap l) (hl : l.length ≤ 100000) :
    Calls Tryz.prog 100 #[.slice (some ⟨g, 0, none⟩) l.length cap] w fun e w' => e = .returned (.slice (some ⟨g, 0, none⟩) (Lib.compact l).length cap) ∧ IntsAt w' g cap (Lib.compact l) ∧ Gr g w w' := by
  obtain ⟨cur, hb, h3, h1, ht⟩ := h
  have hcon := calls_of_every_depth fun D => AnySG.slices_Compact_int_in Tryz.compactInts D g 0 cap l w (holds_of_blockI hb ht) (by omega) h1
  change Calls Tryz.prog 100 _ _ _ at hcon
  refine hcon.mono ?_
  rintro e w' ⟨rfl, n, rfl⟩
  have hcl : (Lib.compact l).length ≤ l.length := by
    unfold Lib.compact Lib.compactUpTo
    rw [List.length_map]
    exact Nat.le_trans (List.length_filter_le _ _) (by rw [List.length_range]; exact Nat.le_refl _)
  obtain ⟨C, hC⟩ : ∃ C, C = Lib.compact l := ⟨_, rfl⟩
  rw [← hC] at hcl ⊢
  obtain ⟨D, hD⟩ : ∃ D, D = C ++ List.replicate (l.length - C.length) (0 : Int) := ⟨_, rfl⟩
  have hDl : D.length = l.length := by rw [hD, List.length_append, List.length_replicate]; omega
  rw [← hD]
  have hh : (Sort.putRow (Value.int .i64) (Sort.ahead w n) g 0 D.toArray).heap[g]? = some (.cells (Sort.putCells (Value.int .i64) 0 D.toArray cur) 3 (0, 0)) := by
    simp [Sort.putRow, Sort.mapBlock, Sort.ahead, Array.getElem?_modify, hb, Sort.onCells]
  refine ⟨rfl, ⟨_, hh, by simp [Sort.putCells, h3], by omega, ?_⟩, ⟨rfl, rfl, rfl, by simp [Sort.putRow, Sort.mapBlock, Sort.ahead], fun k hk hne => ?_⟩⟩
  · have h2 := take_putCellsI cur D (by omega)
    have h4 := congrArg (List.take C.length) h2
    rw [List.take_take, Nat.min_eq_left (by omega), ← List.map_take, hD, List.take_left'] at h4
    · rw [← hD] at h4
      exact h4
    · rfl
  · have : g ≠ k := fun e => hne (by rw [e])
    simp [Sort.putRow, Sort.mapBlock, Sort.ahead, Array.getElem?_modify, this]
end Go.Proofs.YtmpnilliichpfaaGreatDoor
/- The arcs that each way has: the program's Needed. -/
namespace Go.Proofs.YtmpnilliichpfaaGreatDoor
open Go.RowKit Go.Maps

theorem el_SX : ElemOf Tryz.prog 32 9 1 16 := ElemOf.mk' (z := .string ByteArray.empty) Tryz.underlying32 (by kernel_rfl) rfl
section
variable {ns : List Node} {rs : List Arc} {bs : List Ban} {a b : Nat}
noncomputable def needB (ns : List Node) (rs : List Arc) (bs : List Ban) (a b : Nat) (z : Int) : Bool := @decide (¬ connP ns rs bs a b z) (Classical.propDecidable _)
theorem needB_iff {z : Int} : needB ns rs bs a b z = true ↔ ¬ connP ns rs bs a b z := by unfold needB; exact @decide_eq_true_iff _ (Classical.propDecidable _)
noncomputable def needL (ns : List Node) (rs : List Arc) (bs : List Ban) (a b : Nat) (C : List Int) : List ByteArray := (C.filter (needB ns rs bs a b)).map fun z => (arcX rs z.toNat).key
theorem APth.pos {P : Arc → Prop} {ban : Arc → Arc → Bool} {x : Arc} {n : Nat} (h : APth ns P ban a x n) : 0 < n := by cases h <;> omega
theorem WayIs.ne {w : Int} {l : List Nat} (h : WayIs ns rs bs a b w l) : 0 < l.length := by
  obtain ⟨x, hp, _⟩ := h.path
  exact hp.pos
/-- Which arcs are needed: those without which there is no way. -/
theorem needL_iff {l : List Nat} (hW : WayIs ns rs bs a b (-1) l) {C : List Int} (hC : ∀ x, x ∈ C ↔ x ∈ intsOf l) (s : ByteArray) : s ∈ needL ns rs bs a b C ↔ ∃ k, k < rs.length ∧ (arcX rs k).key = s ∧ ¬ connP ns rs bs a b k := by
  unfold needL
  rw [List.mem_map]
  constructor
  · rintro ⟨z, hz, e⟩
    obtain ⟨h1, h2⟩ := List.mem_filter.1 hz
    have h3 := (hC z).1 h1
    unfold intsOf at h3
    obtain ⟨k, hk, rfl⟩ := List.mem_map.1 h3
    exact ⟨k, (hW.lt k hk).1, by simpa using e, needB_iff.1 h2⟩
  · rintro ⟨k, hk, e, hn⟩
    have hkl : k ∈ l := Classical.byContradiction fun h => hn (hW.other h)
    exact ⟨(k : Int), List.mem_filter.2 ⟨(hC _).2 (by unfold intsOf; exact List.mem_map.2 ⟨k, hkl, rfl⟩), needB_iff.2 hn⟩, by simpa using e⟩
end
/-- What Needed answers where the ends are right. -/
def NeedOut (ns : List Node) (rs : List Arc) (bs : List Ban) (a b : Nat) (w : World) (e : Ending) (w' : World) : Prop := ∃ (Z : Option Addr) (c : Nat) (L : List ByteArray) (F : Int), e = .returned (.tuple #[.slice Z L.length c, .int .i64 F]) ∧ Rd w' 0 Z 1 encS L ∧ L.length ≤ rs.length ∧ Nx w w' ∧
  ((a = b ∧ F = 0 ∧ L = []) ∨ (a ≠ b ∧ ¬ connP ns rs bs a b (-1) ∧ F = 8 ∧ L = []) ∨ (a ≠ b ∧ connP ns rs bs a b (-1) ∧ F = 0 ∧ ∀ s, s ∈ L ↔ ∃ k, k < rs.length ∧ (arcX rs k).key = s ∧ ¬ connP ns rs bs a b k))
set_option maxRecDepth 100000 in
set_option maxHeartbeats 8000000 in
theorem w_Needed (lo : Nat) (A B C : Option Addr) (ca cb cc : Nat) (ns : List Node) (rs : List Arc) (bs : List Ban) (f t : ByteArray) (i j : Nat) (w : World)
    (hN : Rd w lo A 3 encNode ns) (hA : RdArcs w lo B rs) (hB : Rd w lo C 2 encBan bs) (hnl : ns.length ≤ 400) (hal : rs.length ≤ 400) (hbl : bs.length ≤ 400)
    (hS : SmallN ns) (hF : roadsF ns rs bs = 0) (hi : nodeI ns f = (i : Int)) (hj : nodeI ns t = (j : Int)) (hil : i < ns.length) :
    Calls Tryz.prog 34 #[.agg #[.slice A ns.length ca, .slice B rs.length cb, .slice C bs.length cc], .string f, .string t] w (NeedOut ns rs bs i j w) := by
  obtain ⟨wa, hwa⟩ : ∃ wa, wa = w.alloc (.cells #[.slice A ns.length ca, .slice B rs.length cb, .slice C bs.length cc] 30) := ⟨_, rfl⟩
  have hna : Nx w wa := hwa ▸ (Nx.refl w).alloc _
  have hgw : w.heap.size < wa.heap.size := by rw [hwa]; simp
  have b0 : wa.cell? ⟨w.heap.size, 0, none⟩ = some (.slice A ns.length ca) := by rw [hwa]; go_simp
  have b1 : wa.cell? ⟨w.heap.size, 1, none⟩ = some (.slice B rs.length cb) := by rw [hwa]; go_simp
  have b2 : wa.cell? ⟨w.heap.size, 2, none⟩ = some (.slice C bs.length cc) := by rw [hwa]; go_simp
  have hBox : BoxR wa w.heap.size lo A B C ca cb cc ns rs bs := ⟨b0, b1, b2, hgw, hN.nx hna, hA.nx hna, hB.nx hna, hnl, hal, hbl⟩
  have HC := hide (fun W (hx : Nx wa W) => w_Ends w.heap.size lo A B C ca cb cc ns rs bs f t 0 i j W (hBox.nx hx) hS hF (newOk_of hF) hi hj (by decide))
  have HRC := hide (roads_ok hF).2.1
  have HBX := hide hBox
  clear hBox b0 b1 b2 hN hA hB hF hi hj
  have HWA := hide hwa
  clear hwa
  go_enter Tryz.func34, Tryz.ntmps34
  go_upto_region 1 with fail
  rw [← HWA.out]
  go_wp2_with fail
  refine (HC.out _ (Nx.refl _)).mono ?_
  rintro e w1 ⟨bm, M, rfl, hbm, hM, hn1⟩
  have HM := hide hM
  have HN1 := hide (hna.trans hn1)
  have HNA1 := hide hn1
  clear hM hn1 HC
  by_cases hij : i = j
  · have tij : ((i : Int) == (j : Int)) = true := by rw [hij]; simp
    have HIJ := hide hij
    clear hij
    go_wp2_with fail
    go_ret2
    exact ⟨none, 0, [], 0, rfl, Rd.nil, Nat.zero_le _, HN1.out, .inl ⟨HIJ.out, rfl, rfl⟩⟩
  · have tij : ((i : Int) == (j : Int)) = false := by simp; omega
    have HIJ := hide hij
    clear hij
    have HPW := hide (fun (wo : Int) (hwo : -1 ≤ wo ∧ wo ≤ 100000) W (hx : Nx w1 W) => w_plainWay W (HM.out.nx hx) HRC.out hal i j hil wo hwo)
    go_wp2_with fail
    refine (HPW.out (-1) (by omega) w1 (Nx.refl _)).mono ?_
    rintro e w2 ⟨hn2, hcase⟩
    rcases hcase with ⟨v, l, rfl, hown, hW⟩ | ⟨rfl, hno⟩
    · obtain ⟨A2, c2, rfl, hq⟩ : ∃ A2 c2, v = .slice A2 l.length c2 ∧ ∃ g, A2 = some ⟨g, 0, none⟩ ∧ w1.heap.size ≤ g ∧ IntsAt w2 g c2 (intsOf l) := by
        have h0 := hW.ne
        have hfl : (intsOf l).flatMap encI = (intsOf l).map (Value.int .i64) := by
          generalize intsOf l = z
          induction z with
          | nil => rfl
          | cons x z ih => rw [List.flatMap_cons, ih]; rfl
        rcases hown.2 with ⟨_, h1⟩ | ⟨g, cap, cur, rfl, h1, h2, h3, h4, h5, h6⟩
        · omega
        · exact ⟨_, cap, rfl, g, rfl, h1, cur, h2, by omega, by rw [intsOf_len]; exact h3, by rw [intsOf_len, ← hfl]; simpa using h6⟩
      obtain ⟨g, rfl, hg, hI⟩ := hq
      have HW := hide hW
      have HLL := hide (⟨hW.len, hW.ne⟩ : l.length ≤ rs.length ∧ 0 < l.length)
      have HI := hide hI
      have HN2 := hide hn2
      have HLI := hide (intsOf_len l)
      clear hown hW hI hn2
      have hs := w_SortI g c2 (intsOf l) w2 HI.out (by rw [HLI.out]; have := HLL.out.1; omega)
      rw [HLI.out] at hs
      have HS := hide hs
      clear hs
      generalize hnl2 : l.length = nl at *
      go_wp2_with fail
      refine HS.out.mono ?_
      rintro e w3 ⟨rfl, hI3, hg3⟩
      obtain ⟨D, hD⟩ : ∃ D, D = (intsOf l).mergeSort fun a b => decide (a ≤ b) := ⟨_, rfl⟩
      rw [← hD] at hI3
      have hDl : D.length = nl := by rw [hD, List.length_mergeSort, HLI.out]
      have hDm : ∀ x, x ∈ D ↔ x ∈ intsOf l := fun x => by rw [hD]; exact mem_sortI _ _
      have HDM := hide hDm
      have hc := w_CompI g c2 D w3 hI3 (by have := HLL.out.1; omega)
      rw [hDl] at hc
      have HCC := hide hc
      have HN3 := hide (Nx.of_gr ((Gr.of_nx HN2.out).trans hg3) hg)
      have hgl3 : g < w3.heap.size := by
        obtain ⟨cur, h, _⟩ := hI3
        exact (Array.getElem?_eq_some_iff.1 h).1
      clear hD hc hI3 hg3 HS
      go_wp2_with fail
      refine HCC.out.mono ?_
      rintro e w4 ⟨rfl, hI4, hg4⟩
      obtain ⟨Q, hQ⟩ : ∃ Q, Q = Lib.compact D := ⟨_, rfl⟩
      rw [← hQ] at hI4 ⊢
      have hQm : ∀ x, x ∈ Q ↔ x ∈ intsOf l := fun x => by rw [hQ, mem_compact]; exact HDM.out x
      have hQl : Q.length ≤ rs.length := by
        have h1 : Q.length ≤ D.length := by
          rw [hQ]
          unfold Lib.compact Lib.compactUpTo
          rw [List.length_map]
          exact Nat.le_trans (List.length_filter_le _ _) (by rw [List.length_range]; exact Nat.le_refl _)
        have := HLL.out.1
        omega
      have HQM := hide hQm
      have HN4 := hide (Nx.of_gr ((Gr.of_nx HN3.out).trans hg4) hg)
      have hgl4 : g < w4.heap.size := Nat.lt_of_lt_of_le hgl3 hg4.sz
      have HQC := hide (fun (k : Nat) (hk : k < Q.length) W (hx : Nx w4 W) => (show W.cell? ⟨g, k, none⟩ = some (.int .i64 (Q.getD k 0)) from by
        obtain ⟨cur, h1, h2, h3, h4⟩ := hI4
        refine nx_cell hx hgl4 ((cell_of_row w4 g k _ _ _ h1).trans ?_)
        have h5 : (cur.toList.take Q.length)[k]? = (Q.map (Value.int .i64))[k]? := by rw [h4]
        rw [List.getElem?_take_of_lt hk, List.getElem?_map, List.getElem?_eq_getElem hk] at h5
        rw [← Array.getElem?_toList, h5, List.getD_eq_getElem?_getD, List.getElem?_eq_getElem hk]
        rfl))
      have HQK := hide (fun (k : Nat) (hk : k < Q.length) => (show ∃ x : Nat, Q.getD k 0 = (x : Int) ∧ x < rs.length from by
        have h1 : Q.getD k 0 ∈ Q := by rw [List.getD_eq_getElem?_getD, List.getElem?_eq_getElem hk]; exact List.getElem_mem hk
        have h2 := (HQM.out _).1 h1
        unfold intsOf at h2
        obtain ⟨x, hx, e⟩ := List.mem_map.1 h2
        exact ⟨x, e.symm, (HW.out.lt x hx).1⟩))
      have HTK := hide (fun (k : Nat) (hk : k < Q.length) => (show needL ns rs bs i j (Q.take (k + 1)) = needL ns rs bs i j (Q.take k) ++ (if needB ns rs bs i j (Q.getD k 0) = true then [(arcX rs (Q.getD k 0).toNat).key] else []) from by
        unfold needL
        rw [List.take_succ_eq_append_getElem hk, List.filter_append, List.map_append, List.getD_eq_getElem?_getD, List.getElem?_eq_getElem hk]
        congr 1
        show List.map _ (List.filter _ [Q[k]]) = _
        cases h : needB ns rs bs i j Q[k] <;> simp [h]))
      have HTL := hide (fun (k : Nat) (hk : k ≤ Q.length) => (show (needL ns rs bs i j (Q.take k)).length ≤ k from by
        unfold needL
        rw [List.length_map]
        have := List.length_filter_le (needB ns rs bs i j) (Q.take k)
        rw [List.length_take] at this
        omega))
      clear hQ hI4 hg4 hQm hgl3
      generalize hnq : Q.length = nq at *
      have HNQ := hide hnq
      clear hnq
      go_wp2_with fail
      go_loopw [14, 47] (fun v u wr => ∃ k : Nat, k ≤ nq ∧ u = .int .i64 k ∧ Nx w4 wr ∧ wr.ownsRow w4.heap.size 9 1 v (needL ns rs bs i j (Q.take k)).length ((needL ns rs bs i j (Q.take k)).flatMap encS)) (fun _ u _ => nq - (intOf u).toNat)
      case atStart => exact ⟨0, Nat.zero_le _, rfl, Nx.refl _, World.ownsRow_nil _ _ _ _⟩
      case round =>
        obtain ⟨k, hk, rfl, hbw, hown⟩ := hrel
        have HO := hide hown
        clear hown
        by_cases hlt : k < nq
        · have ck := HQC.out k hlt wr hbw
          obtain ⟨x, hx, hxl⟩ := HQK.out k hlt
          have hTK := HTK.out k hlt
          rw [hx] at ck hTK
          have HTK2 := hide hTK
          have HTL2 := hide (HTL.out k (by omega))
          have hnw := HN4.out.trans hbw
          clear hx hTK
          go_wp2_with fail
          refine (HPW.out (x : Int) (by omega) wr hnw).mono ?_
          rintro e w5 ⟨hn5, hcase⟩
          rcases hcase with ⟨v', l', rfl, _, hW'⟩ | ⟨rfl, hno⟩
          · have hnb : needB ns rs bs i j (x : Int) = false := by
              cases h : needB ns rs bs i j (x : Int) with
              | false => rfl
              | true => exact absurd hW'.conn (needB_iff.1 h)
            have HTK3 := hide (HTK2.out.trans (by rw [hnb]; simp : _ = needL ns rs bs i j (Q.take k)))
            clear hW' hnb
            go_wp2_with fail
            go_roundw
            case rel => exact ⟨k + 1, by omega, by go_num, hbw.trans hn5, by rw [HTK3.out]; exact own_nx HO.out hn5⟩
            case measure => simp [intOf]; omega
          · have hnb : needB ns rs bs i j (x : Int) = true := needB_iff.2 hno
            have HTK3 := hide (HTK2.out.trans (by rw [hnb]; simp : _ = needL ns rs bs i j (Q.take k) ++ [(arcX rs x).key]))
            have hbx5 := HBX.out.nx (HNA1.out.trans (hnw.trans hn5))
            obtain ⟨ab, aoff, rfl, _, _, hab, hac⟩ := hbx5.hA.1.open_ (Nx.refl _) (by omega)
            have g1 := hbx5.g1
            have ak : w5.cell? ⟨ab, aoff + x * 5, none⟩ = some (.string (arcX rs x).key) := by
              rw [arcX_get hxl]
              exact hac x hxl 0 _ rfl
            have ho5 := own_nx HO.out hn5
            have HO5 := hide ho5
            have hzz := hbw.sz
            have hz5 := hn5.sz
            clear hno hnb hac hab ho5 hbx5
            generalize (arcX rs x).key = ky at *
            generalize needL ns rs bs i j (Q.take k) = L0 at *
            go_wp2_with (at_builtin; go_must (refine wpApp2 rfl _ _ _ rfl el_SX encS encS_len encS_one (by omega) (by omega) w4.heap.size _ L0 rfl (HO5.out.alloc _) _ ky _ rfl (hnew rfl) rfl (by have := HTL2.out; omega) (by simp; omega) ?_); intro v9 w9 hown9 hg9 _; (have HO9 := hide hown9); (have HG9 := hide hg9); clear hown9 hg9)
            go_roundw
            case rel => exact ⟨k + 1, by omega, by go_num, ((hbw.trans hn5).alloc _).grown HG9.out (fun y hy => own_blk_lt HO5.out y hy), by rw [HTK3.out]; exact HO9.out⟩
            case measure => simp [intOf]; omega
        · obtain rfl : nq = k := by omega
          have hown := HO.out
          rw [← HNQ.out, List.take_length] at hown
          have hLl : (needL ns rs bs i j Q).length ≤ rs.length := by
            have := HTL.out nq (Nat.le_refl _)
            rw [← HNQ.out, List.take_length] at this
            have := HNQ.out
            omega
          obtain ⟨Z, cz, rfl, hRd, _⟩ := Rd.of_own encS_len rfl hown
          have HRd := hide hRd
          have HLl := hide hLl
          have HCN := hide HW.out.conn
          have HIFF := hide (fun s => needL_iff HW.out HQM.out s)
          clear hRd hown HO hLl
          generalize needL ns rs bs i j Q = L at *
          generalize hL : L.length = nL at *
          go_wp2_with fail
          go_ret2
          exact ⟨Z, cz, L, 0, by rw [hL]; rfl, HRd.out.low (Nat.zero_le _), by rw [hL]; exact HLl.out, HN1.out.trans (HN4.out.trans hbw), .inr (.inr ⟨HIJ.out, HCN.out, rfl, HIFF.out⟩)⟩
    · have HNO := hide hno
      clear hno
      go_wp2_with fail
      go_ret2
      exact ⟨none, 0, [], 8, rfl, Rd.nil, Nat.zero_le _, HN1.out.trans hn2, .inr (.inl ⟨HIJ.out, HNO.out, rfl, rfl⟩)⟩
end Go.Proofs.YtmpnilliichpfaaGreatDoor
/- Plain: arcs that are the same but for where their knots lie. -/
namespace Go.Proofs.YtmpnilliichpfaaGreatDoor

def coreA (a : Arc) : Arc := { a with ka := none, kc := 0 }
theorem chk_map {α β : Type} {F : Option α → α → Int} {G : Option β → β → Int} (f : α → β) (h : ∀ p x, G (p.map f) (f x) = F p x) : ∀ (l : List α) (p : Option α), chk G (p.map f) (l.map f) = chk F p l
  | [], _ => rfl
  | x :: l, p => by
    rw [List.map_cons, chk, chk, h p x, show some (f x) = (some x).map f from rfl, chk_map f h l (some x)]
theorem arcI_core (rs : List Arc) (s : ByteArray) : arcI (rs.map coreA) s = arcI rs s := by
  unfold arcI findI
  suffices h : ∀ (l : List Arc) (j : Nat), idxP (fun n : Arc => decide (n.key = s)) (l.map coreA) j = idxP (fun n : Arc => decide (n.key = s)) l j from h rs 0
  intro l
  induction l with
  | nil => intro j; rfl
  | cons x l ih =>
    intro j
    rw [List.map_cons, idxP, idxP, ih]
    rfl
theorem getD_core (rs : List Arc) (k : Nat) : (rs.map coreA).getD k default = coreA (rs.getD k default) := by
  rw [List.getD_eq_getElem?_getD, List.getD_eq_getElem?_getD, List.getElem?_map]
  rcases Nat.lt_or_ge k rs.length with h | h
  · rw [List.getElem?_eq_getElem h]; rfl
  · rw [List.getElem?_eq_none h]; rfl
theorem roadsF_core (ns : List Node) (rs : List Arc) (bs : List Ban) : roadsF ns (rs.map coreA) bs = roadsF ns rs bs := by
  have hA : chk (arcF ns) none (rs.map coreA) = chk (arcF ns) none rs := chk_map (F := arcF ns) (G := arcF ns) coreA (fun p x => by cases p <;> rfl) rs none
  have hB : chk (banF (rs.map coreA)) none bs = chk (banF rs) none bs := by
    have e : banF (rs.map coreA) = banF rs := by
      funext p b
      have hg : banG (rs.map coreA) b = banG rs b := by
        unfold banG
        rw [arcI_core, arcI_core]
        unfold arcAt
        rw [arcI_core, arcI_core, getD_core, getD_core]
        rfl
      unfold banF
      rw [hg]
    rw [e]
  unfold roadsF
  rw [hA, hB]
theorem gph_core (ns : List Node) (rs : List Arc) (bs : List Ban) : gphOf ns (rs.map coreA) bs = gphOf ns rs bs := by
  have hx : ∀ k, arcX (rs.map coreA) k = coreA (arcX rs k) := fun k => getD_core rs k
  unfold gphOf
  simp only [hx, List.length_map]
  rfl
theorem same_core {ns : List Node} {rs rs' : List Arc} {bs : List Ban} (h : rs'.map coreA = rs.map coreA) : roadsF ns rs' bs = roadsF ns rs bs ∧ gphOf ns rs' bs = gphOf ns rs bs ∧ rs'.length = rs.length := by
  refine ⟨by rw [← roadsF_core, h, roadsF_core], by rw [← gph_core, h, gph_core], ?_⟩
  have := congrArg List.length h
  simpa using this
end Go.Proofs.YtmpnilliichpfaaGreatDoor
/- A clone of a row of nodes; is an arc gone? -/
namespace Go.Proofs.YtmpnilliichpfaaGreatDoor
open Go.RowKit Go.Proofs Go.Shelf

theorem encNode_one2 (x : Node) : ∀ v ∈ encNode x, v.oneCell' = true := by
  intro v hv; simp [encNode] at hv; rcases hv with rfl | rfl | rfl <;> rfl
set_option maxRecDepth 100000 in
set_option maxHeartbeats 400000 in
theorem w_CloneN (lo : Nat) (A : Option Addr) (c : Nat) (l : List Node) (w : World) (hR : Rd w lo A 3 encNode l) (hl : l.length ≤ 100000) :
    Calls Tryz.prog 104 #[.slice A l.length c] w fun e w' => ∃ v, e = .returned v ∧ w'.ownsRow w.heap.size 39 3 v l.length (l.flatMap encNode) ∧ Nx w w' := by
  have q22 : ∀ (w : World) (a : Option Addr) (n c n' c' : Nat), (binOp .eql 26 (.slice a n c) (.slice none n' c')).run Tryz.prog w = .ok (.bool a.isNone) w := fun w a n c n' c' => Lib.run_eql_slice_nil w _ _ a n c n' c' Tryz.underlying26
  cases A with
  | none =>
    have hy : l = [] := by
      rcases l with _ | ⟨y, l⟩
      · rfl
      · obtain ⟨b, off, e, _⟩ := hR (by simp); cases e
    subst hy
    go_enter Tryz.func104, Tryz.ntmps104
    go_wp2
    go_ret
    exact ⟨_, rfl, World.ownsRow_nil _ _ _ _, Nx.refl _⟩
  | some a =>
    have hst := own_lit (w := w.alloc (.cells #[] 39)) (e := 39) (g := w.heap.size) (n := 0) (m := 0) (base := w.heap.size) (xs := ([] : List Node)) encNode_len (hnew rfl) (Nat.le_refl _) rfl rfl (Nat.le_refl _) (by unfold maxLen; omega)
    have HST := hide hst
    have HR := hide hR
    clear hst hR
    generalize hn : l.length = n at *
    have HN := hide hn
    clear hn
    go_enter Tryz.func104, Tryz.ntmps104
    go_wp2_with (at_builtin; refine wpAppL rfl _ _ _ rfl el_NodeO encNode encNode_len encNode_one2 (by omega) (by omega) w.heap.size _ [] rfl HST.out (some a) c l (by rw [HN.out]; rfl) (HR.out.nx ((Nx.refl _).alloc _)) (by have := HN.out; simp; omega) (by simp) ?_; intro v2 w2 hown2 hg2)
    go_ret
    rw [List.nil_append, HN.out] at hown2
    refine ⟨_, rfl, hown2, ?_⟩
    exact ((Nx.refl w).alloc _).grown hg2 (own_blk_lt HST.out)
set_option maxRecDepth 100000 in
set_option maxHeartbeats 1000000 in
theorem w_gone (q lo : Nat) (A : Option Addr) (c : Nat) (l : List ByteArray) (s : ByteArray) (w : World) (hq : w.cell? ⟨q, 0, none⟩ = some (.slice A l.length c)) (hR : Rd w lo A 1 encS l) (hl : l.length ≤ 65536) (hs : l.Pairwise ltS) :
    Calls Tryz.prog 102 #[.string s, .pointer (some ⟨q, 0, none⟩)] w fun e w' => e = .returned (.bool (memS l s)) ∧ Nx w w' := by
  have hb := w_BinS lo A c l s w hR hl hs
  generalize memS l s = m at *
  generalize l.length = n at *
  have HB := hide hb
  clear hb hR hs
  go_enter Tryz.func102, Tryz.ntmps102
  go_wp2_with fail
  refine HB.out.mono ?_
  rintro e w2 ⟨r, rfl, hn2⟩
  go_wp2_with fail
  go_ret
  exact ⟨rfl, hn2⟩
theorem eg_gone : Enters 102 := enters_of Tryz.func102 (by kernel_rfl) rfl
end Go.Proofs.YtmpnilliichpfaaGreatDoor
