/- The way out of a search's tree. -/
import Derived.Test.YtbjbeddjaajdaaaGreatDoorQG18
import Derived.Test.YtbjbeddjaajdaaaGreatDoorQG14
import Derived.Deep.RegionHeld
import Derived.Deep.Onto
import Derived.Deep.LoopGhost
import Derived.Deep.DeepCutAuto
import Derived.Test.YtbjbeddjaajdaaaGreatDoorQG16
import Derived.Test.YtbjbeddjaajdaaaGreatDoorQTimeO
import Derived.Test.YtbjbeddjaajdaaaGreatDoorQG4
import Derived.Test.YtbjbeddjaajdaaaGreatDoorQG7
import Derived.Deep.RegionWith
import Derived.Test.YtbjbeddjaajdaaaGreatDoorQG0
import Derived.Test.YtbjbeddjaajdaaaGreatDoorQShelfS
import Derived.Laws.OwnMore
import Derived.Laws.CopyOwn
namespace Go.Proofs.YtbjbeddjaajdaaaGreatDoor
open Go.RowKit

/-- A tree, read. -/
structure TreeR (w : World) (a : SA) (bm fr nn m : Nat) (ad : Int) (s : Sr) : Prop where
  hT : w.heap[a.T]? = some (.cells #[.pointer (some ⟨bm, 0, none⟩), .int .i64 (fr : Int), .int .i64 ad, .slice (some ⟨a.gF, 0, none⟩) nn nn, .slice (some ⟨a.gL, 0, none⟩) nn nn, .slice (some ⟨a.gP, 0, none⟩) m m] 161 (0, 0))
  hF : w.heap[a.gF]? = some (intRow s.first)
  hL : w.heap[a.gL]? = some (intRow s.last)
  hP : w.heap[a.gP]? = some (intRow s.prev)
  lF : s.first.length = nn
  lL : s.last.length = nn
  lP : s.prev.length = m
theorem TreeR.nx {w w' : World} {a : SA} {bm fr nn m : Nat} {ad : Int} {s : Sr} (h : TreeR w a bm fr nn m ad s) (hn : Nx w w') : TreeR w' a bm fr nn m ad s :=
  ⟨(hn.block _ (lt_of_heap h.hT)).trans h.hT, (hn.block _ (lt_of_heap h.hF)).trans h.hF, (hn.block _ (lt_of_heap h.hL)).trans h.hL, (hn.block _ (lt_of_heap h.hP)).trans h.hP, h.lF, h.lL, h.lP⟩
theorem SM.tree {w0 w : World} {a : SA} {bm fr nn m : Nat} {ad : Int} {s : Sr} (h : SM w0 w a bm fr nn m ad s) : TreeR w a bm fr nn m ad s := ⟨h.hTb, h.hF, h.hL, h.hP, h.lF, h.lL, h.lP⟩
abbrev GrO (wr wx : World) (ex : Nat) (own : Option Nat) : Prop := KpA wr own ex wx
set_option maxRecDepth 100000 in
set_option maxHeartbeats 4000000 in
theorem w_WayNo (w : World) (a : SA) (bm fr nn m b : Nat) (ad : Int) (s : Sr) (hT : TreeR w a bm fr nn m ad s) (hb : b < nn) (hf : gi s.first b < 0) :
    Calls Tryz.prog 94 #[.pointer (some ⟨a.T, 0, none⟩), .int .i64 (b : Int)] w fun e w' => e = .returned (.tuple #[.agg #[.slice none 0 0, .int .i64 0, .int .i64 0], .bool false]) ∧ Nx w w' := by
  have t3 : w.cell? ⟨a.T, 3, none⟩ = some (.slice (some ⟨a.gF, 0, none⟩) nn nn) := (cell_of_row w _ 3 _ _ _ hT.hT).trans rfl
  have x0 := intRow_cell hT.hF (i := b) (by rw [hT.lF]; exact hb)
  have hTl := lt_of_heap hT.hT
  have hFl := lt_of_heap hT.hF
  have i1 : (0 : Int) ≤ (b : Int) := by omega
  have i2 : (b : Int) < (nn : Int) := by omega
  have tf : decide (gi s.first b < 0) = true := decide_eq_true hf
  generalize gi s.first b = z at *
  clear hT
  go_enter Tryz.func94, Tryz.ntmps94
  go_wp2_with fail
  exact bodyPost_ret (v := .tuple #[.agg #[.slice none 0 0, .int .i64 0, .int .i64 0], .bool false]) (by simp [results, Tryz.results94, go_sem]) rfl ⟨rfl, (Nx.refl w).alloc _⟩
def WayOut (w : World) (ad f : Int) (keys : List ByteArray) (e : Ending) (w' : World) : Prop := ∃ (Z : Option Addr) (c : Nat), e = .returned (.tuple #[.agg #[.slice Z keys.length c, .int .i64 ad, .int .i64 f], .bool true]) ∧ Rd w' w.heap.size Z 1 encS keys ∧ Nx w w'
set_option maxRecDepth 100000 in
set_option maxHeartbeats 4000000 in
theorem w_WayYes (w : World) (a : SA) (bm g0 lo fr nn b : Nat) (ad : Int) (s : Sr) (A B C : Option Addr) (ca cb cc : Nat) (M : MapA) (ns : List Node) (rs : List Arc) (bs : List Ban) (l : List Nat) (hT : TreeR w a bm fr nn rs.length ad s) (hM : MapR w bm g0 lo A B C ca cb cc M ns rs bs) (hb : b < nn) (hf : 0 ≤ gi s.first b) (hch : Chain rs.length s.prev (gi s.last b) l) (hll : l.length ≤ 400) :
    Calls Tryz.prog 94 #[.pointer (some ⟨a.T, 0, none⟩), .int .i64 (b : Int)] w (WayOut w ad (gi s.first b) (keysOf rs l.reverse)) := by
  have t2 : w.cell? ⟨a.T, 2, none⟩ = some (.int .i64 ad) := (cell_of_row w _ 2 _ _ _ hT.hT).trans rfl
  have t3 : w.cell? ⟨a.T, 3, none⟩ = some (.slice (some ⟨a.gF, 0, none⟩) nn nn) := (cell_of_row w _ 3 _ _ _ hT.hT).trans rfl
  have x0 := intRow_cell hT.hF (i := b) (by rw [hT.lF]; exact hb)
  have hTl := lt_of_heap hT.hT
  have hFl := lt_of_heap hT.hF
  have i1 : (0 : Int) ≤ (b : Int) := by omega
  have i2 : (b : Int) < (nn : Int) := by omega
  have tf : decide (gi s.first b < 0) = false := decide_eq_false (by omega)
  have HT := hide hT
  have HM := hide hM
  have HCH := hide hch
  generalize gi s.first b = z at *
  clear hT hM hch
  go_enter Tryz.func94, Tryz.ntmps94
  go_upto_region 3 with fail
  obtain ⟨wA, hwA⟩ : ∃ wA, wA = w.alloc (.cells #[.slice none 0 0, .int .i64 0, .int .i64 0] 89) := ⟨_, rfl⟩
  have hnA : Nx w wA := hwA ▸ (Nx.refl w).alloc _
  have HELD := hide (fun W (hx : Nx wA W) => (⟨nx_cell (hnA.trans hx) hTl t2, nx_cell (hnA.trans hx) hTl t3, nx_cell (hnA.trans hx) hFl x0⟩ : W.cell? ⟨a.T, 2, none⟩ = some (.int .i64 ad) ∧ W.cell? ⟨a.T, 3, none⟩ = some (.slice (some ⟨a.gF, 0, none⟩) nn nn) ∧ W.cell? ⟨a.gF, b, none⟩ = some (.int .i64 z)))
  rw [← hwA]
  have HWA := hide hwA
  clear hwA t2 t3 x0
  go_cut [6] (fun v wx => v = .pointer (some ⟨wA.heap.size, 0, none⟩) ∧ wx.heap[wA.heap.size]? = some (.cells #[.slice none 0 0, .int .i64 ad, .int .i64 z] 89 (0, 0)) ∧ Nx wA wx)
  case first =>
    refine wp_region_held_drew (S := fun w' => w'.cell? ⟨a.T, 2, none⟩ = some (.int .i64 ad) ∧ w'.cell? ⟨a.T, 3, none⟩ = some (.slice (some ⟨a.gF, 0, none⟩) nn nn) ∧ w'.cell? ⟨a.gF, b, none⟩ = some (.int .i64 z)) (by kernel_rfl) ?_ (fun hHeld => ?_)
    · exact HELD.out _ (Nx.refl _).drew
    refine wpAnyH_take (i := 0) (oi := ⟨some 17, _, _, _, _, _⟩) (v := ?_) rfl (by kernel_rfl) (by kernel_rfl) (by kernel_rfl) (fun _ _ _ h => h) (Or.inl ⟨by rfl, ?_⟩) (by assumption) ?_
    rotate_left 1
    · intro w hSw
      (try dsimp only at hSw)
      go_simp
      try with_reducible rfl
    try simp only [Act.put, List.setIfInBounds_toArray, List.set_cons_zero, List.set_cons_succ]
    refine wpAnyH_take (i := 1) (oi := ⟨some 18, _, _, _, _, _⟩) (v := ?_) rfl (by kernel_rfl) (by kernel_rfl) (by kernel_rfl) (fun _ _ _ h => h) (Or.inl ⟨by rfl, ?_⟩) (by assumption) ?_
    rotate_left 1
    · intro w hSw
      (try dsimp only at hSw)
      go_simp
      try with_reducible rfl
    try simp only [Act.put, List.setIfInBounds_toArray, List.set_cons_zero, List.set_cons_succ]
    refine wpAnyH_take (i := 2) (oi := ⟨some 19, _, _, _, _, _⟩) (v := ?_) rfl (by kernel_rfl) (by kernel_rfl) (by kernel_rfl) (fun _ _ _ h => h) (Or.inl ⟨by rfl, ?_⟩) (by assumption) ?_
    rotate_left 1
    · intro w hSw
      (try dsimp only at hSw)
      go_simp
      try with_reducible rfl
    try simp only [Act.put, List.setIfInBounds_toArray, List.set_cons_zero, List.set_cons_succ]
    refine wpAnyH_take (i := 3) (oi := ⟨some 20, _, _, _, _, _⟩) (v := ?_) rfl (by kernel_rfl) (by kernel_rfl) (by kernel_rfl) (fun _ _ _ h => h) (Or.inl ⟨by rfl, ?_⟩) (by assumption) ?_
    rotate_left 1
    · intro w hSw
      (try dsimp only at hSw)
      go_simp
      try with_reducible rfl
    try simp only [Act.put, List.setIfInBounds_toArray, List.set_cons_zero, List.set_cons_succ]
    refine wpAnyH_take (i := 4) (oi := ⟨some 21, _, _, _, _, _⟩) (v := ?_) rfl (by kernel_rfl) (by kernel_rfl) (by kernel_rfl) (fun _ _ _ h => h) (Or.inl ⟨by rfl, ?_⟩) (by assumption) ?_
    rotate_left 1
    · intro w hSw
      (try dsimp only at hSw)
      go_simp
      try with_reducible rfl
    try simp only [Act.put, List.setIfInBounds_toArray, List.set_cons_zero, List.set_cons_succ]
    refine wpAnyH_take (i := 5) (oi := ⟨some 22, _, _, _, _, _⟩) (v := ?_) rfl (by kernel_rfl) (by kernel_rfl) (by kernel_rfl) (fun _ _ _ h => h) (Or.inl ⟨by rfl, ?_⟩) (by assumption) ?_
    rotate_left 1
    · intro w hSw
      (try dsimp only at hSw)
      go_simp
      try with_reducible rfl
    try simp only [Act.put, List.setIfInBounds_toArray, List.set_cons_zero, List.set_cons_succ]
    refine wpAnyH_take (i := 6) (oi := ⟨some 23, _, _, _, _, _⟩) (v := ?_) rfl (by kernel_rfl) (by kernel_rfl) (by kernel_rfl) (fun _ _ _ h => h) (Or.inl ⟨by rfl, ?_⟩) (by assumption) ?_
    rotate_left 1
    · intro w hSw
      (try dsimp only at hSw)
      go_simp
      try with_reducible rfl
    try simp only [Act.put, List.setIfInBounds_toArray, List.set_cons_zero, List.set_cons_succ]
    refine wpAnyH_take (i := 7) (oi := ⟨some 24, _, _, _, _, _⟩) (v := ?_) rfl (by kernel_rfl) (by kernel_rfl) (by kernel_rfl) (fun _ _ _ h => h) (Or.inl ⟨by rfl, ?_⟩) (by assumption) ?_
    rotate_left 1
    · intro w hSw
      (try dsimp only at hSw)
      go_simp
      try with_reducible rfl
    try simp only [Act.put, List.setIfInBounds_toArray, List.set_cons_zero, List.set_cons_succ]
    refine wpAnyH_take (i := 8) (oi := ⟨some 25, _, _, _, _, _⟩) (v := ?_) rfl (by kernel_rfl) (by kernel_rfl) (by kernel_rfl) (fun _ _ _ h => h) (Or.inl ⟨by rfl, ?_⟩) (by assumption) ?_
    rotate_left 1
    · intro w hSw
      (try dsimp only at hSw)
      go_simp
      try with_reducible rfl
    try simp only [Act.put, List.setIfInBounds_toArray, List.set_cons_zero, List.set_cons_succ]
    refine wpAnyH_take (i := 9) (oi := ⟨some 26, _, _, _, _, _⟩) (v := ?_) rfl (by kernel_rfl) (by kernel_rfl) (by kernel_rfl) (fun _ _ _ h => h) (Or.inl ⟨by rfl, ?_⟩) (by assumption) ?_
    rotate_left 1
    · intro w hSw
      (try dsimp only at hSw)
      go_simp
      try with_reducible rfl
    try simp only [Act.put, List.setIfInBounds_toArray, List.set_cons_zero, List.set_cons_succ]
    refine wpAnyH_take (i := 10) (oi := ⟨some 27, _, _, _, _, _⟩) (v := ?_) rfl (by kernel_rfl) (by kernel_rfl) (by kernel_rfl) (fun _ _ _ h => h) (Or.inl ⟨by rfl, ?_⟩) (by assumption) ?_
    rotate_left 1
    · intro w hSw
      (try dsimp only at hSw)
      go_simp
      try with_reducible rfl
    try simp only [Act.put, List.setIfInBounds_toArray, List.set_cons_zero, List.set_cons_succ]
    refine wpAnyH_take (i := 11) (oi := ⟨some 28, _, _, _, _, _⟩) (v := ?_) rfl (by kernel_rfl) (by kernel_rfl) (by kernel_rfl) (fun _ _ _ h => h) (Or.inl ⟨by rfl, ?_⟩) (by assumption) ?_
    rotate_left 1
    · intro w hSw
      (try dsimp only at hSw)
      go_simp
      try with_reducible rfl
    try simp only [Act.put, List.setIfInBounds_toArray, List.set_cons_zero, List.set_cons_succ]
    refine wpAnyH_ready (rs := [12]) (by kernel_rfl) (by simp) ?_
    refine AllReadyH.cons rfl (fun K hK => ?_) ?_
    · go_simp
      refine hK.out _ _ (HELD.out _ (by repeat (first | with_reducible exact Nx.refl _ | with_reducible refine Nx.drew ?_ | with_reducible refine Nx.alloc ?_ _ | (with_reducible refine Nx.setCell ?_ (by simp) _)))) (fun hHeld => ?_)
      clear hK K
      try simp only [Act.put, List.setIfInBounds_toArray, List.set_cons_zero, List.set_cons_succ]
      refine wpAnyH_ready (rs := [13]) (by kernel_rfl) (by simp) ?_
      refine AllReadyH.cons rfl (fun K hK => ?_) ?_
      · go_simp
        refine hK.out _ _ (HELD.out _ (by repeat (first | with_reducible exact Nx.refl _ | with_reducible refine Nx.drew ?_ | with_reducible refine Nx.alloc ?_ _ | (with_reducible refine Nx.setCell ?_ (by simp) _)))) (fun hHeld => ?_)
        clear hK K
        try simp only [Act.put, List.setIfInBounds_toArray, List.set_cons_zero, List.set_cons_succ]
        refine wpAnyH_done (by kernel_rfl) ?_ _
        go_wp2
        go_meet
        exact ⟨rfl, hnew rfl, ((Nx.refl _).alloc _).drew⟩
      · exact AllReadyH.nil
    · exact AllReadyH.nil
  case rest =>
    obtain ⟨rfl, hbx, hx⟩ := hcut
    have hnc := hnA.trans hx
    have hexl : wA.heap.size < wc.heap.size := lt_of_heap hbx
    have hexw : w.heap.size ≤ wA.heap.size := hnA.sz
    have HBX0 := hide hbx
    have HHX := hide hx
    clear hbx hx
    generalize hexq : wA.heap.size = ex at *
    have HEXQ := hide hexq
    clear hexq
    have t4 : wc.cell? ⟨a.T, 4, none⟩ = some (.slice (some ⟨a.gL, 0, none⟩) nn nn) := (cell_of_row wc _ 4 _ _ _ (HT.out.nx hnc).hT).trans rfl
    have x1 := intRow_cell (HT.out.nx hnc).hL (i := b) (by rw [HT.out.lL]; exact hb)
    generalize gi s.last b = z1 at *
    obtain ⟨bz, hbz⟩ : ∃ bz, bz = wc.heap.size := ⟨_, rfl⟩
    have hexl' : ex < bz := by omega
    have hro : wc.ownsRow bz 9 1 (.slice none 0 0) ([] : List ByteArray).length (([] : List ByteArray).flatMap encS) := World.ownsRow_nil _ _ _ _
    have HRO := hide hro
    clear hro HELD tf
    have hal := HM.out.box.al
    go_wp2_with fail
    clear t4 x1
    go_loopg [7] l.length (fun f v wr => ∃ (k : Int) (rest : List Nat) (acc : List ByteArray) (vr : Value), v = .int .i64 k ∧ Chain rs.length s.prev k rest ∧ keysOf rs l = acc ++ keysOf rs rest ∧ acc.length + rest.length = l.length ∧ rest.length ≤ f ∧ wr.heap[ex]? = some (.cells #[vr, .int .i64 ad, .int .i64 z] 89 (0, 0)) ∧ wr.ownsRow bz 9 1 vr acc.length (acc.flatMap encS) ∧ Gr ex wc wr)
    case atStart => exact ⟨z1, l, [], .slice none 0 0, rfl, HCH.out, rfl, by simp, Nat.le_refl _, HBX0.out, HRO.out, Gr.refl _ _⟩
    case round =>
      clear HBX0 HRO HCH
      obtain ⟨k, rest, acc, vr, rfl, hch, hkeys, hlen, hfl, hbx, hrow, hgr⟩ := hrel
      have HBX := hide hbx
      have HROW := hide hrow
      have HGR := hide hgr
      have HKEYS := hide hkeys
      have HLEN := hide hlen
      have hnw : Nx w wr := Nx.of_gr ((Gr.of_nx hnc).trans hgr) hexw
      have hsz := hgr.sz
      clear hkeys hrow hbx
      cases hch with
      | nil =>
        obtain ⟨Z, cz, rfl, _, _⟩ := Rd.of_own encS_len rfl HROW.out
        have hky : keysOf rs l = acc := by rw [HKEYS.out]; simp [keysOf]
        have HKY := hide hky
        clear hky
        have x4 : wr.cell? ⟨ex, 0, none⟩ = some (.slice Z acc.length cz) := (cell_of_row wr _ 0 _ _ _ HBX.out).trans rfl
        have hal2 : acc.length ≤ 65536 := by have := HLEN.out; simp at this; omega
        have hlo := own_blk_lt HROW.out
        have HLO := hide hlo
        have tk : decide ((0 : Int) ≤ (-1 : Int)) = false := by decide
        clear hlo
        have HK := hide (w_RevS bz _ acc wr HROW.out hal2)
        have hr4 : wr.heap[w.heap.size]? = some (.cells #[.slice none 0 0, .int .i64 0, .int .i64 0] 89 (0, 0)) := by
          have h0 : wA.heap[w.heap.size]? = some (.cells #[.slice none 0 0, .int .i64 0, .int .i64 0] 89 (0, 0)) := by rw [HWA.out]; exact hnew rfl
          have hwA : w.heap.size < wA.heap.size := lt_of_heap h0
          exact (HGR.out.block _ (lt_of_heap ((HHX.out.block _ hwA).trans h0)) (fun e => by have := HEXQ.out; injection e with e; omega)).trans ((HHX.out.block _ hwA).trans h0)
        have HR4 := hide hr4
        have hne4 : w.heap.size ≠ ex := by
          have h0 : w.heap.size < wA.heap.size := by rw [HWA.out]; simp
          have := HEXQ.out
          omega
        go_wp2_with fail
        refine (HK.out).mono ?_
        rintro e w' ⟨rfl, hown, hg⟩
        have b7 : w'.heap[ex]? = some (.cells #[.slice Z acc.length cz, .int .i64 ad, .int .i64 z] 89 (0, 0)) := (hg.block ex (by have := lt_of_heap HBX.out; omega) (fun e => by have := HLO.out _ e.symm; omega)).trans HBX.out
        have b4 : w'.heap[w.heap.size]? = some (.cells #[.slice none 0 0, .int .i64 0, .int .i64 0] 89 (0, 0)) := (hg.block _ (lt_of_heap HR4.out) (fun e => by have := HLO.out _ e.symm; omega)).trans HR4.out
        have HOWN := hide hown
        have HG := hide hg
        clear hown hg hr4 x4
        have y0 : w'.cell? ⟨ex, 0, none⟩ = some (.slice Z acc.length cz) := (cell_of_row w' _ 0 _ _ _ b7).trans rfl
        have y1 : w'.cell? ⟨ex, 1, none⟩ = some (.int .i64 ad) := (cell_of_row w' _ 1 _ _ _ b7).trans rfl
        have y2 : w'.cell? ⟨ex, 2, none⟩ = some (.int .i64 z) := (cell_of_row w' _ 2 _ _ _ b7).trans rfl
        have p0 : w'.cell? ⟨w.heap.size, 0, none⟩ = some (.slice none 0 0) := (cell_of_row w' _ 0 _ _ _ b4).trans rfl
        have p1 : w'.cell? ⟨w.heap.size, 1, none⟩ = some (.int .i64 0) := (cell_of_row w' _ 1 _ _ _ b4).trans rfl
        have p2 : w'.cell? ⟨w.heap.size, 2, none⟩ = some (.int .i64 0) := (cell_of_row w' _ 2 _ _ _ b4).trans rfl
        have f0 := frozen_blkQ (j := 0) b4
        have f1 := frozen_blkQ (j := 1) b4
        have f2 := frozen_blkQ (j := 2) b4
        go_wp2_with fail
        have hk : keysOf rs l.reverse = acc.reverse := by rw [← HKY.out]; simp [keysOf, List.map_reverse]
        have hGw : Gr ex wc w' := HGR.out.grown HG.out (fun k hk => .inr (by have := HLO.out k hk; omega))
        have hnw' : Nx w w' := Nx.of_gr ((Gr.of_nx hnc).trans hGw) hexw
        have s1 := Gr.setS (Gr.refl w.heap.size w') (p := ⟨w.heap.size, 0, none⟩) (Or.inl rfl) (.slice Z acc.length cz)
        have s2 := Gr.setS s1 (p := ⟨w.heap.size, 1, none⟩) (Or.inl rfl) (.int .i64 ad)
        have hg3 := Gr.setS s2 (p := ⟨w.heap.size, 2, none⟩) (Or.inl rfl) (.int .i64 z)
        have hW := Nx.of_gr ((Gr.of_nx (s := w.heap.size) hnw').trans hg3) (Nat.le_refl _)
        have hO2 := World.ownsRow.mono (base' := w.heap.size) (World.ownsRow.kept HOWN.out hg3 (.inr (fun e => by have := HLO.out _ e; omega))) (by omega)
        obtain ⟨Z2, c2, e2, rd2, _⟩ := Rd.of_own encS_len (by simp) hO2
        injection e2 with e2 e3 e4
        subst e2
        exact bodyPost_ret (v := .tuple #[.agg #[.slice Z acc.length cz, .int .i64 ad, .int .i64 z], .bool true]) (by simp [results, Tryz.results94, go_sem, p0, p1, p2]) rfl ⟨Z, cz, by rw [hk]; simp, hk ▸ rd2, hW⟩
      | cons kk rest' hkk hch' =>
        have HC2 := hide hch'
        have hMw := HM.out.nx hnw
        obtain ⟨bA, oA, eB, _, hbA, _, hc⟩ := HM.out.box.hA.1.open_ hnw (by omega)
        have hky : wr.cell? ⟨bA, oA + kk * 5, none⟩ = some (.string (arcX rs kk).key) := by rw [arcX_get hkk]; exact hc kk hkk 0 _ rfl
        have t0 : wr.cell? ⟨a.T, 0, none⟩ = some (.pointer (some ⟨bm, 0, none⟩)) := (cell_of_row wr _ 0 _ _ _ (HT.out.nx hnw).hT).trans rfl
        have c0 := hMw.c0
        have g1 : wr.cell? ⟨g0, 1, none⟩ = some (.slice (some ⟨bA, oA, none⟩) rs.length cb) := by rw [hMw.box.g1, eB]
        have hlT := lt_of_heap HT.out.hT
        have hlb := HM.out.lt
        have hlg := HM.out.box.gl
        have hlo := own_blk_lt HROW.out
        have HS7 := hide (fun W (hk : KpA wr vr.ownBlock ex W) => (⟨hk.cell (by omega) t0 (fun e => by have := hlo _ e.symm; omega) (by omega), hk.cell (by omega) c0 (fun e => by have := hlo _ e.symm; omega) (by omega), hk.cell (by omega) g1 (fun e => by have := hlo _ e.symm; omega) (by omega), hk.cell (by omega) hky (fun e => by have := hlo _ e.symm; omega) (by omega)⟩ : W.cell? ⟨a.T, 0, none⟩ = some (.pointer (some ⟨bm, 0, none⟩)) ∧ W.cell? ⟨bm, 0, none⟩ = some (.pointer (some ⟨g0, 0, none⟩)) ∧ W.cell? ⟨g0, 1, none⟩ = some (.slice (some ⟨bA, oA, none⟩) rs.length cb) ∧ W.cell? ⟨bA, oA + kk * 5, none⟩ = some (.string (arcX rs kk).key)))
        have HLO := hide hlo
        have x4 : wr.cell? ⟨ex, 0, none⟩ = some vr := (cell_of_row wr _ 0 _ _ _ HBX.out).trans rfl
        have x4A : ∀ o, (wr.alloc o).cell? ⟨ex, 0, none⟩ = some vr := fun o => nx_cell ((Nx.refl wr).alloc o) (lt_of_heap HBX.out) x4
        have j1 : (0 : Int) ≤ (kk : Int) := by omega
        have j2 : (kk : Int) < (rs.length : Int) := by omega
        have hal2 : acc.length ≤ 400 := by have := HLEN.out; omega
        have hexl2 := lt_of_heap HBX.out
        obtain ⟨iS, zS, q1, q2, q3, q4, q5⟩ := el_SD.hi
        have E1 := hide q1
        have E2 := hide q2
        have E3 := hide q3
        have E4 := hide q4
        have E5 := hide q5
        have HKL := hide (show keysOf rs (kk :: rest') = (arcX rs kk).key :: keysOf rs rest' from rfl)
        have tk : decide ((0 : Int) ≤ (kk : Int)) = true := decide_eq_true j1
        clear q1 q2 q3 q4 q5 hc hlo hMw
        generalize (arcX rs kk).key = ky at *
        go_wp2_with fail
        refine wp_region_held_drew (S := fun w' => w'.cell? ⟨a.T, 0, none⟩ = some (.pointer (some ⟨bm, 0, none⟩)) ∧ w'.cell? ⟨bm, 0, none⟩ = some (.pointer (some ⟨g0, 0, none⟩)) ∧ w'.cell? ⟨g0, 1, none⟩ = some (.slice (some ⟨bA, oA, none⟩) rs.length cb) ∧ w'.cell? ⟨bA, oA + kk * 5, none⟩ = some (.string ky)) (by kernel_rfl) ?_ (fun hHeld => ?_)
        · exact HS7.out _ (KpA.nx (Nx.refl _).drew)
        refine wpAnyH_take (i := 0) (oi := ⟨some 45, _, _, _, _, _⟩) (v := ?_) rfl (by kernel_rfl) (by kernel_rfl) (by kernel_rfl) (fun _ _ _ h => h) (Or.inl ⟨by rfl, ?_⟩) (by assumption) ?_
        rotate_left 1
        · intro w hSw
          (try dsimp only at hSw)
          go_simp
          try with_reducible rfl
        try simp only [Act.put, List.setIfInBounds_toArray, List.set_cons_zero, List.set_cons_succ]
        refine wpAnyH_take (i := 2) (oi := ⟨some 47, _, _, _, _, _⟩) (v := ?_) rfl (by kernel_rfl) (by kernel_rfl) (by kernel_rfl) (fun _ _ _ h => h) (Or.inl ⟨by rfl, ?_⟩) (by assumption) ?_
        rotate_left 1
        · intro w hSw
          (try dsimp only at hSw)
          go_simp
          try with_reducible rfl
        try simp only [Act.put, List.setIfInBounds_toArray, List.set_cons_zero, List.set_cons_succ]
        refine wpAnyH_take (i := 3) (oi := ⟨some 48, _, _, _, _, _⟩) (v := ?_) rfl (by kernel_rfl) (by kernel_rfl) (by kernel_rfl) (fun _ _ _ h => h) (Or.inl ⟨by rfl, ?_⟩) (by assumption) ?_
        rotate_left 1
        · intro w hSw
          (try dsimp only at hSw)
          go_simp
          try with_reducible rfl
        try simp only [Act.put, List.setIfInBounds_toArray, List.set_cons_zero, List.set_cons_succ]
        refine wpAnyH_take (i := 4) (oi := ⟨some 49, _, _, _, _, _⟩) (v := ?_) rfl (by kernel_rfl) (by kernel_rfl) (by kernel_rfl) (fun _ _ _ h => h) (Or.inl ⟨by rfl, ?_⟩) (by assumption) ?_
        rotate_left 1
        · intro w hSw
          (try dsimp only at hSw)
          go_simp
          try with_reducible rfl
        try simp only [Act.put, List.setIfInBounds_toArray, List.set_cons_zero, List.set_cons_succ]
        refine wpAnyH_take (i := 5) (oi := ⟨some 50, _, _, _, _, _⟩) (v := ?_) rfl (by kernel_rfl) (by kernel_rfl) (by kernel_rfl) (fun _ _ _ h => h) (Or.inl ⟨by rfl, ?_⟩) (by assumption) ?_
        rotate_left 1
        · intro w hSw
          (try dsimp only at hSw)
          go_simp
          try with_reducible rfl
        try simp only [Act.put, List.setIfInBounds_toArray, List.set_cons_zero, List.set_cons_succ]
        refine wpAnyH_take (i := 6) (oi := ⟨some 51, _, _, _, _, _⟩) (v := ?_) rfl (by kernel_rfl) (by kernel_rfl) (by kernel_rfl) (fun _ _ _ h => h) (Or.inl ⟨by rfl, ?_⟩) (by assumption) ?_
        rotate_left 1
        · intro w hSw
          (try dsimp only at hSw)
          go_simp
          try with_reducible rfl
        try simp only [Act.put, List.setIfInBounds_toArray, List.set_cons_zero, List.set_cons_succ]
        refine wpAnyH_take (i := 7) (oi := ⟨some 52, _, _, _, _, _⟩) (v := ?_) rfl (by kernel_rfl) (by kernel_rfl) (by kernel_rfl) (fun _ _ _ h => h) (Or.inl ⟨by rfl, ?_⟩) (by assumption) ?_
        rotate_left 1
        · intro w hSw
          (try dsimp only at hSw)
          go_simp
          try with_reducible rfl
        try simp only [Act.put, List.setIfInBounds_toArray, List.set_cons_zero, List.set_cons_succ]
        refine wpAnyH_take (i := 8) (oi := ⟨some 53, _, _, _, _, _⟩) (v := ?_) rfl (by kernel_rfl) (by kernel_rfl) (by kernel_rfl) (fun _ _ _ h => h) (Or.inl ⟨by rfl, ?_⟩) (by assumption) ?_
        rotate_left 1
        · intro w hSw
          (try dsimp only at hSw)
          go_simp
          try with_reducible rfl
        try simp only [Act.put, List.setIfInBounds_toArray, List.set_cons_zero, List.set_cons_succ]
        refine wpAnyH_take (i := 9) (oi := ⟨some 54, _, _, _, _, _⟩) (v := ?_) rfl (by kernel_rfl) (by kernel_rfl) (by kernel_rfl) (fun _ _ _ h => h) (Or.inl ⟨by rfl, ?_⟩) (by assumption) ?_
        rotate_left 1
        · intro w hSw
          (try dsimp only at hSw)
          go_simp
          try with_reducible rfl
        try simp only [Act.put, List.setIfInBounds_toArray, List.set_cons_zero, List.set_cons_succ]
        refine wpAnyH_take (i := 10) (oi := ⟨some 55, _, _, _, _, _⟩) (v := ?_) rfl (by kernel_rfl) (by kernel_rfl) (by kernel_rfl) (fun _ _ _ h => h) (Or.inl ⟨by rfl, ?_⟩) (by assumption) ?_
        rotate_left 1
        · intro w hSw
          (try dsimp only at hSw)
          go_simp
          try with_reducible rfl
        try simp only [Act.put, List.setIfInBounds_toArray, List.set_cons_zero, List.set_cons_succ]
        refine wpAnyH_take (i := 11) (oi := ⟨some 56, _, _, _, _, _⟩) (v := ?_) rfl (by kernel_rfl) (by kernel_rfl) (by kernel_rfl) (fun _ _ _ h => h) (Or.inl ⟨by rfl, ?_⟩) (by assumption) ?_
        rotate_left 1
        · intro w hSw
          (try dsimp only at hSw)
          go_simp
          try with_reducible rfl
        try simp only [Act.put, List.setIfInBounds_toArray, List.set_cons_zero, List.set_cons_succ]
        refine wpAnyH_take (i := 12) (oi := ⟨some 57, _, _, _, _, _⟩) (v := ?_) rfl (by kernel_rfl) (by kernel_rfl) (by kernel_rfl) (fun _ _ _ h => h) (Or.inl ⟨by rfl, ?_⟩) (by assumption) ?_
        rotate_left 1
        · intro w hSw
          (try dsimp only at hSw)
          go_simp
          try with_reducible rfl
        try simp only [Act.put, List.setIfInBounds_toArray, List.set_cons_zero, List.set_cons_succ]
        refine wpAnyH_take (i := 13) (oi := ⟨some 58, _, _, _, _, _⟩) (v := ?_) rfl (by kernel_rfl) (by kernel_rfl) (by kernel_rfl) (fun _ _ _ h => h) (Or.inl ⟨by rfl, ?_⟩) (by assumption) ?_
        rotate_left 1
        · intro w hSw
          (try dsimp only at hSw)
          go_simp
          try with_reducible rfl
        try simp only [Act.put, List.setIfInBounds_toArray, List.set_cons_zero, List.set_cons_succ]
        refine wpAnyH_take (i := 14) (oi := ⟨some 59, _, _, _, _, _⟩) (v := ?_) rfl (by kernel_rfl) (by kernel_rfl) (by kernel_rfl) (fun _ _ _ h => h) (Or.inl ⟨by rfl, ?_⟩) (by assumption) ?_
        rotate_left 1
        · intro w hSw
          (try dsimp only at hSw)
          go_simp
          try with_reducible rfl
        try simp only [Act.put, List.setIfInBounds_toArray, List.set_cons_zero, List.set_cons_succ]
        refine wpAnyH_take (i := 15) (oi := ⟨some 60, _, _, _, _, _⟩) (v := ?_) rfl (by kernel_rfl) (by kernel_rfl) (by kernel_rfl) (fun _ _ _ h => h) (Or.inl ⟨by rfl, ?_⟩) (by assumption) ?_
        rotate_left 1
        · intro w hSw
          (try dsimp only at hSw)
          go_simp
          try with_reducible rfl
        try simp only [Act.put, List.setIfInBounds_toArray, List.set_cons_zero, List.set_cons_succ]
        refine wpAnyH_ready (rs := [1, 16]) (by kernel_rfl) (by simp) ?_
        refine AllReadyH.cons rfl (fun K hK => ?_) ?_
        · go_simp
          refine hK.out _ _ (HS7.out _ (by repeat (first | assumption | (with_reducible refine KpA.set ?_ _) | (with_reducible refine KpA.drew ?_) | (refine KpA.nx (by repeat (first | with_reducible exact Nx.refl _ | with_reducible refine Nx.drew ?_ | with_reducible refine Nx.alloc ?_ _)))))) (fun hHeld => ?_)
          clear hK K
          try simp only [Act.put, List.setIfInBounds_toArray, List.set_cons_zero, List.set_cons_succ]
          refine wpAnyH_ready (rs := [16]) (by kernel_rfl) (by simp) ?_
          refine AllReadyH.cons rfl (fun K hK => ?_) ?_
          · go_simp
            refine hK.out _ _ (HS7.out _ (by repeat (first | assumption | (with_reducible refine KpA.set ?_ _) | (with_reducible refine KpA.drew ?_) | (refine KpA.nx (by repeat (first | with_reducible exact Nx.refl _ | with_reducible refine Nx.drew ?_ | with_reducible refine Nx.alloc ?_ _)))))) (fun hHeld => ?_)
            clear hK K
            try simp only [Act.put, List.setIfInBounds_toArray, List.set_cons_zero, List.set_cons_succ]
            refine wpAnyH_ready (rs := [17]) (by kernel_rfl) (by simp) ?_
            refine AllReadyH.cons rfl (fun K hK => ?_) ?_
            · (refine step_append_lies _ rfl _ _ _ rfl bz _ iS zS 1 16 Tryz.underlying34 E1.out E2.out E3.out E4.out E5.out (by omega) vr acc.length (acc.flatMap encS) rfl (own_nx HROW.out (by repeat (first | with_reducible exact Nx.refl _ | with_reducible refine Nx.drew ?_ | with_reducible refine Nx.alloc ?_ _))) _ 1 1 [.string ky] rfl rfl (news_of (hnew rfl) rfl) (by intro u hu; simp at hu; subst hu; rfl) (by omega) (by unfold maxLen; omega) (by omega) (by simp; omega) _ rfl ?_; intro g6 c6 w6 hown6 hg6 hat6 hlt6; (have hkp6 : KpA wr vr.ownBlock ex w6 := KpA.app (by repeat (first | with_reducible exact Nx.refl _ | with_reducible refine Nx.drew ?_ | with_reducible refine Nx.alloc ?_ _)) hg6); (have b7 : w6.heap[ex]? = some (.cells #[vr, .int .i64 ad, .int .i64 z] 89 (0, 0)) := (hg6.block ex (by simp; omega) (fun e => by have := HLO.out _ e.symm; omega)).trans ((((Nx.refl wr).alloc _).block _ (by omega)).trans HBX.out)); (have x4 : w6.cell? ⟨ex, 0, none⟩ = some vr := (cell_of_row w6 _ 0 _ _ _ b7).trans rfl); (have f4 := frozen_blkQ (j := 0) b7))
              refine hK.out _ _ (HS7.out _ (by repeat (first | assumption | (with_reducible refine KpA.set ?_ _) | (with_reducible refine KpA.drew ?_) | (refine KpA.nx (by repeat (first | with_reducible exact Nx.refl _ | with_reducible refine Nx.drew ?_ | with_reducible refine Nx.alloc ?_ _)))))) (fun hHeld => ?_)
              clear hK K
              try simp only [Act.put, List.setIfInBounds_toArray]
              refine wpAnyH_take (i := 18) (oi := ⟨some 63, _, _, _, _, _⟩) (v := ?_) rfl (by kernel_rfl) (by kernel_rfl) (by kernel_rfl) (fun _ _ _ h => h) (Or.inl ⟨by rfl, ?_⟩) (by assumption) ?_
              rotate_left 1
              · intro w hSw
                (try dsimp only at hSw)
                go_simp
                try with_reducible rfl
              try simp only [Act.put]
              refine wpAnyH_ready (rs := [19]) (by kernel_rfl) (by simp) ?_
              refine AllReadyH.cons rfl (fun K hK => ?_) ?_
              · go_simp
                refine hK.out _ _ (HS7.out _ (by repeat (first | assumption | (with_reducible refine KpA.set ?_ _) | (with_reducible refine KpA.drew ?_) | (refine KpA.nx (by repeat (first | with_reducible exact Nx.refl _ | with_reducible refine Nx.drew ?_ | with_reducible refine Nx.alloc ?_ _)))))) (fun hHeld => ?_)
                clear hK K
                try simp only [Act.put, List.setIfInBounds_toArray, List.set_cons_zero, List.set_cons_succ]
                refine wpAnyH_done (by kernel_rfl) ?_ _
                have hB : (w6.setCell ⟨ex, 0, none⟩ (.slice (some ⟨g6, 0, none⟩) (acc.length + 1) c6)).heap[ex]? = some (.cells #[.slice (some ⟨g6, 0, none⟩) (acc.length + 1) c6, .int .i64 ad, .int .i64 z] 89 (0, 0)) := heap_set b7
                have hO : (w6.setCell ⟨ex, 0, none⟩ (.slice (some ⟨g6, 0, none⟩) (acc.length + 1) c6)).ownsRow bz 9 1 (.slice (some ⟨g6, 0, none⟩) (acc.length + 1) c6) (acc.length + 1) (acc.flatMap encS ++ [.string ky]) := World.ownsRow.kept hown6 (show w6.grownBy _ (some ex) from (Gr.refl ex w6).setS (.inl rfl) _) (.inr (fun e => by have := own_blk_lt hown6 _ e; omega))
                have hG : Gr ex wc (w6.setCell ⟨ex, 0, none⟩ (.slice (some ⟨g6, 0, none⟩) (acc.length + 1) c6)) := ((Gr.trans (Gr.trans HGR.out (Gr.of_nx (by repeat (first | with_reducible exact Nx.refl _ | with_reducible refine Nx.drew ?_ | with_reducible refine Nx.alloc ?_ _)))) (Gr.refl ex _)).grown hg6 (fun k hk => .inr (by have := HLO.out k hk; omega))).setS (.inl rfl) _
                clear x4 x4A f4 b7 hkp6 hown6 hg6
                generalize w6.setCell ⟨ex, 0, none⟩ (.slice (some ⟨g6, 0, none⟩) (acc.length + 1) c6) = wx at *
                generalize (Value.slice (some ⟨g6, 0, none⟩) (acc.length + 1) c6) = v6 at *
                have hnx : Nx w wx := Nx.of_gr ((Gr.of_nx hnc).trans hG) hexw
                have t5 : wx.cell? ⟨a.T, 5, none⟩ = some (.slice (some ⟨a.gP, 0, none⟩) rs.length rs.length) := (cell_of_row wx _ 5 _ _ _ (HT.out.nx hnx).hT).trans rfl
                have x5 := intRow_cell (HT.out.nx hnx).hP (i := kk) (by rw [HT.out.lP]; exact hkk)
                have HB := hide hB
                have HO := hide hO
                have HG := hide hG
                clear hB hO hG t0 c0 g1
                generalize hz5 : gi s.prev kk = z5 at *
                have HC5 := hide (show Chain rs.length s.prev z5 rest' from hz5 ▸ HC2.out)
                clear hz5
                go_wp2_with fail
                go_roundg (gk - 1)
                case rel => exact ⟨z5, rest', acc ++ [ky], v6, rfl, HC5.out, by rw [HKEYS.out, HKL.out]; simp, by have := HLEN.out; simp at *; omega, by simp at hfl; omega, HB.out, by rw [show (acc ++ [ky]).length = acc.length + 1 by simp, show (acc ++ [ky]).flatMap encS = acc.flatMap encS ++ [.string ky] by simp [encS]]; exact HO.out, HG.out⟩
                case measure => simp at hfl; omega
              · exact AllReadyH.nil
            · exact AllReadyH.nil
          · exact AllReadyH.nil
        refine AllReadyH.cons rfl (fun K hK => ?_) ?_
        · go_simp
          refine hK.out _ _ (HS7.out _ (by repeat (first | assumption | (with_reducible refine KpA.set ?_ _) | (with_reducible refine KpA.drew ?_) | (refine KpA.nx (by repeat (first | with_reducible exact Nx.refl _ | with_reducible refine Nx.drew ?_ | with_reducible refine Nx.alloc ?_ _)))))) (fun hHeld => ?_)
          clear hK K
          try simp only [Act.put, List.setIfInBounds_toArray, List.set_cons_zero, List.set_cons_succ]
          refine wpAnyH_ready (rs := [1]) (by kernel_rfl) (by simp) ?_
          refine AllReadyH.cons rfl (fun K hK => ?_) ?_
          · go_simp
            refine hK.out _ _ (HS7.out _ (by repeat (first | assumption | (with_reducible refine KpA.set ?_ _) | (with_reducible refine KpA.drew ?_) | (refine KpA.nx (by repeat (first | with_reducible exact Nx.refl _ | with_reducible refine Nx.drew ?_ | with_reducible refine Nx.alloc ?_ _)))))) (fun hHeld => ?_)
            clear hK K
            try simp only [Act.put, List.setIfInBounds_toArray, List.set_cons_zero, List.set_cons_succ]
            refine wpAnyH_ready (rs := [17]) (by kernel_rfl) (by simp) ?_
            refine AllReadyH.cons rfl (fun K hK => ?_) ?_
            · (refine step_append_lies _ rfl _ _ _ rfl bz _ iS zS 1 16 Tryz.underlying34 E1.out E2.out E3.out E4.out E5.out (by omega) vr acc.length (acc.flatMap encS) rfl (own_nx HROW.out (by repeat (first | with_reducible exact Nx.refl _ | with_reducible refine Nx.drew ?_ | with_reducible refine Nx.alloc ?_ _))) _ 1 1 [.string ky] rfl rfl (news_of (hnew rfl) rfl) (by intro u hu; simp at hu; subst hu; rfl) (by omega) (by unfold maxLen; omega) (by omega) (by simp; omega) _ rfl ?_; intro g6 c6 w6 hown6 hg6 hat6 hlt6; (have hkp6 : KpA wr vr.ownBlock ex w6 := KpA.app (by repeat (first | with_reducible exact Nx.refl _ | with_reducible refine Nx.drew ?_ | with_reducible refine Nx.alloc ?_ _)) hg6); (have b7 : w6.heap[ex]? = some (.cells #[vr, .int .i64 ad, .int .i64 z] 89 (0, 0)) := (hg6.block ex (by simp; omega) (fun e => by have := HLO.out _ e.symm; omega)).trans ((((Nx.refl wr).alloc _).block _ (by omega)).trans HBX.out)); (have x4 : w6.cell? ⟨ex, 0, none⟩ = some vr := (cell_of_row w6 _ 0 _ _ _ b7).trans rfl); (have f4 := frozen_blkQ (j := 0) b7))
              refine hK.out _ _ (HS7.out _ (by repeat (first | assumption | (with_reducible refine KpA.set ?_ _) | (with_reducible refine KpA.drew ?_) | (refine KpA.nx (by repeat (first | with_reducible exact Nx.refl _ | with_reducible refine Nx.drew ?_ | with_reducible refine Nx.alloc ?_ _)))))) (fun hHeld => ?_)
              clear hK K
              try simp only [Act.put, List.setIfInBounds_toArray]
              refine wpAnyH_take (i := 18) (oi := ⟨some 63, _, _, _, _, _⟩) (v := ?_) rfl (by kernel_rfl) (by kernel_rfl) (by kernel_rfl) (fun _ _ _ h => h) (Or.inl ⟨by rfl, ?_⟩) (by assumption) ?_
              rotate_left 1
              · intro w hSw
                (try dsimp only at hSw)
                go_simp
                try with_reducible rfl
              try simp only [Act.put]
              refine wpAnyH_ready (rs := [19]) (by kernel_rfl) (by simp) ?_
              refine AllReadyH.cons rfl (fun K hK => ?_) ?_
              · go_simp
                refine hK.out _ _ (HS7.out _ (by repeat (first | assumption | (with_reducible refine KpA.set ?_ _) | (with_reducible refine KpA.drew ?_) | (refine KpA.nx (by repeat (first | with_reducible exact Nx.refl _ | with_reducible refine Nx.drew ?_ | with_reducible refine Nx.alloc ?_ _)))))) (fun hHeld => ?_)
                clear hK K
                try simp only [Act.put, List.setIfInBounds_toArray, List.set_cons_zero, List.set_cons_succ]
                refine wpAnyH_done (by kernel_rfl) ?_ _
                have hB : (w6.setCell ⟨ex, 0, none⟩ (.slice (some ⟨g6, 0, none⟩) (acc.length + 1) c6)).heap[ex]? = some (.cells #[.slice (some ⟨g6, 0, none⟩) (acc.length + 1) c6, .int .i64 ad, .int .i64 z] 89 (0, 0)) := heap_set b7
                have hO : (w6.setCell ⟨ex, 0, none⟩ (.slice (some ⟨g6, 0, none⟩) (acc.length + 1) c6)).ownsRow bz 9 1 (.slice (some ⟨g6, 0, none⟩) (acc.length + 1) c6) (acc.length + 1) (acc.flatMap encS ++ [.string ky]) := World.ownsRow.kept hown6 (show w6.grownBy _ (some ex) from (Gr.refl ex w6).setS (.inl rfl) _) (.inr (fun e => by have := own_blk_lt hown6 _ e; omega))
                have hG : Gr ex wc (w6.setCell ⟨ex, 0, none⟩ (.slice (some ⟨g6, 0, none⟩) (acc.length + 1) c6)) := ((Gr.trans (Gr.trans HGR.out (Gr.of_nx (by repeat (first | with_reducible exact Nx.refl _ | with_reducible refine Nx.drew ?_ | with_reducible refine Nx.alloc ?_ _)))) (Gr.refl ex _)).grown hg6 (fun k hk => .inr (by have := HLO.out k hk; omega))).setS (.inl rfl) _
                clear x4 x4A f4 b7 hkp6 hown6 hg6
                generalize w6.setCell ⟨ex, 0, none⟩ (.slice (some ⟨g6, 0, none⟩) (acc.length + 1) c6) = wx at *
                generalize (Value.slice (some ⟨g6, 0, none⟩) (acc.length + 1) c6) = v6 at *
                have hnx : Nx w wx := Nx.of_gr ((Gr.of_nx hnc).trans hG) hexw
                have t5 : wx.cell? ⟨a.T, 5, none⟩ = some (.slice (some ⟨a.gP, 0, none⟩) rs.length rs.length) := (cell_of_row wx _ 5 _ _ _ (HT.out.nx hnx).hT).trans rfl
                have x5 := intRow_cell (HT.out.nx hnx).hP (i := kk) (by rw [HT.out.lP]; exact hkk)
                have HB := hide hB
                have HO := hide hO
                have HG := hide hG
                clear hB hO hG t0 c0 g1
                generalize hz5 : gi s.prev kk = z5 at *
                have HC5 := hide (show Chain rs.length s.prev z5 rest' from hz5 ▸ HC2.out)
                clear hz5
                go_wp2_with fail
                go_roundg (gk - 1)
                case rel => exact ⟨z5, rest', acc ++ [ky], v6, rfl, HC5.out, by rw [HKEYS.out, HKL.out]; simp, by have := HLEN.out; simp at *; omega, by simp at hfl; omega, HB.out, by rw [show (acc ++ [ky]).length = acc.length + 1 by simp, show (acc ++ [ky]).flatMap encS = acc.flatMap encS ++ [.string ky] by simp [encS]]; exact HO.out, HG.out⟩
                case measure => simp at hfl; omega
              · exact AllReadyH.nil
            · exact AllReadyH.nil
          · exact AllReadyH.nil
        exact AllReadyH.nil
end Go.Proofs.YtbjbeddjaajdaaaGreatDoor
/- Both ends of a way asked for: what is wrong. -/
namespace Go.Proofs.YtbjbeddjaajdaaaGreatDoor
open Go.RowKit
set_option maxRecDepth 100000 in
set_option maxHeartbeats 4000000 in
theorem w_EndsBad (g0 lo : Nat) (A B C : Option Addr) (ca cb cc : Nat) (ns : List Node) (rs : List Arc) (bs : List Ban) (f t : ByteArray) (ad : Int) (w : World) (hBox : BoxR w g0 lo A B C ca cb cc ns rs bs) (hS : SmallN ns) (hE : endsF ns rs bs f t ad ≠ 0) :
    Calls Tryz.prog 48 #[.pointer (some ⟨g0, 0, none⟩), .string f, .string t, .int .i64 ad] w fun e w' => e = .returned (.tuple #[.pointer none, .int .i64 0, .int .i64 0, .int .i64 (endsF ns rs bs f t ad)]) ∧ Nx w w' := by
  have b0 := hBox.g0
  have b1 := hBox.g1
  have b2 := hBox.g2
  have HC := hide (w_CheckRoads lo lo lo A B C ca cb cc ns rs bs w hBox.hN hS hBox.nl hBox.hA hBox.al hBox.hB hBox.bl)
  have HB := hide hBox
  obtain ⟨E, hEE⟩ : ∃ E, E = endsF ns rs bs f t ad := ⟨_, rfl⟩
  rw [← hEE] at hE ⊢
  have HE := hide (show E = if roadsF ns rs bs = 0 then (if nodeI ns f < 0 ∨ nodeI ns t < 0 then 8 else if momB ad then 0 else 1) else roadsF ns rs bs from hEE)
  clear hEE hBox
  by_cases hF : roadsF ns rs bs = 0
  · have HE := hide (HE.out.trans (if_pos hF))
    have HSN := hide (sortN_of (roads_ok hF).1)
    rw [hF] at HC
    clear hF
    have HNE := hide hE
    clear hE
    go_enter Tryz.func48, Tryz.ntmps48
    go_wp2_with fail
    refine (HC.out).mono ?_
    rintro e w1 ⟨rfl, hn1⟩
    clear b0 b1 b2
    have HN1 := hide hn1
    clear hn1
    go_wp2_with fail
    have hb1 := HB.out.nx HN1.out
    refine (w_nodeR g0 lo A ca ns f w1 hb1.g0 hb1.hN (by have := hb1.nl; omega) HSN.out).mono ?_
    rintro e w2 ⟨rfl, hn2⟩
    have HN2 := hide (HN1.out.trans hn2)
    clear hn2 hb1
    go_wp2_with fail
    have hb1 := HB.out.nx HN2.out
    refine (w_nodeR g0 lo A ca ns t w2 hb1.g0 hb1.hN (by have := hb1.nl; omega) HSN.out).mono ?_
    rintro e w3 ⟨rfl, hn3⟩
    have HN3 := hide (HN2.out.trans hn3)
    clear hn3 hb1
    generalize nodeI ns f = i at *
    generalize nodeI ns t = j at *
    by_cases hij : i < 0 ∨ j < 0
    · have hE8 := HE.out.trans (if_pos hij)
      subst hE8
      by_cases hi : i < 0
      · have ti : decide (i < 0) = true := decide_eq_true hi
        clear hi hij
        go_wp2_with fail
        exact bodyPost_ret (v := .tuple #[.pointer none, .int .i64 0, .int .i64 0, .int .i64 8]) (by simp [results, Tryz.results48, go_sem]) rfl ⟨rfl, HN3.out⟩
      · have ti : decide (i < 0) = false := decide_eq_false hi
        have tj : decide (j < 0) = true := decide_eq_true (by omega)
        clear hi hij
        go_wp2_with fail
        exact bodyPost_ret (v := .tuple #[.pointer none, .int .i64 0, .int .i64 0, .int .i64 8]) (by simp [results, Tryz.results48, go_sem]) rfl ⟨rfl, HN3.out⟩
    · have hE1 := HE.out.trans (if_neg hij)
      have ti : decide (i < 0) = false := decide_eq_false (by omega)
      have tj : decide (j < 0) = false := decide_eq_false (by omega)
      have hm : momB ad = false := by
        cases hm : momB ad with
        | false => rfl
        | true => rw [hm, if_pos rfl] at hE1; exact absurd hE1 HNE.out
      rw [hm, if_neg (by simp)] at hE1
      subst hE1
      clear hij
      go_wp2_with fail
      refine (w_Moment _ _).mono ?_
      rintro e w4 ⟨rfl, rfl⟩
      rw [hm]
      go_wp2_with fail
      exact bodyPost_ret (v := .tuple #[.pointer none, .int .i64 0, .int .i64 0, .int .i64 1]) (by simp [results, Tryz.results48, go_sem]) rfl ⟨rfl, HN3.out⟩
  · have hE1 := HE.out.trans (if_neg hF)
    rw [← hE1] at HC
    clear hF hE1
    have tE : (E == 0) = false := by simpa using hE
    have tE2 : (E != 0) = true := by simpa using hE
    go_enter Tryz.func48, Tryz.ntmps48
    go_wp2_with fail
    refine (HC.out).mono ?_
    rintro e w1 ⟨rfl, hn1⟩
    clear b0 b1 b2
    go_wp2_with fail
    exact bodyPost_ret (v := .tuple #[.pointer none, .int .i64 0, .int .i64 0, .int .i64 E]) (by simp [results, Tryz.results48, go_sem]) rfl ⟨rfl, hn1⟩
set_option maxRecDepth 100000 in
set_option maxHeartbeats 4000000 in
theorem w_FastBad (lo : Nat) (A B C : Option Addr) (ca cb cc : Nat) (ns : List Node) (rs : List Arc) (bs : List Ban) (f t : ByteArray) (ad : Int) (w : World)
    (hN : Rd w lo A 3 encNode ns) (hA : RdArcs w lo B rs) (hB : Rd w lo C 2 encBan bs) (hnl : ns.length ≤ 400) (hal : rs.length ≤ 400) (hbl : bs.length ≤ 400)
    (hS : SmallN ns) (hE : endsF ns rs bs f t ad ≠ 0) :
    Calls Tryz.prog 38 #[.agg #[.slice A ns.length ca, .slice B rs.length cb, .slice C bs.length cc], .string f, .string t, .int .i64 ad] w fun e w' => e = .returned (.tuple #[.agg #[.slice none 0 0, .int .i64 0, .int .i64 0], .bool false, .int .i64 (endsF ns rs bs f t ad)]) ∧ Nx w w' := by
  obtain ⟨wa, hwa⟩ : ∃ wa, wa = w.alloc (.cells #[.slice A ns.length ca, .slice B rs.length cb, .slice C bs.length cc] 30) := ⟨_, rfl⟩
  have hna : Nx w wa := hwa ▸ (Nx.refl w).alloc _
  have hgw : w.heap.size < wa.heap.size := by rw [hwa]; simp
  have b0 : wa.cell? ⟨w.heap.size, 0, none⟩ = some (.slice A ns.length ca) := by rw [hwa]; go_simp
  have b1 : wa.cell? ⟨w.heap.size, 1, none⟩ = some (.slice B rs.length cb) := by rw [hwa]; go_simp
  have b2 : wa.cell? ⟨w.heap.size, 2, none⟩ = some (.slice C bs.length cc) := by rw [hwa]; go_simp
  have hBox : BoxR wa w.heap.size lo A B C ca cb cc ns rs bs := ⟨b0, b1, b2, hgw, hN.nx hna, hA.nx hna, hB.nx hna, hnl, hal, hbl⟩
  have HC := hide (fun W (hx : Nx wa W) => w_EndsBad w.heap.size lo A B C ca cb cc ns rs bs f t ad W (hBox.nx hx) hS hE)
  clear hBox b0 b1 b2 hN hA hB
  generalize endsF ns rs bs f t ad = E at *
  have tE : (E == 0) = false := by simpa using hE
  have tE2 : (E != 0) = true := by simpa using hE
  clear hE
  have HWA := hide hwa
  go_enter Tryz.func38, Tryz.ntmps38
  go_wp2_with fail
  rw [show w.heap.size + 1 = wa.heap.size by rw [hwa]; simp]
  rw [← hwa]
  clear hwa
  refine (HC.out _ ((Nx.refl _).alloc _)).mono ?_
  rintro e w3 ⟨rfl, hn3⟩
  have b8 : w3.heap[wa.heap.size]? = some (.cells #[.slice none 0 0, .int .i64 0, .int .i64 0] 89 (0, 0)) := (hn3.block _ (by simp)).trans (hnew rfl)
  have q0 : w3.cell? ⟨wa.heap.size, 0, none⟩ = some (.slice none 0 0) := (cell_of_row w3 _ 0 _ _ _ b8).trans rfl
  have q1 : w3.cell? ⟨wa.heap.size, 1, none⟩ = some (.int .i64 0) := (cell_of_row w3 _ 1 _ _ _ b8).trans rfl
  have q2 : w3.cell? ⟨wa.heap.size, 2, none⟩ = some (.int .i64 0) := (cell_of_row w3 _ 2 _ _ _ b8).trans rfl
  have f0 := frozen_blkQ (j := 0) b8
  have f1 := frozen_blkQ (j := 1) b8
  have f2 := frozen_blkQ (j := 2) b8
  have hx8 := lt_of_heap b8
  have HNN := hide (hna.trans (((Nx.refl wa).alloc _).trans hn3))
  clear hn3
  go_wp2_with fail
  have s1 := Gr.setS (Gr.of_nx (s := wa.heap.size) HNN.out) (p := ⟨wa.heap.size, 0, none⟩) (Or.inl rfl) (.slice none 0 0)
  have s2 := Gr.setS s1 (p := ⟨wa.heap.size, 1, none⟩) (Or.inl rfl) (.int .i64 0)
  have s3 := Gr.setS s2 (p := ⟨wa.heap.size, 2, none⟩) (Or.inl rfl) (.int .i64 0)
  have hW := Nx.of_gr s3 hna.sz
  exact bodyPost_ret (v := .tuple #[.agg #[.slice none 0 0, .int .i64 0, .int .i64 0], .bool false, .int .i64 E]) (by simp [results, Tryz.results38, go_sem, q0, q1, q2]) rfl ⟨rfl, hW⟩
end Go.Proofs.YtbjbeddjaajdaaaGreatDoor
/- When one comes out of each of some arcs: the program. -/
namespace Go.Proofs.YtbjbeddjaajdaaaGreatDoor
open Go.RowKit

theorem time_bd {l : List Knot} (h : KOk l) (at_ : Int) : 0 ≤ timeI l at_ ∧ timeI l at_ ≤ 622080000000000 := by
  unfold timeI
  generalize ht : at_ % dayMs = t
  have htb : 0 ≤ t ∧ t ≤ 86399999 := by unfold dayMs at ht; omega
  obtain ⟨i, hi, h1, h2⟩ := seg_ex h htb.1
  rw [seg_of h hi h1 h2]
  have hab := after_bd h hi
  have hkb := h.bd i hi
  have haf : t < (afterK l i).at_ := by
    unfold afterK
    by_cases h3 : i + 1 < l.length
    · rw [if_pos h3]; exact h2 h3
    · rw [if_neg h3]; show t < dayMs; unfold dayMs; omega
  generalize afterK l i = y at *
  generalize l.getD i default = x at *
  unfold lineI
  have m1 : 0 ≤ x.time * (y.at_ - t) ∧ x.time * (y.at_ - t) ≤ 3600000 * 86400000 := ⟨Int.mul_nonneg (by omega) (by omega), Int.mul_le_mul (by omega) (by omega) (by omega) (by omega)⟩
  have m2 : 0 ≤ y.time * (t - x.at_) ∧ y.time * (t - x.at_) ≤ 3600000 * 86400000 := ⟨Int.mul_nonneg (by omega) (by omega), Int.mul_le_mul (by omega) (by omega) (by omega) (by omega)⟩
  have h3 := Int.ediv_nonneg (a := x.time * (y.at_ - t) + y.time * (t - x.at_)) (b := y.at_ - x.at_) (by omega) (by omega)
  have h4 := Int.ediv_le_self (a := x.time * (y.at_ - t) + y.time * (t - x.at_)) (y.at_ - x.at_) (by omega)
  omega
def walkF (ns : List Node) (rs : List Arc) (bs : List Ban) (fr : ByteArray) (at_ : Int) (l : List ByteArray) : Int :=
  if roadsF ns rs bs = 0 then (if nodeI ns fr < 0 then 8 else if momB at_ then (if chainF rs bs fr none l = 0 then (if (walkO rs at_ l).isSome then 0 else 12) else chainF rs bs fr none l) else 1) else roadsF ns rs bs
def walkL (ns : List Node) (rs : List Arc) (bs : List Ban) (fr : ByteArray) (at_ : Int) (l : List ByteArray) : List Int :=
  if walkF ns rs bs fr at_ l = 0 then at_ :: (walkO rs at_ l).getD [] else []
theorem walk_drop (rs : List Arc) (l : List ByteArray) (k : Nat) (hk : k < l.length) (a : Int) : walkO rs a (l.drop k) = if 345686400000 ≤ outAt rs a l[k] then none else (walkO rs (outAt rs a l[k]) (l.drop (k + 1))).map (outAt rs a l[k] :: ·) := by
  rw [List.drop_eq_getElem_cons hk, walkO]

end Go.Proofs.YtbjbeddjaajdaaaGreatDoor
/- An arc is entered in a search. -/
namespace Go.Proofs.YtbjbeddjaajdaaaGreatDoor
open Go.RowKit Go.Maps

/-- Blocks made since stay, but the queue's. -/
def FrE (a : SA) (w w' : World) : Prop := ∀ ex, a.base ≤ ex → ex < w.heap.size → NotOwn a.gq ex w → w'.heap[ex]? = w.heap[ex]? ∧ NotOwn a.gq ex w'
theorem FrE.refl {a : SA} {w : World} : FrE a w w := fun _ _ _ h => ⟨rfl, h⟩
theorem FrE.trans {a : SA} {w w' w'' : World} (h : FrE a w w') (k : FrE a w' w'') : FrE a w w'' := fun ex h0 h1 h3 => by
  obtain ⟨x, y⟩ := h ex h0 h1 h3
  have hlt : ex < w'.heap.size := by
    rw [Array.getElem?_eq_getElem h1] at x
    exact (Array.getElem?_eq_some_iff.1 x).1
  obtain ⟨c, d⟩ := k ex h0 hlt y
  exact ⟨c.trans x, d⟩
theorem FrE.nx {a : SA} {w w' : World} (hq : a.gq < w.heap.size) (h : Nx w w') : FrE a w w' := fun ex _ h1 h3 => ⟨h.block ex h1, fun v z hv => h3 v z ((h.block a.gq hq).symm.trans hv)⟩
theorem FrE.set {a : SA} {w : World} {k i : Nat} {u : Value} (hk : k < a.base) (hq : k ≠ a.gq) : FrE a w (w.setCell ⟨k, i, none⟩ u) := fun ex h0 _ h3 =>
  ⟨Below.heap_setCell w ⟨k, i, none⟩ u ex (by show ex ≠ k; omega), fun v z hv => h3 v z ((Below.heap_setCell w ⟨k, i, none⟩ u a.gq (Ne.symm hq)).symm.trans hv)⟩
theorem FrE.drew {a : SA} {w w' : World} (h : FrE a w w') : FrE a w w'.drew := h
theorem FrE.of_q {a : SA} {w w' : World} (hb : a.gq < a.base) (h : FrQ a.gq w w') : FrE a w w' := fun ex h0 h1 h3 => h ex h1 (by omega) h3
set_option maxRecDepth 100000 in
set_option maxHeartbeats 4000000 in
theorem w_enter (w0 w : World) (a : SA) (bm fr nn : Nat) (ad : Int) (s : Sr) (g0 lo : Nat) (A B C : Option Addr) (ca cb cc : Nat) (M : MapA) (ns : List Node) (rs : List Arc) (bs : List Ban) (arc : Nat) (p t : Int)
    (hM : MapR w0 bm g0 lo A B C ca cb cc M ns rs bs) (hKO : ∀ x ∈ rs, KOk x.knots) (hS : SM w0 w a bm fr nn rs.length ad s) (ha : arc < rs.length) (ht : 0 ≤ t ∧ t ≤ 345686399999) (hq : s.q.length < 1000000) :
    Calls Tryz.prog 141 #[.int .i64 (arc : Int), .int .i64 p, .int .i64 t, .pointer (some ⟨a.bx, 0, none⟩), .pointer (some ⟨a.bb, 0, none⟩), .pointer (some ⟨a.bt, 0, none⟩), .pointer (some ⟨a.gq, 0, none⟩)] w
      fun e w' => e = .returned (.tuple #[]) ∧ SM w0 w' a bm fr nn rs.length ad (enterG (gphOf ns rs bs) s arc p t) ∧ FrE a w w' := by
  have hMw := hM.nx hS.nx
  have c0 := hMw.c0
  have g1 := hMw.box.g1
  obtain ⟨hKx, hLx, hSx⟩ := hMw.box.hA.2 rs[arc] (List.getElem_mem ha)
  have hko := hKO rs[arc] (List.getElem_mem ha)
  obtain ⟨b, off, rfl, _, hb, hbr, hc⟩ := hMw.box.hA.1.open_ (Nx.refl w) (by omega)
  have a4 : w.cell? ⟨b, off + arc * 5 + 4, none⟩ = some (.slice rs[arc].ka rs[arc].knots.length rs[arc].kc) := hc arc ha 4 _ rfl
  have hal := hMw.box.al
  have HT := hide (w_TimeO b (off + arc * 5) lo rs[arc].ka rs[arc].kc rs[arc].knots t w a4 hb hKx hko ht)
  have htb := time_bd hko t
  have HOUT := hide (show (gphOf ns rs bs).out arc t = t + timeI rs[arc].knots t by show t + timeI (arcX rs arc).knots t = _; rw [arcX_get ha])
  have k1 := hS.hbx
  have k2 := hS.hbb
  have k3 := hS.hbt
  have k4 : w.cell? ⟨a.T, 5, none⟩ = some (.slice (some ⟨a.gP, 0, none⟩) rs.length rs.length) := (cell_of_row w _ 5 _ _ _ hS.hTb).trans rfl
  have HSM := hide hS
  have HQ := hide hq
  have HA := hide ha
  clear hM hS hMw hKx hLx hSx hko hKO hc a4 hq
  generalize timeI rs[arc].knots t = z at *
  generalize hm : rs.length = m at *
  have i1 : (0 : Int) ≤ (arc : Int) := by omega
  have i2 : (arc : Int) < (m : Int) := by omega
  have q1 : IntKind.i64.wrap (t + z) = t + z := IntWalk.i64_in _ (by omega)
  have HST := hide (show enterG (gphOf ns rs bs) s arc p t = if (t + z < endT ∧ (gi s.best arc < 0 ∨ t + z < gi s.best arc)) then { s with best := s.best.set arc (t + z), prev := s.prev.set arc p, q := hpush s.q ⟨t + z, arc⟩ } else s by unfold enterG; rw [HOUT.out])
  generalize enterG (gphOf ns rs bs) s arc p t = R at *
  clear HOUT
  go_enter Tryz.func141, Tryz.ntmps141
  go_wp2_with fail
  refine HT.out.mono ?_
  rintro e w1 ⟨rfl, hn1⟩
  clear k1 k2 k3 k4 c0 g1
  have HS1 := hide (HSM.out.step hn1)
  have hgqw : a.gq < w.heap.size := by obtain ⟨_, _, _, h3, h4⟩ := HSM.out.q; omega
  have HF1 := hide (FrE.nx (a := a) hgqw hn1)
  have k2 := HS1.out.hbb
  have k3 := HS1.out.hbt
  have k4 : w1.cell? ⟨a.T, 5, none⟩ = some (.slice (some ⟨a.gP, 0, none⟩) m m) := (cell_of_row w1 _ 5 _ _ _ HS1.out.hTb).trans rfl
  have k5 := intRow_cell HS1.out.hB (show arc < s.best.length by rw [HS1.out.lB]; exact HA.out)
  have k6 := intRow_cell HS1.out.hP (show arc < s.prev.length by rw [HS1.out.lP]; exact HA.out)
  have f5 := frozen_blkQ (j := arc) HS1.out.hB
  have f6 := frozen_blkQ (j := arc) HS1.out.hP
  have hTq : t + z ≤ 1000000000000000 := by omega
  clear HT hb hbr
  obtain ⟨X, hX⟩ : ∃ X : Bool, X = decide (t + z < endT ∧ (gi s.best arc < 0 ∨ t + z < gi s.best arc)) := ⟨_, rfl⟩
  have HX := hide hX
  clear hX
  generalize gi s.best arc = bv at *
  generalize gi s.prev arc = pv at *
  go_upto_region 1 with fail
  go_cut [39] (fun v wx => v = .bool X ∧ w1 = wx)
  case first =>
    clear k3 k4 k6 f5 f6
    by_cases hE : t + z < 345686400000
    · have tE : decide (t + z < 345686400000) = true := decide_eq_true hE
      by_cases hB : bv < 0
      · have tB : decide (bv < 0) = true := decide_eq_true hB
        have hx : X = true := by rw [HX.out]; exact decide_eq_true ⟨hE, .inl hB⟩
        subst hx
        clear hE hB
        go_wp2_with fail
        go_meet
        exact ⟨rfl, rfl⟩
      · have tB : decide (bv < 0) = false := decide_eq_false hB
        by_cases hL : t + z < bv
        · have tL : decide (t + z < bv) = true := decide_eq_true hL
          have hx : X = true := by rw [HX.out]; exact decide_eq_true ⟨hE, .inr hL⟩
          subst hx
          clear hE hB hL
          go_wp2_with fail
          go_meet
          exact ⟨rfl, rfl⟩
        · have tL : decide (t + z < bv) = false := decide_eq_false hL
          have hx : X = false := by rw [HX.out]; exact decide_eq_false (fun h => h.2.elim hB hL)
          subst hx
          clear hE hB hL
          go_wp2_with fail
          go_meet
          exact ⟨rfl, rfl⟩
    · have tE : decide (t + z < 345686400000) = false := decide_eq_false hE
      have hx : X = false := by rw [HX.out]; exact decide_eq_false (fun h => hE h.1)
      subst hx
      clear hE
      go_wp2_with fail
      go_meet
      exact ⟨rfl, rfl⟩
  case rest =>
    obtain ⟨rfl, rfl⟩ := hcut
    cases X
    · have hR : R = s := by
        rw [HST.out, if_neg]
        exact of_decide_eq_false HX.out.symm
      go_wp2_with fail
      go_end0
      exact ⟨rfl, by rw [hR]; exact HS1.out, HF1.out⟩
    · have hR : R = { s with best := s.best.set arc (t + z), prev := s.prev.set arc p, q := hpush s.q ⟨t + z, arc⟩ } := by
        rw [HST.out, if_pos]
        exact of_decide_eq_true HX.out.symm
      have HR := hide hR
      clear hR
      have hS2 := (HS1.out.setB arc (t + z)).setP arc p
      have hS3 := (HS1.out.setP arc p).setB arc (t + z)
      have HW2 := hide hS2
      have HW3 := hide hS3
      have hne : a.gB ≠ a.gP := by
        have h := HS1.out.mem.1
        simp only [memOf, List.map_cons, List.map_nil, List.nodup_cons, List.mem_cons, List.not_mem_nil, or_false, not_or] at h
        exact fun e => h.2.2.2.2.2.2.1.1 e.symm
      clear hS2 hS3
      go_upto_region 2 with fail
      go_cut [50] (fun _ wx => SM w0 wx a bm fr nn m ad { s with best := s.best.set arc (t + z), prev := s.prev.set arc p } ∧ FrE a w wx)
      case first =>
        have hlB := HS1.out.lo a.gB (by simp)
        have hlP := HS1.out.lo a.gP (by simp)
        go_region_with (fail)
        all_goals
          go_wp2
          go_meet
          have hfB : ∀ {W : World} {i : Nat} {u : Value}, FrE a W (W.setCell ⟨a.gB, i, none⟩ u) := FrE.set hlB.2.1 hlB.2.2
          have hfP : ∀ {W : World} {i : Nat} {u : Value}, FrE a W (W.setCell ⟨a.gP, i, none⟩ u) := FrE.set hlP.2.1 hlP.2.2
          first | exact ⟨HW2.out, HF1.out.trans (hfB.trans hfP)⟩ | exact ⟨HW3.out, HF1.out.trans (hfP.trans hfB)⟩ | exact ⟨HW2.out.step (Nx.refl _).drew, (HF1.out.trans (hfB.trans hfP)).drew⟩ | exact ⟨HW3.out.step (Nx.refl _).drew, (HF1.out.trans (hfP.trans hfB)).drew⟩
      case rest =>
        have HSC := hide hcut.1
        have HFC := hide hcut.2
        have HPU := hide (w_HPush a.base a.gq s.q ⟨t + z, arc⟩ wc hcut.1.q HQ.out)
        clear hcut k2 k3 k4 k5 k6 f5 f6 hne
        go_wp2_with fail
        refine HPU.out.mono ?_
        rintro e w5 ⟨rfl, hQ5, hk5, hf5⟩
        go_wp2_with fail
        go_end0
        refine ⟨rfl, ?_, HFC.out.trans (FrE.of_q (by obtain ⟨_, _, _, h3, _⟩ := HSC.out.q; exact h3) hf5)⟩
        rw [HR.out]
        exact HSC.out.keep hk5 hQ5
end Go.Proofs.YtbjbeddjaajdaaaGreatDoor
/- slices.Repeat of one number. -/
namespace Go.Proofs.YtbjbeddjaajdaaaGreatDoor
open Go.RowKit Go.Proofs Go.Shelf

theorem run_make_intsC (n : Nat) (hn : n ≤ 100000) (w : World) : (Instr.makeSlice 22 (.int .i64 (n : Int)) (.int .i64 (n : Int))).run Tryz.prog w = .ok (.slice (some ⟨w.heap.size, 0, none⟩) n n) (w.alloc (.cells (madeCells #[.int .i64 0] n) 3)) := by
  obtain ⟨i, h1, h2, h3, h4⟩ := info_parts (show (Tryz.prog.info? 3).map (fun i => (i.zero, i.size, i.bytes)) = some (some (.int .i64 0), 1, 8) by kernel_rfl)
  have h := run_make (P := Tryz.prog) w 22 3 i (.int .i64 0) Tryz.underlying22 h1 h2 .i64 .i64 (n : Int) (n : Int) (by omega) (by omega) (by rw [h4]; omega) (by omega)
  rw [h]
  simp [h3, Value.cells]
theorem made_intsC (n : Nat) : (madeCells #[.int .i64 0] n).toList = (List.replicate n (0 : Int)).flatMap encI := by
  rw [toList_madeCells_one]
  induction n with
  | zero => rfl
  | succ n ih => rw [List.replicate_succ, List.replicate_succ, List.flatMap_cons, ih]; rfl
theorem own_madeC (w : World) (n base : Nat) (hn : n ≤ 100000) (hb : base ≤ w.heap.size) {Z : Array Value} (hZ : Z.toList = (List.replicate n (0 : Int)).flatMap encI) : (w.alloc (.cells Z 3)).ownsRow base 3 1 (.slice (some ⟨w.heap.size, 0, none⟩) n n) n ((List.replicate n (0 : Int)).flatMap encI) := by
  have := own_lit (w := w.alloc (.cells Z 3)) (e := 3) (g := w.heap.size) (n := n) (m := n) (base := base) (xs := List.replicate n (0 : Int)) encI_len (hnew rfl) hb hZ (by simp) (Nat.le_refl _) (by unfold maxLen; omega)
  rwa [List.take_of_length_le (by simp)] at this
theorem w_Mul64C (x y z : Nat) (w : World) (hx : x ≤ 4294967296) (hy : y ≤ 2147483648) (hz : x * y = z) :
    Calls Tryz.prog 103 #[.int .u64 (x : Int), .int .u64 (y : Int)] w fun e w' => e = .returned (.tuple #[.int .u64 0, .int .u64 (z : Int)]) ∧ w = w' := by
  subst hz
  have hb : x * y ≤ 4294967296 * 2147483648 := Nat.mul_le_mul hx hy
  have hcon := Any.bits_Mul64 Tryz.mul64 x y (by omega) (by omega) w
  change Calls Tryz.prog 103 _ _ _ at hcon
  refine hcon.mono ?_
  rintro e w' ⟨rfl, rfl⟩
  have e1 : x * y / 18446744073709551616 = 0 := Nat.div_eq_of_lt (by omega)
  have e2 : x * y % 18446744073709551616 = x * y := Nat.mod_eq_of_lt (by omega)
  rw [e1, e2]
  exact ⟨rfl, rfl⟩
theorem w_MulUC (x y z : Nat) (w : World) (hx : x ≤ 4294967296) (hy : y ≤ 2147483648) (hz : x * y = z) :
    Calls Tryz.prog 189 #[.int .u64 (x : Int), .int .u64 (y : Int)] w fun e w' => e = .returned (.tuple #[.int .u64 0, .int .u64 (z : Int)]) ∧ w = w' := by
  go_enter Tryz.func189, Tryz.ntmps189
  go_wp2_with (go_at_call 103; refine (w_Mul64C x y z _ hx hy hz).mono ?_; rintro e w' ⟨rfl, rfl⟩)
  go_ret2
  exact ⟨rfl, rfl⟩

def rowC (c : Int) (n m : Nat) : List Int := List.replicate m c ++ List.replicate (n - m) 0
theorem rowC_len (c : Int) (n m : Nat) (_h : m ≤ n) : (rowC c n m).length = n := by unfold rowC; simp; omega
theorem mapIC (l : List Int) : l.flatMap encI = l.map (Value.int .i64) := by
  induction l with
  | nil => rfl
  | cons x l ih => rw [List.flatMap_cons, ih]; rfl
theorem rowC_more (c : Int) (n m q : Nat) (_h : m + q ≤ n) : (rowC c n m).take m ++ List.replicate q c ++ (rowC c n m).drop (m + q) = rowC c n (m + q) := by
  have e1 : (rowC c n m).take m = List.replicate m c := by
    unfold rowC
    rw [List.take_append_of_le_length (by simp)]; simp
  have e2 : (rowC c n m).drop (m + q) = List.replicate (n - (m + q)) 0 := by
    unfold rowC
    rw [List.drop_append]
    simp
    omega
  rw [e1, e2, List.replicate_append_replicate]
  rfl

set_option maxRecDepth 100000 in
set_option maxHeartbeats 2000000 in
theorem w_RepeatC1 (c : Int) (n gl : Nat) (w : World) (hn : 1 ≤ n) (hn2 : n ≤ 1000) (hg : w.heap[gl]? = some (.cells #[.int .i64 c] 3 (0, 0))) :
    Calls Tryz.prog 140 #[.slice (some ⟨gl, 0, none⟩) 1 1, .int .i64 (n : Int)] w fun e w' => ∃ g, e = .returned (.slice (some ⟨g, 0, none⟩) n n) ∧ g = w.heap.size ∧ w'.heap[g]? = some (.cells ((List.replicate n c).map (Value.int .i64)).toArray 3 (0, 0)) ∧ Nx w w' := by
  have hgl : gl < w.heap.size := (Array.getElem?_eq_some_iff.1 hg).1
  have hmk := fun w => run_make_intsC n (by omega) w
  obtain ⟨Z, hZ⟩ : ∃ Z : Array Value, madeCells #[.int .i64 0] n = Z := ⟨_, rfl⟩
  have hZl := made_intsC n
  rw [hZ] at hmk hZl
  have hs1 : (Tryz.prog.info? 3).map (·.size) = some 1 := by kernel_rfl
  have t1 : decide ((n : Int) < 0) = false := decide_eq_false (by omega)
  have t2 : IntKind.u64.wrap (n : Int) = (n : Int) := by rw [IntKind.wrap_u64]; omega
  have t3 : IntKind.i64.wrap (n : Int) = (n : Int) := IntWalk.i64_in _ (by omega)
  have t4 : decide ((n : Int) > 9223372036854775807) = false := decide_eq_false (by omega)
  have t5 : ¬ (9223372036854775807 : Int) < (n : Int) := by omega
  have hl0 : Z.toList = (rowC c n 0).map (Value.int .i64) := by rw [hZl, mapIC]; simp [rowC]
  have hcp : ∀ ty, (Builtin.copy_ #[22, 22] ty #[.slice (some ⟨w.heap.size, 0, none⟩) n n, .slice (some ⟨gl, 0, none⟩) 1 1]).run Tryz.prog (w.alloc (.cells Z 3)) = .ok (goInt 1) ((w.alloc (.cells Z 3)).setRow w.heap.size ((rowC c n 1).map (Value.int .i64)).toArray) := by
    intro ty
    have h := run_copy_row (P := Tryz.prog) (w.alloc (.cells Z 3)) 22 22 ty 3 w.heap.size 0 n n ⟨gl, 0, none⟩ 1 1 Z 3 [.int .i64 c] Tryz.underlying22 hs1 (hnew rfl) (by show 1 = min 1 n; omega) (fun j v hj => by
      rcases j with _ | j
      · simp at hj; subst hj
        exact cell_of_row _ gl 0 _ _ _ ((((Nx.refl w).alloc _).block gl hgl).trans hg)
      · simp at hj) (by rw [← Array.length_toList, hl0]; simp [rowC_len c n 0 (by omega)]; omega) (by intro v hv; simp at hv; subst hv; rfl)
    rw [h]
    congr 2
    have := rowC_more c n 0 1 (by omega)
    rw [Nat.zero_add] at this
    rw [hl0, ← this]
    simp
  go_enter Tryz.func140, Tryz.ntmps140
  go_wp2_with (go_at_call 189; refine (w_MulUC 1 n n _ (by omega) (by omega) (by omega)).mono ?_; rintro e w' ⟨rfl, rfl⟩)
  have hrow1 : ((w.alloc (.cells Z 3)).setRow w.heap.size ((rowC c n 1).map (Value.int .i64)).toArray).heap[w.heap.size]? = some (.cells ((rowC c n 1).map (Value.int .i64)).toArray 3 (0, 0)) := setRow_heap _ _ _ _ _ _ (hnew rfl)
  have hnx1 : Nx w ((w.alloc (.cells Z 3)).setRow w.heap.size ((rowC c n 1).map (Value.int .i64)).toArray) := by
    have h0 := (Nx.refl w).alloc (.cells Z 3)
    refine ⟨h0.os, h0.tape, h0.output, by simp [World.setRow], fun i hi => ?_⟩
    rw [← h0.block i hi]
    simp only [World.setRow]
    rw [Array.getElem?_modify, if_neg (by omega)]
  have HST := hide (And.intro hrow1 hnx1)
  clear hrow1 hnx1 hcp hmk hZ hZl hl0
  go_loopw [8] (fun u wr => ∃ m : Nat, 1 ≤ m ∧ m ≤ n ∧ u = .int .i64 m ∧ wr.heap[w.heap.size]? = some (.cells ((rowC c n m).map (Value.int .i64)).toArray 3 (0, 0)) ∧ Nx w wr) (fun u _ => n - (intOf u).toNat)
  case atStart => exact ⟨1, by omega, hn, rfl, HST.out.1, HST.out.2⟩
  case round =>
    clear HST
    obtain ⟨m, hm1, hmn, rfl, hrow, hnx⟩ := hrel
    by_cases hlt : m < n
    · have q1 : (m : Int) ≤ (n : Int) := by omega
      have q2 : (0 : Int) ≤ (m : Int) := by omega
      obtain ⟨q, hq⟩ : ∃ q, q = min m (n - m) := ⟨_, rfl⟩
      have hq1 : 1 ≤ q ∧ m + q ≤ n := by omega
      have q3 : IntKind.i64.wrap ((m : Int) + (q : Int)) = (m : Int) + (q : Int) := IntWalk.i64_in _ (by omega)
      obtain ⟨C, hC⟩ : ∃ C : List Value, (rowC c n m).map (Value.int .i64) = C := ⟨_, rfl⟩
      obtain ⟨cs, hcs⟩ : ∃ cs : List Value, List.replicate q (Value.int .i64 c) = cs := ⟨_, rfl⟩
      have hcl : cs.length = q := by rw [← hcs, List.length_replicate]
      have hCl : C.length = n := by rw [← hC, List.length_map, rowC_len c n m hmn]
      have HSRC := hide (show ∀ j v, cs[j]? = some v → wr.cell? ((⟨w.heap.size, 0, none⟩ : Addr).add j) = some v from by
        intro j v hj
        have hjq : j < q := by have := (List.getElem?_eq_some_iff.1 hj).1; omega
        have e1 : (⟨w.heap.size, 0, none⟩ : Addr).add j = ⟨w.heap.size, j, none⟩ := by unfold Addr.add; split <;> simp_all
        rw [e1, cell_of_row _ _ j _ _ _ hrow, ← Array.getElem?_toList]
        rw [← hcs, List.getElem?_replicate, if_pos hjq] at hj
        rw [← hj]
        unfold rowC
        rw [List.map_append, List.getElem?_append_left (by simp; omega), List.getElem?_map, List.getElem?_replicate, if_pos (by omega)]; rfl)
      have H1 := hide (show ∀ v ∈ cs, v.oneCell' = true from by
        intro v hv; rw [← hcs] at hv; obtain ⟨_, rfl⟩ := List.mem_replicate.1 hv; rfl)
      have HSP := hide (show splice C m cs = (rowC c n (m + q)).map (Value.int .i64) from by
        unfold splice
        rw [← rowC_more c n m q hq1.2, hcl, ← hC, ← hcs]
        simp)
      rw [hC] at hrow
      have HROW := hide hrow
      have HN := hide hnx
      have HCL := hide (And.intro hcl (And.intro hCl hq))
      clear hC hcs hcl hCl hq hrow hnx
      go_wp2_with fail
      go_region_law (refine step_copy_splice rfl (.tmp 41) (.tmp 44) 22 22 rfl 3 Tryz.underlying22 hs1 (some ⟨w.heap.size, m, none⟩) (some ⟨w.heap.size, 0, none⟩) (n - m) (n - m) m n (by simp [Act.eval, Act.put]; omega) (by simp [Act.eval, Act.put]) w.heap.size m C 3 HROW.out cs (by rw [HCL.out.1, HCL.out.2.2]) (fun _ => ⟨rfl, _, rfl, HSRC.out⟩) (by rw [HCL.out.1, HCL.out.2.1]; exact hq1.2) H1.out w.heap.size w (HN.out.drew) (Nat.le_refl _) ?_; intro w4 hg4 hb4; rw [HCL.out.1])
      have hl4 := hg4.out
      rw [HSP.out] at hl4
      have HL4 := hide hl4
      clear hg4 hl4
      go_wp2_with fail
      go_roundw
      case rel => exact ⟨m + q, by omega, hq1.2, by go_num, HL4.out, hb4⟩
      case measure => simp [intOf]; omega
    · have em : m = n := by omega
      subst em
      go_wp2_with fail
      go_ret
      refine ⟨w.heap.size, rfl, rfl, ?_, hnx⟩
      rw [hrow]
      simp [rowC]
set_option maxRecDepth 100000 in
set_option maxHeartbeats 2000000 in
theorem w_RepeatC0 (c : Int) (gl : Nat) (w : World) (_hg : w.heap[gl]? = some (.cells #[.int .i64 c] 3 (0, 0))) :
    Calls Tryz.prog 140 #[.slice (some ⟨gl, 0, none⟩) 1 1, .int .i64 0] w fun e w' => ∃ g, e = .returned (.slice (some ⟨g, 0, none⟩) 0 0) ∧ g = w.heap.size ∧ w'.heap[g]? = some (.cells #[] 3 (0, 0)) ∧ Nx w w' := by
  have hmk := fun w => (show (Instr.makeSlice 22 (.int .i64 0) (.int .i64 0)).run Tryz.prog w = .ok (.slice (some ⟨w.heap.size, 0, none⟩) 0 0) (w.alloc (.cells (madeCells #[.int .i64 0] 0) 3)) from run_make_intsC 0 (by omega) w)
  rw [show madeCells #[.int .i64 0] 0 = #[] from Array.ext' (by rw [toList_madeCells_one]; rfl)] at hmk
  go_enter Tryz.func140, Tryz.ntmps140
  have hs1 : (Tryz.prog.info? 3).map (·.size) = some 1 := by kernel_rfl
  have hcp : ∀ ty, (Builtin.copy_ #[22, 22] ty #[.slice (some ⟨w.heap.size, 0, none⟩) 0 0, .slice (some ⟨gl, 0, none⟩) 1 1]).run Tryz.prog (w.alloc (.cells #[] 3)) = .ok (goInt 0) ((w.alloc (.cells #[] 3)).setRow w.heap.size #[]) := by
    intro ty
    have h := run_copy_row (P := Tryz.prog) (w.alloc (.cells #[] 3)) 22 22 ty 3 w.heap.size 0 0 0 ⟨gl, 0, none⟩ 1 1 #[] 3 [] Tryz.underlying22 hs1 (hnew rfl) (by simp) (fun j v hj => by simp at hj) (by simp) (by intro v hv; simp at hv)
    rw [h]
    rfl
  go_wp2_with (go_at_call 189; refine (w_MulUC 1 0 0 _ (by omega) (by omega) (by omega)).mono ?_; rintro e w' ⟨rfl, rfl⟩)
  refine wp_loop_rounds 1 ?_
  rw [rounds_succ]
  go_wp2_with fail
  go_ret
  refine ⟨w.heap.size, rfl, rfl, setRow_heap _ _ _ _ _ _ (hnew rfl), ?_⟩
  have h0 := (Nx.refl w).alloc (.cells #[] 3)
  refine ⟨h0.os, h0.tape, h0.output, by simp [World.setRow], fun i hi => ?_⟩
  rw [← h0.block i hi]
  simp only [World.setRow]
  rw [Array.getElem?_modify, if_neg (by omega)]
/-- slices.Repeat of [c]. -/
theorem w_RepeatC (c : Int) (n gl : Nat) (w : World) (hn2 : n ≤ 1000) (hg : w.heap[gl]? = some (.cells #[.int .i64 c] 3 (0, 0))) :
    Calls Tryz.prog 140 #[.slice (some ⟨gl, 0, none⟩) 1 1, .int .i64 (n : Int)] w fun e w' => ∃ g, e = .returned (.slice (some ⟨g, 0, none⟩) n n) ∧ g = w.heap.size ∧ w'.heap[g]? = some (.cells ((List.replicate n c).map (Value.int .i64)).toArray 3 (0, 0)) ∧ Nx w w' := by
  rcases Nat.eq_zero_or_pos n with rfl | h
  · exact w_RepeatC0 c gl w hg
  · exact w_RepeatC1 c n gl w h hn2 hg
end Go.Proofs.YtbjbeddjaajdaaaGreatDoor
