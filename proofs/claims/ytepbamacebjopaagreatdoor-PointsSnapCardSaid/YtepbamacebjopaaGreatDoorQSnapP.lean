/- The point of an arc that is nearest to a point: road.Snap (gen_snap.py). -/
import Derived.Test.YtepbamacebjopaaGreatDoorQG2
import Derived.Test.YtepbamacebjopaaGreatDoorQG5
import Derived.Test.YtepbamacebjopaaGreatDoorQG8
import Derived.Test.YtepbamacebjopaaGreatDoorQCheckR
import Derived.Test.YtepbamacebjopaaGreatDoorQG12
import Derived.Test.YtepbamacebjopaaGreatDoorQG0
import Derived.Deep.RegionHeldLaw
import Derived.Deep.DeepCutAuto
import Derived.Deep.DeepMust
namespace Go.Proofs.YtepbamacebjopaaGreatDoor
open Go.RowKit Go.Sort

def SpotAt (W : World) (b : Nat) (V : SpotV) : Prop := W.heap[b]? = some (.cells #[.string V.key, .int .i64 (V.pn : Int), .int .i64 (V.pd : Int), .int .i64 (V.fn : Int), .int .i64 (V.fd : Int)] 43 (0, 0))
theorem SpotAt.cells {W : World} {b : Nat} {V : SpotV} (h : SpotAt W b V) : W.cell? ⟨b, 0, none⟩ = some (.string V.key) ∧ W.cell? ⟨b, 1, none⟩ = some (.int .i64 (V.pn : Int)) ∧ W.cell? ⟨b, 2, none⟩ = some (.int .i64 (V.pd : Int)) ∧ W.cell? ⟨b, 3, none⟩ = some (.int .i64 (V.fn : Int)) ∧ W.cell? ⟨b, 4, none⟩ = some (.int .i64 (V.fd : Int)) := by
  unfold SpotAt at h
  refine ⟨?_, ?_, ?_, ?_, ?_⟩ <;> (rw [World.cell?, h]; rfl)
theorem SpotAt.open_ {W : World} {b : Nat} {V : SpotV} (h : SpotAt W b V) (k : Nat) : W.frozen? ⟨b, k, none⟩ = false := by
  unfold SpotAt at h
  simp [World.frozen?, h]
theorem SpotAt.put {W : World} {b : Nat} {V U : SpotV} (h : SpotAt W b V) : SpotAt (((((W.setCell ⟨b, 0, none⟩ (.string U.key)).setCell ⟨b, 1, none⟩ (.int .i64 (U.pn : Int))).setCell ⟨b, 2, none⟩ (.int .i64 (U.pd : Int))).setCell ⟨b, 3, none⟩ (.int .i64 (U.fn : Int))).setCell ⟨b, 4, none⟩ (.int .i64 (U.fd : Int))) b U := by
  unfold SpotAt at h ⊢
  simp [World.setCell, Array.getElem?_modify, h]
theorem SpotAt.key {W : World} {b : Nat} {V : SpotV} (h : SpotAt W b V) (k : ByteArray) : SpotAt (W.setCell ⟨b, 0, none⟩ (.string k)) b { V with key := k } := by
  unfold SpotAt at h ⊢
  simp [World.setCell, Array.getElem?_modify, h]
theorem SpotAt.gr {W W' : World} {b s : Nat} {V : SpotV} (h : SpotAt W b V) (hg : Gr s W W') (hs : b ≠ s) : SpotAt W' b V := (hg.block b (lt_of_heap h) (by simpa using hs)).trans h
theorem SpotAt.nx {W W' : World} {b : Nat} {V : SpotV} (h : SpotAt W b V) (hn : Nx W W') : SpotAt W' b V := (hn.block b (lt_of_heap h)).trans h
theorem SpotAt.setO {W : World} {b q i : Nat} {V : SpotV} (h : SpotAt W b V) (hq : b ≠ q) (u : Value) : SpotAt (W.setCell ⟨q, i, none⟩ u) b V := (Below.heap_setCell _ _ _ _ hq).trans h
def snapV (ns : List Node) (rs : List Arc) (x y : Int) : SpotV := bestS (fun a => spotA ns a x y) rs 0 default
theorem spotA_key (ns : List Node) (a : Arc) (x y : Int) : spotA ns a x y = { spotV ByteArray.empty ((ns.getD (nodeI ns a.to_).toNat default).x - (ns.getD (nodeI ns a.from_).toNat default).x) ((ns.getD (nodeI ns a.to_).toNat default).y - (ns.getD (nodeI ns a.from_).toNat default).y) (x - (ns.getD (nodeI ns a.from_).toNat default).x) (y - (ns.getD (nodeI ns a.from_).toNat default).y) (x - (ns.getD (nodeI ns a.to_).toNat default).x) (y - (ns.getD (nodeI ns a.to_).toNat default).y) with key := a.key } := by
  unfold spotA spotV
  dsimp only
  split
  · rfl
  · split <;> rfl
theorem spotA_bd {ns : List Node} {a : Arc} {x y : Int} (hf : 0 ≤ nodeI ns a.from_) (ht : 0 ≤ nodeI ns a.to_) (hm : ∀ n ∈ ns, OnMap n.x n.y) (hxy : OnMap x y) : BdS (spotA ns a x y) := by
  obtain ⟨i, hil, hi, _⟩ := node_found hf
  obtain ⟨j, hjl, hj, _⟩ := node_found ht
  have hgi : ns.getD i default ∈ ns := by rw [List.getD_eq_getElem?_getD, List.getElem?_eq_getElem hil]; exact List.getElem_mem hil
  have hgj : ns.getD j default ∈ ns := by rw [List.getD_eq_getElem?_getD, List.getElem?_eq_getElem hjl]; exact List.getElem_mem hjl
  obtain ⟨p1, p2, p3, p4⟩ := hm _ hgi
  obtain ⟨q1, q2, q3, q4⟩ := hm _ hgj
  obtain ⟨x1, x2, x3, x4⟩ := hxy
  unfold spotA
  rw [hi, hj]
  simp only [Int.toNat_natCast]
  exact spotV_bd (spotBd (by omega) (by omega) (by omega) (by omega) (by omega) (by omega))
theorem on_map {ns : List Node} (h : nodesF ns = 0) : ∀ n ∈ ns, OnMap n.x n.y := by
  unfold nodesF at h
  split at h
  · exact absurd h (by decide)
  · exact chk_all (F := nodeF) (Q := fun n => OnMap n.x n.y) (fun p x hx => by
      have hp : ptF x.x x.y = 0 := by
        unfold nodeF at hx
        split at hx
        · cases p with
          | none => exact hx
          | some q =>
            dsimp only at hx
            split at hx
            · exact absurd hx (by decide)
            · exact hx
        · exact absurd hx (by decide)
      unfold ptF argF at hp
      cases hb : isPtB x.x x.y with
      | false => rw [hb] at hp; exact absurd hp (by decide)
      | true =>
        obtain ⟨h1, h2⟩ := isPtB_true.1 hb
        exact ⟨h1.1, h1.2, h2.1, h2.2⟩) ns none h
set_option maxRecDepth 100000 in
set_option maxHeartbeats 8000000 in
theorem w_SnapYes (lo : Nat) (A B C : Option Addr) (ca cb cc : Nat) (ns : List Node) (rs : List Arc) (bs : List Ban) (x y : Int) (w : World)
    (hN : Rd w lo A 3 encNode ns) (hA : RdArcs w lo B rs) (hB : Rd w lo C 2 encBan bs) (hnl : ns.length ≤ 400) (hal : rs.length ≤ 400) (hbl : bs.length ≤ 400) (hS : SmallN ns) (hF : roadsF ns rs bs = 0) (hpt : isPtB x y = true) :
    Calls Tryz.prog 9 #[.agg #[.slice A ns.length ca, .slice B rs.length cb, .slice C bs.length cc], .int .i64 x, .int .i64 y] w fun e w' => e = .returned (.tuple #[spotAgg (snapV ns rs x y), .bool (decide (0 < rs.length)), .int .i64 0]) ∧ Nx w w' := by
  obtain ⟨wa, hwa⟩ : ∃ wa, wa = (w.alloc (.cells #[.slice A ns.length ca, .slice B rs.length cb, .slice C bs.length cc] 30)).alloc (.cells #[.string ⟨#[]⟩, .int .i64 0, .int .i64 0, .int .i64 0, .int .i64 0] 43) := ⟨_, rfl⟩
  have hna : Nx w wa := hwa ▸ ((Nx.refl w).alloc _).alloc _
  have hsz : wa.heap.size = w.heap.size + 2 := by rw [hwa]; simp
  have b0 : wa.cell? ⟨w.heap.size, 0, none⟩ = some (.slice A ns.length ca) := by rw [hwa]; go_simp
  have b1 : wa.cell? ⟨w.heap.size, 1, none⟩ = some (.slice B rs.length cb) := by rw [hwa]; go_simp
  have b2 : wa.cell? ⟨w.heap.size, 2, none⟩ = some (.slice C bs.length cc) := by rw [hwa]; go_simp
  have hr6 : SpotAt wa (w.heap.size + 1) default := by rw [hwa]; exact hnew (by simp)
  have hBox : BoxR wa w.heap.size lo A B C ca cb cc ns rs bs := ⟨b0, b1, b2, by omega, hN.nx hna, hA.nx hna, hB.nx hna, hnl, hal, hbl⟩
  have HC := hide (hF ▸ w_CheckRoads lo lo lo A B C ca cb cc ns rs bs wa hBox.hN hS hBox.nl hBox.hA hBox.al hBox.hB hBox.bl)
  have HP := hide (fun W => hpt ▸ w_isPointR x y W)
  obtain ⟨f1, f2, f3⟩ := roads_ok hF
  have hmap := on_map f1
  obtain ⟨h1, h2⟩ := isPtB_true.1 hpt
  have hxy : OnMap x y := ⟨h1.1, h1.2, h2.1, h2.2⟩
  have HNO := hide (fun s W (hx : Nx wa W) => w_nodeR w.heap.size lo A ca ns s W (hBox.nx hx).g0 (hBox.nx hx).hN (by omega) (sortN_of f1))
  have HAR := hide (fun k (hk : k < rs.length) => (show 0 ≤ nodeI ns rs[k].from_ ∧ 0 ≤ nodeI ns rs[k].to_ from by
    have h := arc_right f2 hk
    rw [show arcX rs k = rs[k] from arcX_get hk] at h
    exact ⟨h.1, h.2.1⟩))
  have HSB := hide (fun (a : Arc) (hf : 0 ≤ nodeI ns a.from_) (ht : 0 ≤ nodeI ns a.to_) => spotA_bd (x := x) (y := y) hf ht hmap hxy)
  have HSK := hide (fun (a : Arc) => spotA_key ns a x y)
  have HSO := hide (fun (i j : Nat) (hi : i < ns.length) (hj : j < ns.length) W => w_spotOn (ns.getD i default).key (ns.getD j default).key (ns.getD i default).x (ns.getD i default).y (ns.getD j default).x (ns.getD j default).y x y W (hmap _ (by rw [List.getD_eq_getElem?_getD, List.getElem?_eq_getElem hi]; exact List.getElem_mem hi)) (hmap _ (by rw [List.getD_eq_getElem?_getD, List.getElem?_eq_getElem hj]; exact List.getElem_mem hj)) hxy)
  obtain ⟨F, hFF⟩ : ∃ F : Arc → SpotV, F = fun a => spotA ns a x y := ⟨_, rfl⟩
  have HRES := hide (show snapV ns rs x y = bestS F rs 0 default by rw [hFF]; rfl)
  have HFA := hide (fun a => (show F a = spotA ns a x y by rw [hFF]))
  have HBD := hide (fun j (hj : j < rs.length) i b => bestS_drop F rs j hj i b)
  have HBX := hide (fun W (hx : Nx wa W) => hBox.nx hx)
  have HWA := hide hwa
  have HNA := hide hna
  have HR6 := hide hr6
  clear hwa hBox hN hA hB hF hS b0 b1 b2 hFF hmap hpt f1 f2 f3 h1 h2 hxy hr6 hna
  obtain ⟨g, hg⟩ : ∃ g, g = w.heap.size := ⟨_, rfl⟩
  have HG := hide (show wa.heap.size = g + 2 by rw [hg]; exact hsz)
  rw [← hg] at HNO HBX HR6
  clear hsz
  go_enter Tryz.func9, Tryz.ntmps9
  go_upto_region 1 with fail
  rw [← HWA.out, ← hg]
  have HG2 := hide hg
  clear HWA hg
  obtain ⟨c0, c1, c2⟩ : _ ∧ _ ∧ _ := ⟨(HBX.out wa (Nx.refl _)).g0, (HBX.out wa (Nx.refl _)).g1, (HBX.out wa (Nx.refl _)).g2⟩
  go_wp2_with fail
  refine HC.out.mono ?_
  rintro e w1 ⟨rfl, hn1⟩
  clear c0 c1 c2 HC
  go_wp2_with fail
  refine (HP.out _).mono ?_
  rintro e w2 ⟨rfl, rfl⟩
  clear HP
  have m0 : ∀ o, (w1.alloc o).cell? ⟨g, 1, none⟩ = some (.slice B rs.length cb) := fun o => (HBX.out _ (hn1.alloc o)).g1
  obtain ⟨m, hm⟩ : ∃ m, m = rs.length := ⟨_, rfl⟩
  rw [← hm] at m0
  have HM := hide hm
  clear hm
  go_wp2_with fail
  obtain ⟨bb, hbb⟩ : ∃ bb, bb = w1.heap.size := ⟨_, rfl⟩
  obtain ⟨wk, hwk⟩ : ∃ wk, wk = w1.alloc (.cells #[.string ⟨#[]⟩, .int .i64 0, .int .i64 0, .int .i64 0, .int .i64 0] 43) := ⟨_, rfl⟩
  have HBK := hide (show SpotAt wk bb default by rw [hwk]; exact hnew hbb)
  have HNK := hide (show Nx wa wk by rw [hwk]; exact hn1.alloc _)
  have HBB := hide (show wa.heap.size ≤ bb by rw [hbb]; exact hn1.sz)
  rw [← hwk, ← hbb]
  clear hwk hbb hn1 m0
  have HKG := hide (fun W (hg : Gr bb wk W) => (HNK.out.grown (row := some bb) hg (fun k e => by injection e with e; have := HBB.out; omega)))
  go_loopw [30] (fun u wr => ∃ (k : Nat) (V : SpotV), k ≤ m ∧ u = .int .i64 k ∧ Gr bb wk wr ∧ SpotAt wr bb V ∧ BdS V ∧ bestS F rs 0 default = bestS F (rs.drop k) k V) (fun u _ => m - (intOf u).toNat)
  case atStart => exact ⟨0, default, Nat.zero_le _, rfl, Gr.refl _ _, HBK.out, ⟨by decide, by decide, by decide, by decide⟩, rfl⟩
  case round =>
    obtain ⟨k, V, hk, rfl, hgw, hV, hbd, hq⟩ := hrel
    have HV := hide hV
    have HGW := hide hgw
    have HVB := hide hbd
    have HQ := hide hq
    have hxr := HKG.out wr hgw
    have HXR := hide hxr
    clear hV hgw hbd hq
    by_cases hlt : k < m
    · have hlk : k < rs.length := by have := HM.out; omega
      obtain ⟨rb, ro, hBB, _, hrb, _, hc⟩ := (HBX.out wr HXR.out).hA.1.open_ (Nx.refl wr) (by omega)
      have r0 : wr.cell? ⟨rb, ro + k * 5, none⟩ = some (.string rs[k].key) := hc k hlk 0 _ rfl
      have r1 : wr.cell? ⟨rb, ro + k * 5 + 1, none⟩ = some (.string rs[k].from_) := hc k hlk 1 _ rfl
      have r2 : wr.cell? ⟨rb, ro + k * 5 + 2, none⟩ = some (.string rs[k].to_) := hc k hlk 2 _ rfl
      have r3 : wr.cell? ⟨rb, ro + k * 5 + 3, none⟩ = some (.int .i64 rs[k].long) := hc k hlk 3 _ rfl
      have r4 : wr.cell? ⟨rb, ro + k * 5 + 4, none⟩ = some (.slice rs[k].ka rs[k].knots.length rs[k].kc) := hc k hlk 4 _ rfl
      have HDR := hide (HBD.out k hlk k V)
      obtain ⟨hf, ht⟩ := HAR.out k hlk
      clear hc
      subst hBB
      generalize rs[k] = a at *
      obtain ⟨i, hil, hi, hk1⟩ := node_found hf
      obtain ⟨j, hjl, hj, hk2⟩ := node_found ht
      have HSP := hide (HSO.out i j hil hjl)
      have HBS := hide (HSB.out a hf ht)
      have HKE := hide (HSK.out a)
      rw [hi, hj] at HKE
      simp only [Int.toNat_natCast] at HKE
      rw [← HFA.out a] at HBS HKE
      clear hk1 hk2 hf ht
      obtain ⟨nb, noff, hAA, _, hnb, _, hcn⟩ := (HBX.out wr HXR.out).hN.open_ (Nx.refl wr) (by omega)
      have hgdi : ns.getD i default = ns[i] := by rw [List.getD_eq_getElem?_getD, List.getElem?_eq_getElem hil]; rfl
      have hgdj : ns.getD j default = ns[j] := by rw [List.getD_eq_getElem?_getD, List.getElem?_eq_getElem hjl]; rfl
      have p0 : wr.cell? ⟨nb, noff + i * 3, none⟩ = some (.string (ns.getD i default).key) := by rw [hgdi]; exact hcn i hil 0 _ rfl
      have p1 : wr.cell? ⟨nb, noff + i * 3 + 1, none⟩ = some (.int .i64 (ns.getD i default).x) := by rw [hgdi]; exact hcn i hil 1 _ rfl
      have p2 : wr.cell? ⟨nb, noff + i * 3 + 2, none⟩ = some (.int .i64 (ns.getD i default).y) := by rw [hgdi]; exact hcn i hil 2 _ rfl
      have q0 : wr.cell? ⟨nb, noff + j * 3, none⟩ = some (.string (ns.getD j default).key) := by rw [hgdj]; exact hcn j hjl 0 _ rfl
      have q1 : wr.cell? ⟨nb, noff + j * 3 + 1, none⟩ = some (.int .i64 (ns.getD j default).x) := by rw [hgdj]; exact hcn j hjl 1 _ rfl
      have q2 : wr.cell? ⟨nb, noff + j * 3 + 2, none⟩ = some (.int .i64 (ns.getD j default).y) := by rw [hgdj]; exact hcn j hjl 2 _ rfl
      clear hcn hgdi hgdj
      subst hAA
      generalize ns.getD i default = p at *
      generalize ns.getD j default = q at *
      obtain ⟨ar, har⟩ : ∃ ar, ar = wr.heap.size := ⟨_, rfl⟩
      obtain ⟨w3, hw3⟩ : ∃ w3, w3 = wr.alloc (.cells #[.string a.key, .string a.from_, .string a.to_, .int .i64 a.long, .slice a.ka a.knots.length a.kc] 37) := ⟨_, rfl⟩
      have hx3 : Nx wr w3 := hw3 ▸ (Nx.refl wr).alloc _
      have hs3 : ar < w3.heap.size := by rw [hw3, har]; simp
      have a0 : w3.cell? ⟨ar, 0, none⟩ = some (.string a.key) := by rw [hw3, har]; go_simp
      have a1 : w3.cell? ⟨ar, 1, none⟩ = some (.string a.from_) := by rw [hw3, har]; go_simp
      have a2 : w3.cell? ⟨ar, 2, none⟩ = some (.string a.to_) := by rw [hw3, har]; go_simp
      have HNO2 := hide (fun s W (hx : Nx w3 W) => HNO.out s W ((HXR.out.trans hx3).trans hx))
      have hbx3 := HBX.out w3 (HXR.out.trans hx3)
      have HS := hide (fun W (hx : Nx w3 W) => (⟨(hbx3.nx hx).g0, nx_cell hx hs3 a1, nx_cell hx hs3 a2, nx_cell (hx3.trans hx) hnb p0, nx_cell (hx3.trans hx) hnb p1, nx_cell (hx3.trans hx) hnb p2, nx_cell (hx3.trans hx) hnb q0, nx_cell (hx3.trans hx) hnb q1, nx_cell (hx3.trans hx) hnb q2⟩ : W.cell? ⟨g, 0, none⟩ = some (.slice (some ⟨nb, noff, none⟩) ns.length ca) ∧ W.cell? ⟨ar, 1, none⟩ = some (.string a.from_) ∧ W.cell? ⟨ar, 2, none⟩ = some (.string a.to_) ∧ W.cell? ⟨nb, noff + i * 3, none⟩ = some (.string p.key) ∧ W.cell? ⟨nb, noff + i * 3 + 1, none⟩ = some (.int .i64 p.x) ∧ W.cell? ⟨nb, noff + i * 3 + 2, none⟩ = some (.int .i64 p.y) ∧ W.cell? ⟨nb, noff + j * 3, none⟩ = some (.string q.key) ∧ W.cell? ⟨nb, noff + j * 3 + 1, none⟩ = some (.int .i64 q.x) ∧ W.cell? ⟨nb, noff + j * 3 + 2, none⟩ = some (.int .i64 q.y)))
      have HA0 := hide (fun W (hx : Nx w3 W) => nx_cell hx hs3 a0)
      have HX3 := hide hx3
      have HW3 := hide hw3
      have HARR := hide har
      have hkm : (k : Int) < (m : Int) := by omega
      have hk0 : (0 : Int) ≤ (k : Int) := by omega
      clear hnb p0 p1 p2 q0 q1 q2 a0 a1 a2 hbx3 hx3 hs3 hxr
      clear hw3 har
      go_upto_region 10 with fail
      rw [← HW3.out, ← HARR.out]
      clear r0 r1 r2 r3 r4 HW3
      go_cut [13, 14] (fun va vb wx => ∃ P1 P2 : Nat, va = .pointer (some ⟨P1, 0, none⟩) ∧ vb = .pointer (some ⟨P2, 0, none⟩) ∧ wx.cell? ⟨P1, 0, none⟩ = some (.string p.key) ∧ wx.cell? ⟨P1, 1, none⟩ = some (.int .i64 p.x) ∧ wx.cell? ⟨P1, 2, none⟩ = some (.int .i64 p.y) ∧ wx.cell? ⟨P2, 0, none⟩ = some (.string q.key) ∧ wx.cell? ⟨P2, 1, none⟩ = some (.int .i64 q.x) ∧ wx.cell? ⟨P2, 2, none⟩ = some (.int .i64 q.y) ∧ Nx w3 wx)
      case first =>
        replace HNO := HNO2
        clear HNO2
        clear HSP HBS HKE HDR HV HQ HVB
        have i1 : (0 : Int) ≤ (i : Int) := by omega
        have i2 : (i : Int) < (ns.length : Int) := by omega
        have j1 : (0 : Int) ≤ (j : Int) := by omega
        have j2 : (j : Int) < (ns.length : Int) := by omega
        have hx : Nx w3 w3.drew := (Nx.refl w3).drew
        refine wp_region_held_drew (S := fun W => W.cell? ⟨g, 0, none⟩ = some (.slice (some ⟨nb, noff, none⟩) ns.length ca) ∧ W.cell? ⟨ar, 1, none⟩ = some (.string a.from_) ∧ W.cell? ⟨ar, 2, none⟩ = some (.string a.to_) ∧ W.cell? ⟨nb, noff + i * 3, none⟩ = some (.string p.key) ∧ W.cell? ⟨nb, noff + i * 3 + 1, none⟩ = some (.int .i64 p.x) ∧ W.cell? ⟨nb, noff + i * 3 + 2, none⟩ = some (.int .i64 p.y) ∧ W.cell? ⟨nb, noff + j * 3, none⟩ = some (.string q.key) ∧ W.cell? ⟨nb, noff + j * 3 + 1, none⟩ = some (.int .i64 q.x) ∧ W.cell? ⟨nb, noff + j * 3 + 2, none⟩ = some (.int .i64 q.y)) (by kernel_rfl) (HS.out _ hx) (fun hHeld => ?_)
        generalize w3.drew = wd at *
        refine wpAnyH_take (i := 0) (oi := ⟨some 35, _, _, _, _, _⟩) (v := ?_) rfl (by kernel_rfl) (by kernel_rfl) (by kernel_rfl) (fun _ _ _ h => h) (Or.inl ⟨by rfl, ?_⟩) (by assumption) ?_
        rotate_left 1
        · intro w hSw
          (try dsimp only at hSw)
          go_simp
          try with_reducible rfl
        try simp only [Act.put, List.setIfInBounds_toArray, List.set_cons_zero, List.set_cons_succ]
        refine wpAnyH_take (i := 1) (oi := ⟨some 36, _, _, _, _, _⟩) (v := ?_) rfl (by kernel_rfl) (by kernel_rfl) (by kernel_rfl) (fun _ _ _ h => h) (Or.inl ⟨by rfl, ?_⟩) (by assumption) ?_
        rotate_left 1
        · intro w hSw
          (try dsimp only at hSw)
          go_simp
          try with_reducible rfl
        try simp only [Act.put, List.setIfInBounds_toArray, List.set_cons_zero, List.set_cons_succ]
        refine wpAnyH_take (i := 2) (oi := ⟨some 37, _, _, _, _, _⟩) (v := ?_) rfl (by kernel_rfl) (by kernel_rfl) (by kernel_rfl) (fun _ _ _ h => h) (Or.inl ⟨by rfl, ?_⟩) (by assumption) ?_
        rotate_left 1
        · intro w hSw
          (try dsimp only at hSw)
          go_simp
          try with_reducible rfl
        try simp only [Act.put, List.setIfInBounds_toArray, List.set_cons_zero, List.set_cons_succ]
        refine wpAnyH_take (i := 3) (oi := ⟨some 38, _, _, _, _, _⟩) (v := ?_) rfl (by kernel_rfl) (by kernel_rfl) (by kernel_rfl) (fun _ _ _ h => h) (Or.inl ⟨by rfl, ?_⟩) (by assumption) ?_
        rotate_left 1
        · intro w hSw
          (try dsimp only at hSw)
          go_simp
          try with_reducible rfl
        try simp only [Act.put, List.setIfInBounds_toArray, List.set_cons_zero, List.set_cons_succ]
        refine wpAnyH_take (i := 7) (oi := ⟨some 42, _, _, _, _, _⟩) (v := ?_) rfl (by kernel_rfl) (by kernel_rfl) (by kernel_rfl) (fun _ _ _ h => h) (Or.inl ⟨by rfl, ?_⟩) (by assumption) ?_
        rotate_left 1
        · intro w hSw
          (try dsimp only at hSw)
          go_simp
          try with_reducible rfl
        try simp only [Act.put, List.setIfInBounds_toArray, List.set_cons_zero, List.set_cons_succ]
        refine wpAnyH_take (i := 8) (oi := ⟨some 43, _, _, _, _, _⟩) (v := ?_) rfl (by kernel_rfl) (by kernel_rfl) (by kernel_rfl) (fun _ _ _ h => h) (Or.inl ⟨by rfl, ?_⟩) (by assumption) ?_
        rotate_left 1
        · intro w hSw
          (try dsimp only at hSw)
          go_simp
          try with_reducible rfl
        try simp only [Act.put, List.setIfInBounds_toArray, List.set_cons_zero, List.set_cons_succ]
        refine wpAnyH_take (i := 9) (oi := ⟨some 44, _, _, _, _, _⟩) (v := ?_) rfl (by kernel_rfl) (by kernel_rfl) (by kernel_rfl) (fun _ _ _ h => h) (Or.inl ⟨by rfl, ?_⟩) (by assumption) ?_
        rotate_left 1
        · intro w hSw
          (try dsimp only at hSw)
          go_simp
          try with_reducible rfl
        try simp only [Act.put, List.setIfInBounds_toArray, List.set_cons_zero, List.set_cons_succ]
        refine wpAnyH_take (i := 10) (oi := ⟨some 45, _, _, _, _, _⟩) (v := ?_) rfl (by kernel_rfl) (by kernel_rfl) (by kernel_rfl) (fun _ _ _ h => h) (Or.inl ⟨by rfl, ?_⟩) (by assumption) ?_
        rotate_left 1
        · intro w hSw
          (try dsimp only at hSw)
          go_simp
          try with_reducible rfl
        try simp only [Act.put, List.setIfInBounds_toArray, List.set_cons_zero, List.set_cons_succ]
        refine wpAnyH_ready (rs := [4, 14, 15]) (by kernel_rfl) (by simp) ?_
        refine AllReadyH.cons rfl (fun K hK => ?_) ?_
        · skip
          go_simp
          go_at_call 34
          refine (HNO.out a.from_ (wd) hx).mono ?_
          rintro e wz1 ⟨rfl, hnz⟩
          rw [hi]
          have hz1 := hx.trans hnz
          clear hnz
          go_simp
          refine hK.out _ _ (HS.out _ hz1) (fun hHeld => ?_)
          clear hK K
          try simp only [Act.put, List.setIfInBounds_toArray, List.set_cons_zero, List.set_cons_succ]
          refine wpAnyH_take (i := 5) (oi := ⟨some 40, _, _, _, _, _⟩) (v := ?_) rfl (by kernel_rfl) (by kernel_rfl) (by kernel_rfl) (fun _ _ _ h => h) (Or.inl ⟨by rfl, ?_⟩) (by assumption) ?_
          rotate_left 1
          · intro w hSw
            (try dsimp only at hSw)
            go_simp
            try with_reducible rfl
          try simp only [Act.put, List.setIfInBounds_toArray, List.set_cons_zero, List.set_cons_succ]
          refine wpAnyH_take (i := 6) (oi := ⟨some 41, _, _, _, _, _⟩) (v := ?_) rfl (by kernel_rfl) (by kernel_rfl) (by kernel_rfl) (fun _ _ _ h => h) (Or.inl ⟨by rfl, ?_⟩) (by assumption) ?_
          rotate_left 1
          · intro w hSw
            (try dsimp only at hSw)
            go_simp
            try with_reducible rfl
          try simp only [Act.put, List.setIfInBounds_toArray, List.set_cons_zero, List.set_cons_succ]
          refine wpAnyH_ready (rs := [11, 14, 15]) (by kernel_rfl) (by simp) ?_
          refine AllReadyH.cons rfl (fun K hK => ?_) ?_
          · skip
            go_simp
            go_at_call 34
            refine (HNO.out a.to_ (wz1) hz1).mono ?_
            rintro e wz2 ⟨rfl, hnz⟩
            rw [hj]
            have hz2 := hz1.trans hnz
            clear hnz
            go_simp
            refine hK.out _ _ (HS.out _ hz2) (fun hHeld => ?_)
            clear hK K
            try simp only [Act.put, List.setIfInBounds_toArray, List.set_cons_zero, List.set_cons_succ]
            refine wpAnyH_take (i := 12) (oi := ⟨some 47, _, _, _, _, _⟩) (v := ?_) rfl (by kernel_rfl) (by kernel_rfl) (by kernel_rfl) (fun _ _ _ h => h) (Or.inl ⟨by rfl, ?_⟩) (by assumption) ?_
            rotate_left 1
            · intro w hSw
              (try dsimp only at hSw)
              go_simp
              try with_reducible rfl
            try simp only [Act.put, List.setIfInBounds_toArray, List.set_cons_zero, List.set_cons_succ]
            refine wpAnyH_take (i := 13) (oi := ⟨some 48, _, _, _, _, _⟩) (v := ?_) rfl (by kernel_rfl) (by kernel_rfl) (by kernel_rfl) (fun _ _ _ h => h) (Or.inl ⟨by rfl, ?_⟩) (by assumption) ?_
            rotate_left 1
            · intro w hSw
              (try dsimp only at hSw)
              go_simp
              try with_reducible rfl
            try simp only [Act.put, List.setIfInBounds_toArray, List.set_cons_zero, List.set_cons_succ]
            refine wpAnyH_ready (rs := [14, 15]) (by kernel_rfl) (by simp) ?_
            refine AllReadyH.cons rfl (fun K hK => ?_) ?_
            · skip
              go_simp
              obtain ⟨P0_3, hP⟩ : ∃ P, P = (wz2).heap.size := ⟨_, rfl⟩
              have HB0_3 := hide (hnew hP : ((wz2).alloc (.cells #[.string ⟨#[]⟩, .int .i64 0, .int .i64 0] 74)).heap[P0_3]? = some (.cells #[.string ⟨#[]⟩, .int .i64 0, .int .i64 0] 74 (0, 0)))
              have hz3 := hz2.alloc (.cells #[.string ⟨#[]⟩, .int .i64 0, .int .i64 0] 74)
              have hlo0 : w3.heap.size ≤ P0_3 := by rw [hP]; exact hz2.sz
              rw [← hP]
              clear hP
              generalize (wz2).alloc (.cells #[.string ⟨#[]⟩, .int .i64 0, .int .i64 0] 74) = wz3 at *
              refine hK.out _ _ (HS.out _ hz3) (fun hHeld => ?_)
              clear hK K
              try simp only [Act.put, List.setIfInBounds_toArray, List.set_cons_zero, List.set_cons_succ]
              refine wpAnyH_ready (rs := [15]) (by kernel_rfl) (by simp) ?_
              refine AllReadyH.cons rfl (fun K hK => ?_) AllReadyH.nil
              go_simp
              obtain ⟨P1_4, hP⟩ : ∃ P, P = (wz3).heap.size := ⟨_, rfl⟩
              have HB1_4 := hide (hnew hP : ((wz3).alloc (.cells #[.string ⟨#[]⟩, .int .i64 0, .int .i64 0] 74)).heap[P1_4]? = some (.cells #[.string ⟨#[]⟩, .int .i64 0, .int .i64 0] 74 (0, 0)))
              have hz4 := hz3.alloc (.cells #[.string ⟨#[]⟩, .int .i64 0, .int .i64 0] 74)
              have hlo1 : w3.heap.size ≤ P1_4 := by rw [hP]; exact hz3.sz
              have hne : P0_3 ≠ P1_4 := by have := lt_of_heap HB0_3.out; omega
              have HB0_4 := hide ((((Nx.refl (wz3)).alloc (.cells #[.string ⟨#[]⟩, .int .i64 0, .int .i64 0] 74)).block _ (lt_of_heap HB0_3.out)).trans HB0_3.out)
              rw [← hP]
              clear hP
              generalize (wz3).alloc (.cells #[.string ⟨#[]⟩, .int .i64 0, .int .i64 0] 74) = wz4 at *
              refine hK.out _ _ (HS.out _ hz4) (fun hHeld => ?_)
              clear hK K
              try simp only [Act.put, List.setIfInBounds_toArray, List.set_cons_zero, List.set_cons_succ]
              have ka0 : wz4.cell? ⟨P0_3, 0, none⟩ = some (.string ⟨#[]⟩) := by rw [World.cell?, HB0_4.out]; rfl
              have za0 : wz4.frozen? ⟨P0_3, 0, none⟩ = false := by simp [World.frozen?, HB0_4.out]
              have ka1 : wz4.cell? ⟨P0_3, 1, none⟩ = some (.int .i64 0) := by rw [World.cell?, HB0_4.out]; rfl
              have za1 : wz4.frozen? ⟨P0_3, 1, none⟩ = false := by simp [World.frozen?, HB0_4.out]
              have ka2 : wz4.cell? ⟨P0_3, 2, none⟩ = some (.int .i64 0) := by rw [World.cell?, HB0_4.out]; rfl
              have za2 : wz4.frozen? ⟨P0_3, 2, none⟩ = false := by simp [World.frozen?, HB0_4.out]
              have kb0 : wz4.cell? ⟨P1_4, 0, none⟩ = some (.string ⟨#[]⟩) := by rw [World.cell?, HB1_4.out]; rfl
              have zb0 : wz4.frozen? ⟨P1_4, 0, none⟩ = false := by simp [World.frozen?, HB1_4.out]
              have kb1 : wz4.cell? ⟨P1_4, 1, none⟩ = some (.int .i64 0) := by rw [World.cell?, HB1_4.out]; rfl
              have zb1 : wz4.frozen? ⟨P1_4, 1, none⟩ = false := by simp [World.frozen?, HB1_4.out]
              have kb2 : wz4.cell? ⟨P1_4, 2, none⟩ = some (.int .i64 0) := by rw [World.cell?, HB1_4.out]; rfl
              have zb2 : wz4.frozen? ⟨P1_4, 2, none⟩ = false := by simp [World.frozen?, HB1_4.out]
              have hne2 : P1_4 ≠ P0_3 := by omega
              refine wpAnyH_ready (rs := [16]) (by kernel_rfl) (by simp) ?_
              refine AllReadyH.cons rfl (fun K hK => ?_) AllReadyH.nil
              go_simp
              have hst0 := (((hz4.setCell (p := ⟨P0_3, 0, none⟩) hlo0 (.string p.key)).setCell (p := ⟨P0_3, 1, none⟩) hlo0 (.int .i64 p.x)).setCell (p := ⟨P0_3, 2, none⟩) hlo0 (.int .i64 p.y))
              refine hK.out _ _ (HS.out _ hst0) (fun hHeld => ?_)
              clear hK K
              try simp only [Act.put, List.setIfInBounds_toArray, List.set_cons_zero, List.set_cons_succ]
              refine wpAnyH_ready (rs := [17]) (by kernel_rfl) (by simp) ?_
              refine AllReadyH.cons rfl (fun K hK => ?_) AllReadyH.nil
              go_simp
              have hst1 := (((hst0.setCell (p := ⟨P1_4, 0, none⟩) hlo1 (.string q.key)).setCell (p := ⟨P1_4, 1, none⟩) hlo1 (.int .i64 q.x)).setCell (p := ⟨P1_4, 2, none⟩) hlo1 (.int .i64 q.y))
              refine hK.out _ _ (HS.out _ hst1) (fun hHeld => ?_)
              clear hK K
              try simp only [Act.put, List.setIfInBounds_toArray, List.set_cons_zero, List.set_cons_succ]
              refine wpAnyH_done (by kernel_rfl) ?_ _
              go_wp2
              go_meet
              refine ⟨P0_3, P1_4, rfl, rfl, ?_, ?_, ?_, ?_, ?_, ?_, hst1⟩
              all_goals (simp [World.cell?_setCell_same, World.cell?_setCell_other, ka0, ka1, ka2, kb0, kb1, kb2])
            refine AllReadyH.cons rfl (fun K hK => ?_) AllReadyH.nil
            go_simp
            obtain ⟨P1_5, hP⟩ : ∃ P, P = (wz2).heap.size := ⟨_, rfl⟩
            have HB1_5 := hide (hnew hP : ((wz2).alloc (.cells #[.string ⟨#[]⟩, .int .i64 0, .int .i64 0] 74)).heap[P1_5]? = some (.cells #[.string ⟨#[]⟩, .int .i64 0, .int .i64 0] 74 (0, 0)))
            have hz5 := hz2.alloc (.cells #[.string ⟨#[]⟩, .int .i64 0, .int .i64 0] 74)
            have hlo1 : w3.heap.size ≤ P1_5 := by rw [hP]; exact hz2.sz
            rw [← hP]
            clear hP
            generalize (wz2).alloc (.cells #[.string ⟨#[]⟩, .int .i64 0, .int .i64 0] 74) = wz5 at *
            refine hK.out _ _ (HS.out _ hz5) (fun hHeld => ?_)
            clear hK K
            try simp only [Act.put, List.setIfInBounds_toArray, List.set_cons_zero, List.set_cons_succ]
            refine wpAnyH_ready (rs := [14]) (by kernel_rfl) (by simp) ?_
            refine AllReadyH.cons rfl (fun K hK => ?_) AllReadyH.nil
            go_simp
            obtain ⟨P0_6, hP⟩ : ∃ P, P = (wz5).heap.size := ⟨_, rfl⟩
            have HB0_6 := hide (hnew hP : ((wz5).alloc (.cells #[.string ⟨#[]⟩, .int .i64 0, .int .i64 0] 74)).heap[P0_6]? = some (.cells #[.string ⟨#[]⟩, .int .i64 0, .int .i64 0] 74 (0, 0)))
            have hz6 := hz5.alloc (.cells #[.string ⟨#[]⟩, .int .i64 0, .int .i64 0] 74)
            have hlo0 : w3.heap.size ≤ P0_6 := by rw [hP]; exact hz5.sz
            have hne : P1_5 ≠ P0_6 := by have := lt_of_heap HB1_5.out; omega
            have HB1_6 := hide ((((Nx.refl (wz5)).alloc (.cells #[.string ⟨#[]⟩, .int .i64 0, .int .i64 0] 74)).block _ (lt_of_heap HB1_5.out)).trans HB1_5.out)
            rw [← hP]
            clear hP
            generalize (wz5).alloc (.cells #[.string ⟨#[]⟩, .int .i64 0, .int .i64 0] 74) = wz6 at *
            refine hK.out _ _ (HS.out _ hz6) (fun hHeld => ?_)
            clear hK K
            try simp only [Act.put, List.setIfInBounds_toArray, List.set_cons_zero, List.set_cons_succ]
            have ka0 : wz6.cell? ⟨P0_6, 0, none⟩ = some (.string ⟨#[]⟩) := by rw [World.cell?, HB0_6.out]; rfl
            have za0 : wz6.frozen? ⟨P0_6, 0, none⟩ = false := by simp [World.frozen?, HB0_6.out]
            have ka1 : wz6.cell? ⟨P0_6, 1, none⟩ = some (.int .i64 0) := by rw [World.cell?, HB0_6.out]; rfl
            have za1 : wz6.frozen? ⟨P0_6, 1, none⟩ = false := by simp [World.frozen?, HB0_6.out]
            have ka2 : wz6.cell? ⟨P0_6, 2, none⟩ = some (.int .i64 0) := by rw [World.cell?, HB0_6.out]; rfl
            have za2 : wz6.frozen? ⟨P0_6, 2, none⟩ = false := by simp [World.frozen?, HB0_6.out]
            have kb0 : wz6.cell? ⟨P1_5, 0, none⟩ = some (.string ⟨#[]⟩) := by rw [World.cell?, HB1_6.out]; rfl
            have zb0 : wz6.frozen? ⟨P1_5, 0, none⟩ = false := by simp [World.frozen?, HB1_6.out]
            have kb1 : wz6.cell? ⟨P1_5, 1, none⟩ = some (.int .i64 0) := by rw [World.cell?, HB1_6.out]; rfl
            have zb1 : wz6.frozen? ⟨P1_5, 1, none⟩ = false := by simp [World.frozen?, HB1_6.out]
            have kb2 : wz6.cell? ⟨P1_5, 2, none⟩ = some (.int .i64 0) := by rw [World.cell?, HB1_6.out]; rfl
            have zb2 : wz6.frozen? ⟨P1_5, 2, none⟩ = false := by simp [World.frozen?, HB1_6.out]
            have hne2 : P1_5 ≠ P0_6 := by omega
            refine wpAnyH_ready (rs := [16]) (by kernel_rfl) (by simp) ?_
            refine AllReadyH.cons rfl (fun K hK => ?_) AllReadyH.nil
            go_simp
            have hst0 := (((hz6.setCell (p := ⟨P0_6, 0, none⟩) hlo0 (.string p.key)).setCell (p := ⟨P0_6, 1, none⟩) hlo0 (.int .i64 p.x)).setCell (p := ⟨P0_6, 2, none⟩) hlo0 (.int .i64 p.y))
            refine hK.out _ _ (HS.out _ hst0) (fun hHeld => ?_)
            clear hK K
            try simp only [Act.put, List.setIfInBounds_toArray, List.set_cons_zero, List.set_cons_succ]
            refine wpAnyH_ready (rs := [17]) (by kernel_rfl) (by simp) ?_
            refine AllReadyH.cons rfl (fun K hK => ?_) AllReadyH.nil
            go_simp
            have hst1 := (((hst0.setCell (p := ⟨P1_5, 0, none⟩) hlo1 (.string q.key)).setCell (p := ⟨P1_5, 1, none⟩) hlo1 (.int .i64 q.x)).setCell (p := ⟨P1_5, 2, none⟩) hlo1 (.int .i64 q.y))
            refine hK.out _ _ (HS.out _ hst1) (fun hHeld => ?_)
            clear hK K
            try simp only [Act.put, List.setIfInBounds_toArray, List.set_cons_zero, List.set_cons_succ]
            refine wpAnyH_done (by kernel_rfl) ?_ _
            go_wp2
            go_meet
            refine ⟨P0_6, P1_5, rfl, rfl, ?_, ?_, ?_, ?_, ?_, ?_, hst1⟩
            all_goals (simp [World.cell?_setCell_same, World.cell?_setCell_other, ka0, ka1, ka2, kb0, kb1, kb2])
          refine AllReadyH.cons rfl (fun K hK => ?_) ?_
          · skip
            go_simp
            obtain ⟨P0_7, hP⟩ : ∃ P, P = (wz1).heap.size := ⟨_, rfl⟩
            have HB0_7 := hide (hnew hP : ((wz1).alloc (.cells #[.string ⟨#[]⟩, .int .i64 0, .int .i64 0] 74)).heap[P0_7]? = some (.cells #[.string ⟨#[]⟩, .int .i64 0, .int .i64 0] 74 (0, 0)))
            have hz7 := hz1.alloc (.cells #[.string ⟨#[]⟩, .int .i64 0, .int .i64 0] 74)
            have hlo0 : w3.heap.size ≤ P0_7 := by rw [hP]; exact hz1.sz
            rw [← hP]
            clear hP
            generalize (wz1).alloc (.cells #[.string ⟨#[]⟩, .int .i64 0, .int .i64 0] 74) = wz7 at *
            refine hK.out _ _ (HS.out _ hz7) (fun hHeld => ?_)
            clear hK K
            try simp only [Act.put, List.setIfInBounds_toArray, List.set_cons_zero, List.set_cons_succ]
            refine wpAnyH_ready (rs := [11, 15]) (by kernel_rfl) (by simp) ?_
            refine AllReadyH.cons rfl (fun K hK => ?_) ?_
            · skip
              go_simp
              go_at_call 34
              refine (HNO.out a.to_ (wz7) hz7).mono ?_
              rintro e wz8 ⟨rfl, hnz⟩
              rw [hj]
              have hz8 := hz7.trans hnz
              have HB0_8 := hide ((hnz.block _ (lt_of_heap HB0_7.out)).trans HB0_7.out)
              clear hnz
              go_simp
              refine hK.out _ _ (HS.out _ hz8) (fun hHeld => ?_)
              clear hK K
              try simp only [Act.put, List.setIfInBounds_toArray, List.set_cons_zero, List.set_cons_succ]
              refine wpAnyH_take (i := 12) (oi := ⟨some 47, _, _, _, _, _⟩) (v := ?_) rfl (by kernel_rfl) (by kernel_rfl) (by kernel_rfl) (fun _ _ _ h => h) (Or.inl ⟨by rfl, ?_⟩) (by assumption) ?_
              rotate_left 1
              · intro w hSw
                (try dsimp only at hSw)
                go_simp
                try with_reducible rfl
              try simp only [Act.put, List.setIfInBounds_toArray, List.set_cons_zero, List.set_cons_succ]
              refine wpAnyH_take (i := 13) (oi := ⟨some 48, _, _, _, _, _⟩) (v := ?_) rfl (by kernel_rfl) (by kernel_rfl) (by kernel_rfl) (fun _ _ _ h => h) (Or.inl ⟨by rfl, ?_⟩) (by assumption) ?_
              rotate_left 1
              · intro w hSw
                (try dsimp only at hSw)
                go_simp
                try with_reducible rfl
              try simp only [Act.put, List.setIfInBounds_toArray, List.set_cons_zero, List.set_cons_succ]
              refine wpAnyH_ready (rs := [15]) (by kernel_rfl) (by simp) ?_
              refine AllReadyH.cons rfl (fun K hK => ?_) AllReadyH.nil
              go_simp
              obtain ⟨P1_9, hP⟩ : ∃ P, P = (wz8).heap.size := ⟨_, rfl⟩
              have HB1_9 := hide (hnew hP : ((wz8).alloc (.cells #[.string ⟨#[]⟩, .int .i64 0, .int .i64 0] 74)).heap[P1_9]? = some (.cells #[.string ⟨#[]⟩, .int .i64 0, .int .i64 0] 74 (0, 0)))
              have hz9 := hz8.alloc (.cells #[.string ⟨#[]⟩, .int .i64 0, .int .i64 0] 74)
              have hlo1 : w3.heap.size ≤ P1_9 := by rw [hP]; exact hz8.sz
              have hne : P0_7 ≠ P1_9 := by have := lt_of_heap HB0_8.out; omega
              have HB0_9 := hide ((((Nx.refl (wz8)).alloc (.cells #[.string ⟨#[]⟩, .int .i64 0, .int .i64 0] 74)).block _ (lt_of_heap HB0_8.out)).trans HB0_8.out)
              rw [← hP]
              clear hP
              generalize (wz8).alloc (.cells #[.string ⟨#[]⟩, .int .i64 0, .int .i64 0] 74) = wz9 at *
              refine hK.out _ _ (HS.out _ hz9) (fun hHeld => ?_)
              clear hK K
              try simp only [Act.put, List.setIfInBounds_toArray, List.set_cons_zero, List.set_cons_succ]
              have ka0 : wz9.cell? ⟨P0_7, 0, none⟩ = some (.string ⟨#[]⟩) := by rw [World.cell?, HB0_9.out]; rfl
              have za0 : wz9.frozen? ⟨P0_7, 0, none⟩ = false := by simp [World.frozen?, HB0_9.out]
              have ka1 : wz9.cell? ⟨P0_7, 1, none⟩ = some (.int .i64 0) := by rw [World.cell?, HB0_9.out]; rfl
              have za1 : wz9.frozen? ⟨P0_7, 1, none⟩ = false := by simp [World.frozen?, HB0_9.out]
              have ka2 : wz9.cell? ⟨P0_7, 2, none⟩ = some (.int .i64 0) := by rw [World.cell?, HB0_9.out]; rfl
              have za2 : wz9.frozen? ⟨P0_7, 2, none⟩ = false := by simp [World.frozen?, HB0_9.out]
              have kb0 : wz9.cell? ⟨P1_9, 0, none⟩ = some (.string ⟨#[]⟩) := by rw [World.cell?, HB1_9.out]; rfl
              have zb0 : wz9.frozen? ⟨P1_9, 0, none⟩ = false := by simp [World.frozen?, HB1_9.out]
              have kb1 : wz9.cell? ⟨P1_9, 1, none⟩ = some (.int .i64 0) := by rw [World.cell?, HB1_9.out]; rfl
              have zb1 : wz9.frozen? ⟨P1_9, 1, none⟩ = false := by simp [World.frozen?, HB1_9.out]
              have kb2 : wz9.cell? ⟨P1_9, 2, none⟩ = some (.int .i64 0) := by rw [World.cell?, HB1_9.out]; rfl
              have zb2 : wz9.frozen? ⟨P1_9, 2, none⟩ = false := by simp [World.frozen?, HB1_9.out]
              have hne2 : P1_9 ≠ P0_7 := by omega
              refine wpAnyH_ready (rs := [16]) (by kernel_rfl) (by simp) ?_
              refine AllReadyH.cons rfl (fun K hK => ?_) AllReadyH.nil
              go_simp
              have hst0 := (((hz9.setCell (p := ⟨P0_7, 0, none⟩) hlo0 (.string p.key)).setCell (p := ⟨P0_7, 1, none⟩) hlo0 (.int .i64 p.x)).setCell (p := ⟨P0_7, 2, none⟩) hlo0 (.int .i64 p.y))
              refine hK.out _ _ (HS.out _ hst0) (fun hHeld => ?_)
              clear hK K
              try simp only [Act.put, List.setIfInBounds_toArray, List.set_cons_zero, List.set_cons_succ]
              refine wpAnyH_ready (rs := [17]) (by kernel_rfl) (by simp) ?_
              refine AllReadyH.cons rfl (fun K hK => ?_) AllReadyH.nil
              go_simp
              have hst1 := (((hst0.setCell (p := ⟨P1_9, 0, none⟩) hlo1 (.string q.key)).setCell (p := ⟨P1_9, 1, none⟩) hlo1 (.int .i64 q.x)).setCell (p := ⟨P1_9, 2, none⟩) hlo1 (.int .i64 q.y))
              refine hK.out _ _ (HS.out _ hst1) (fun hHeld => ?_)
              clear hK K
              try simp only [Act.put, List.setIfInBounds_toArray, List.set_cons_zero, List.set_cons_succ]
              refine wpAnyH_done (by kernel_rfl) ?_ _
              go_wp2
              go_meet
              refine ⟨P0_7, P1_9, rfl, rfl, ?_, ?_, ?_, ?_, ?_, ?_, hst1⟩
              all_goals (simp [World.cell?_setCell_same, World.cell?_setCell_other, ka0, ka1, ka2, kb0, kb1, kb2])
            refine AllReadyH.cons rfl (fun K hK => ?_) AllReadyH.nil
            go_simp
            obtain ⟨P1_10, hP⟩ : ∃ P, P = (wz7).heap.size := ⟨_, rfl⟩
            have HB1_10 := hide (hnew hP : ((wz7).alloc (.cells #[.string ⟨#[]⟩, .int .i64 0, .int .i64 0] 74)).heap[P1_10]? = some (.cells #[.string ⟨#[]⟩, .int .i64 0, .int .i64 0] 74 (0, 0)))
            have hz10 := hz7.alloc (.cells #[.string ⟨#[]⟩, .int .i64 0, .int .i64 0] 74)
            have hlo1 : w3.heap.size ≤ P1_10 := by rw [hP]; exact hz7.sz
            have hne : P0_7 ≠ P1_10 := by have := lt_of_heap HB0_7.out; omega
            have HB0_10 := hide ((((Nx.refl (wz7)).alloc (.cells #[.string ⟨#[]⟩, .int .i64 0, .int .i64 0] 74)).block _ (lt_of_heap HB0_7.out)).trans HB0_7.out)
            rw [← hP]
            clear hP
            generalize (wz7).alloc (.cells #[.string ⟨#[]⟩, .int .i64 0, .int .i64 0] 74) = wz10 at *
            refine hK.out _ _ (HS.out _ hz10) (fun hHeld => ?_)
            clear hK K
            try simp only [Act.put, List.setIfInBounds_toArray, List.set_cons_zero, List.set_cons_succ]
            refine wpAnyH_ready (rs := [11]) (by kernel_rfl) (by simp) ?_
            refine AllReadyH.cons rfl (fun K hK => ?_) AllReadyH.nil
            go_simp
            go_at_call 34
            refine (HNO.out a.to_ (wz10) hz10).mono ?_
            rintro e wz11 ⟨rfl, hnz⟩
            rw [hj]
            have hz11 := hz10.trans hnz
            have HB1_11 := hide ((hnz.block _ (lt_of_heap HB1_10.out)).trans HB1_10.out)
            have HB0_11 := hide ((hnz.block _ (lt_of_heap HB0_10.out)).trans HB0_10.out)
            clear hnz
            go_simp
            refine hK.out _ _ (HS.out _ hz11) (fun hHeld => ?_)
            clear hK K
            try simp only [Act.put, List.setIfInBounds_toArray, List.set_cons_zero, List.set_cons_succ]
            refine wpAnyH_take (i := 12) (oi := ⟨some 47, _, _, _, _, _⟩) (v := ?_) rfl (by kernel_rfl) (by kernel_rfl) (by kernel_rfl) (fun _ _ _ h => h) (Or.inl ⟨by rfl, ?_⟩) (by assumption) ?_
            rotate_left 1
            · intro w hSw
              (try dsimp only at hSw)
              go_simp
              try with_reducible rfl
            try simp only [Act.put, List.setIfInBounds_toArray, List.set_cons_zero, List.set_cons_succ]
            refine wpAnyH_take (i := 13) (oi := ⟨some 48, _, _, _, _, _⟩) (v := ?_) rfl (by kernel_rfl) (by kernel_rfl) (by kernel_rfl) (fun _ _ _ h => h) (Or.inl ⟨by rfl, ?_⟩) (by assumption) ?_
            rotate_left 1
            · intro w hSw
              (try dsimp only at hSw)
              go_simp
              try with_reducible rfl
            try simp only [Act.put, List.setIfInBounds_toArray, List.set_cons_zero, List.set_cons_succ]
            have ka0 : wz11.cell? ⟨P0_7, 0, none⟩ = some (.string ⟨#[]⟩) := by rw [World.cell?, HB0_11.out]; rfl
            have za0 : wz11.frozen? ⟨P0_7, 0, none⟩ = false := by simp [World.frozen?, HB0_11.out]
            have ka1 : wz11.cell? ⟨P0_7, 1, none⟩ = some (.int .i64 0) := by rw [World.cell?, HB0_11.out]; rfl
            have za1 : wz11.frozen? ⟨P0_7, 1, none⟩ = false := by simp [World.frozen?, HB0_11.out]
            have ka2 : wz11.cell? ⟨P0_7, 2, none⟩ = some (.int .i64 0) := by rw [World.cell?, HB0_11.out]; rfl
            have za2 : wz11.frozen? ⟨P0_7, 2, none⟩ = false := by simp [World.frozen?, HB0_11.out]
            have kb0 : wz11.cell? ⟨P1_10, 0, none⟩ = some (.string ⟨#[]⟩) := by rw [World.cell?, HB1_11.out]; rfl
            have zb0 : wz11.frozen? ⟨P1_10, 0, none⟩ = false := by simp [World.frozen?, HB1_11.out]
            have kb1 : wz11.cell? ⟨P1_10, 1, none⟩ = some (.int .i64 0) := by rw [World.cell?, HB1_11.out]; rfl
            have zb1 : wz11.frozen? ⟨P1_10, 1, none⟩ = false := by simp [World.frozen?, HB1_11.out]
            have kb2 : wz11.cell? ⟨P1_10, 2, none⟩ = some (.int .i64 0) := by rw [World.cell?, HB1_11.out]; rfl
            have zb2 : wz11.frozen? ⟨P1_10, 2, none⟩ = false := by simp [World.frozen?, HB1_11.out]
            have hne2 : P1_10 ≠ P0_7 := by omega
            refine wpAnyH_ready (rs := [16]) (by kernel_rfl) (by simp) ?_
            refine AllReadyH.cons rfl (fun K hK => ?_) AllReadyH.nil
            go_simp
            have hst0 := (((hz11.setCell (p := ⟨P0_7, 0, none⟩) hlo0 (.string p.key)).setCell (p := ⟨P0_7, 1, none⟩) hlo0 (.int .i64 p.x)).setCell (p := ⟨P0_7, 2, none⟩) hlo0 (.int .i64 p.y))
            refine hK.out _ _ (HS.out _ hst0) (fun hHeld => ?_)
            clear hK K
            try simp only [Act.put, List.setIfInBounds_toArray, List.set_cons_zero, List.set_cons_succ]
            refine wpAnyH_ready (rs := [17]) (by kernel_rfl) (by simp) ?_
            refine AllReadyH.cons rfl (fun K hK => ?_) AllReadyH.nil
            go_simp
            have hst1 := (((hst0.setCell (p := ⟨P1_10, 0, none⟩) hlo1 (.string q.key)).setCell (p := ⟨P1_10, 1, none⟩) hlo1 (.int .i64 q.x)).setCell (p := ⟨P1_10, 2, none⟩) hlo1 (.int .i64 q.y))
            refine hK.out _ _ (HS.out _ hst1) (fun hHeld => ?_)
            clear hK K
            try simp only [Act.put, List.setIfInBounds_toArray, List.set_cons_zero, List.set_cons_succ]
            refine wpAnyH_done (by kernel_rfl) ?_ _
            go_wp2
            go_meet
            refine ⟨P0_7, P1_10, rfl, rfl, ?_, ?_, ?_, ?_, ?_, ?_, hst1⟩
            all_goals (simp [World.cell?_setCell_same, World.cell?_setCell_other, ka0, ka1, ka2, kb0, kb1, kb2])
          refine AllReadyH.cons rfl (fun K hK => ?_) AllReadyH.nil
          go_simp
          obtain ⟨P1_12, hP⟩ : ∃ P, P = (wz1).heap.size := ⟨_, rfl⟩
          have HB1_12 := hide (hnew hP : ((wz1).alloc (.cells #[.string ⟨#[]⟩, .int .i64 0, .int .i64 0] 74)).heap[P1_12]? = some (.cells #[.string ⟨#[]⟩, .int .i64 0, .int .i64 0] 74 (0, 0)))
          have hz12 := hz1.alloc (.cells #[.string ⟨#[]⟩, .int .i64 0, .int .i64 0] 74)
          have hlo1 : w3.heap.size ≤ P1_12 := by rw [hP]; exact hz1.sz
          rw [← hP]
          clear hP
          generalize (wz1).alloc (.cells #[.string ⟨#[]⟩, .int .i64 0, .int .i64 0] 74) = wz12 at *
          refine hK.out _ _ (HS.out _ hz12) (fun hHeld => ?_)
          clear hK K
          try simp only [Act.put, List.setIfInBounds_toArray, List.set_cons_zero, List.set_cons_succ]
          refine wpAnyH_ready (rs := [11, 14]) (by kernel_rfl) (by simp) ?_
          refine AllReadyH.cons rfl (fun K hK => ?_) ?_
          · skip
            go_simp
            go_at_call 34
            refine (HNO.out a.to_ (wz12) hz12).mono ?_
            rintro e wz13 ⟨rfl, hnz⟩
            rw [hj]
            have hz13 := hz12.trans hnz
            have HB1_13 := hide ((hnz.block _ (lt_of_heap HB1_12.out)).trans HB1_12.out)
            clear hnz
            go_simp
            refine hK.out _ _ (HS.out _ hz13) (fun hHeld => ?_)
            clear hK K
            try simp only [Act.put, List.setIfInBounds_toArray, List.set_cons_zero, List.set_cons_succ]
            refine wpAnyH_take (i := 12) (oi := ⟨some 47, _, _, _, _, _⟩) (v := ?_) rfl (by kernel_rfl) (by kernel_rfl) (by kernel_rfl) (fun _ _ _ h => h) (Or.inl ⟨by rfl, ?_⟩) (by assumption) ?_
            rotate_left 1
            · intro w hSw
              (try dsimp only at hSw)
              go_simp
              try with_reducible rfl
            try simp only [Act.put, List.setIfInBounds_toArray, List.set_cons_zero, List.set_cons_succ]
            refine wpAnyH_take (i := 13) (oi := ⟨some 48, _, _, _, _, _⟩) (v := ?_) rfl (by kernel_rfl) (by kernel_rfl) (by kernel_rfl) (fun _ _ _ h => h) (Or.inl ⟨by rfl, ?_⟩) (by assumption) ?_
            rotate_left 1
            · intro w hSw
              (try dsimp only at hSw)
              go_simp
              try with_reducible rfl
            try simp only [Act.put, List.setIfInBounds_toArray, List.set_cons_zero, List.set_cons_succ]
            refine wpAnyH_ready (rs := [14]) (by kernel_rfl) (by simp) ?_
            refine AllReadyH.cons rfl (fun K hK => ?_) AllReadyH.nil
            go_simp
            obtain ⟨P0_14, hP⟩ : ∃ P, P = (wz13).heap.size := ⟨_, rfl⟩
            have HB0_14 := hide (hnew hP : ((wz13).alloc (.cells #[.string ⟨#[]⟩, .int .i64 0, .int .i64 0] 74)).heap[P0_14]? = some (.cells #[.string ⟨#[]⟩, .int .i64 0, .int .i64 0] 74 (0, 0)))
            have hz14 := hz13.alloc (.cells #[.string ⟨#[]⟩, .int .i64 0, .int .i64 0] 74)
            have hlo0 : w3.heap.size ≤ P0_14 := by rw [hP]; exact hz13.sz
            have hne : P1_12 ≠ P0_14 := by have := lt_of_heap HB1_13.out; omega
            have HB1_14 := hide ((((Nx.refl (wz13)).alloc (.cells #[.string ⟨#[]⟩, .int .i64 0, .int .i64 0] 74)).block _ (lt_of_heap HB1_13.out)).trans HB1_13.out)
            rw [← hP]
            clear hP
            generalize (wz13).alloc (.cells #[.string ⟨#[]⟩, .int .i64 0, .int .i64 0] 74) = wz14 at *
            refine hK.out _ _ (HS.out _ hz14) (fun hHeld => ?_)
            clear hK K
            try simp only [Act.put, List.setIfInBounds_toArray, List.set_cons_zero, List.set_cons_succ]
            have ka0 : wz14.cell? ⟨P0_14, 0, none⟩ = some (.string ⟨#[]⟩) := by rw [World.cell?, HB0_14.out]; rfl
            have za0 : wz14.frozen? ⟨P0_14, 0, none⟩ = false := by simp [World.frozen?, HB0_14.out]
            have ka1 : wz14.cell? ⟨P0_14, 1, none⟩ = some (.int .i64 0) := by rw [World.cell?, HB0_14.out]; rfl
            have za1 : wz14.frozen? ⟨P0_14, 1, none⟩ = false := by simp [World.frozen?, HB0_14.out]
            have ka2 : wz14.cell? ⟨P0_14, 2, none⟩ = some (.int .i64 0) := by rw [World.cell?, HB0_14.out]; rfl
            have za2 : wz14.frozen? ⟨P0_14, 2, none⟩ = false := by simp [World.frozen?, HB0_14.out]
            have kb0 : wz14.cell? ⟨P1_12, 0, none⟩ = some (.string ⟨#[]⟩) := by rw [World.cell?, HB1_14.out]; rfl
            have zb0 : wz14.frozen? ⟨P1_12, 0, none⟩ = false := by simp [World.frozen?, HB1_14.out]
            have kb1 : wz14.cell? ⟨P1_12, 1, none⟩ = some (.int .i64 0) := by rw [World.cell?, HB1_14.out]; rfl
            have zb1 : wz14.frozen? ⟨P1_12, 1, none⟩ = false := by simp [World.frozen?, HB1_14.out]
            have kb2 : wz14.cell? ⟨P1_12, 2, none⟩ = some (.int .i64 0) := by rw [World.cell?, HB1_14.out]; rfl
            have zb2 : wz14.frozen? ⟨P1_12, 2, none⟩ = false := by simp [World.frozen?, HB1_14.out]
            have hne2 : P1_12 ≠ P0_14 := by omega
            refine wpAnyH_ready (rs := [16]) (by kernel_rfl) (by simp) ?_
            refine AllReadyH.cons rfl (fun K hK => ?_) AllReadyH.nil
            go_simp
            have hst0 := (((hz14.setCell (p := ⟨P0_14, 0, none⟩) hlo0 (.string p.key)).setCell (p := ⟨P0_14, 1, none⟩) hlo0 (.int .i64 p.x)).setCell (p := ⟨P0_14, 2, none⟩) hlo0 (.int .i64 p.y))
            refine hK.out _ _ (HS.out _ hst0) (fun hHeld => ?_)
            clear hK K
            try simp only [Act.put, List.setIfInBounds_toArray, List.set_cons_zero, List.set_cons_succ]
            refine wpAnyH_ready (rs := [17]) (by kernel_rfl) (by simp) ?_
            refine AllReadyH.cons rfl (fun K hK => ?_) AllReadyH.nil
            go_simp
            have hst1 := (((hst0.setCell (p := ⟨P1_12, 0, none⟩) hlo1 (.string q.key)).setCell (p := ⟨P1_12, 1, none⟩) hlo1 (.int .i64 q.x)).setCell (p := ⟨P1_12, 2, none⟩) hlo1 (.int .i64 q.y))
            refine hK.out _ _ (HS.out _ hst1) (fun hHeld => ?_)
            clear hK K
            try simp only [Act.put, List.setIfInBounds_toArray, List.set_cons_zero, List.set_cons_succ]
            refine wpAnyH_done (by kernel_rfl) ?_ _
            go_wp2
            go_meet
            refine ⟨P0_14, P1_12, rfl, rfl, ?_, ?_, ?_, ?_, ?_, ?_, hst1⟩
            all_goals (simp [World.cell?_setCell_same, World.cell?_setCell_other, ka0, ka1, ka2, kb0, kb1, kb2])
          refine AllReadyH.cons rfl (fun K hK => ?_) AllReadyH.nil
          go_simp
          obtain ⟨P0_15, hP⟩ : ∃ P, P = (wz12).heap.size := ⟨_, rfl⟩
          have HB0_15 := hide (hnew hP : ((wz12).alloc (.cells #[.string ⟨#[]⟩, .int .i64 0, .int .i64 0] 74)).heap[P0_15]? = some (.cells #[.string ⟨#[]⟩, .int .i64 0, .int .i64 0] 74 (0, 0)))
          have hz15 := hz12.alloc (.cells #[.string ⟨#[]⟩, .int .i64 0, .int .i64 0] 74)
          have hlo0 : w3.heap.size ≤ P0_15 := by rw [hP]; exact hz12.sz
          have hne : P1_12 ≠ P0_15 := by have := lt_of_heap HB1_12.out; omega
          have HB1_15 := hide ((((Nx.refl (wz12)).alloc (.cells #[.string ⟨#[]⟩, .int .i64 0, .int .i64 0] 74)).block _ (lt_of_heap HB1_12.out)).trans HB1_12.out)
          rw [← hP]
          clear hP
          generalize (wz12).alloc (.cells #[.string ⟨#[]⟩, .int .i64 0, .int .i64 0] 74) = wz15 at *
          refine hK.out _ _ (HS.out _ hz15) (fun hHeld => ?_)
          clear hK K
          try simp only [Act.put, List.setIfInBounds_toArray, List.set_cons_zero, List.set_cons_succ]
          refine wpAnyH_ready (rs := [11]) (by kernel_rfl) (by simp) ?_
          refine AllReadyH.cons rfl (fun K hK => ?_) AllReadyH.nil
          go_simp
          go_at_call 34
          refine (HNO.out a.to_ (wz15) hz15).mono ?_
          rintro e wz16 ⟨rfl, hnz⟩
          rw [hj]
          have hz16 := hz15.trans hnz
          have HB0_16 := hide ((hnz.block _ (lt_of_heap HB0_15.out)).trans HB0_15.out)
          have HB1_16 := hide ((hnz.block _ (lt_of_heap HB1_15.out)).trans HB1_15.out)
          clear hnz
          go_simp
          refine hK.out _ _ (HS.out _ hz16) (fun hHeld => ?_)
          clear hK K
          try simp only [Act.put, List.setIfInBounds_toArray, List.set_cons_zero, List.set_cons_succ]
          refine wpAnyH_take (i := 12) (oi := ⟨some 47, _, _, _, _, _⟩) (v := ?_) rfl (by kernel_rfl) (by kernel_rfl) (by kernel_rfl) (fun _ _ _ h => h) (Or.inl ⟨by rfl, ?_⟩) (by assumption) ?_
          rotate_left 1
          · intro w hSw
            (try dsimp only at hSw)
            go_simp
            try with_reducible rfl
          try simp only [Act.put, List.setIfInBounds_toArray, List.set_cons_zero, List.set_cons_succ]
          refine wpAnyH_take (i := 13) (oi := ⟨some 48, _, _, _, _, _⟩) (v := ?_) rfl (by kernel_rfl) (by kernel_rfl) (by kernel_rfl) (fun _ _ _ h => h) (Or.inl ⟨by rfl, ?_⟩) (by assumption) ?_
          rotate_left 1
          · intro w hSw
            (try dsimp only at hSw)
            go_simp
            try with_reducible rfl
          try simp only [Act.put, List.setIfInBounds_toArray, List.set_cons_zero, List.set_cons_succ]
          have ka0 : wz16.cell? ⟨P0_15, 0, none⟩ = some (.string ⟨#[]⟩) := by rw [World.cell?, HB0_16.out]; rfl
          have za0 : wz16.frozen? ⟨P0_15, 0, none⟩ = false := by simp [World.frozen?, HB0_16.out]
          have ka1 : wz16.cell? ⟨P0_15, 1, none⟩ = some (.int .i64 0) := by rw [World.cell?, HB0_16.out]; rfl
          have za1 : wz16.frozen? ⟨P0_15, 1, none⟩ = false := by simp [World.frozen?, HB0_16.out]
          have ka2 : wz16.cell? ⟨P0_15, 2, none⟩ = some (.int .i64 0) := by rw [World.cell?, HB0_16.out]; rfl
          have za2 : wz16.frozen? ⟨P0_15, 2, none⟩ = false := by simp [World.frozen?, HB0_16.out]
          have kb0 : wz16.cell? ⟨P1_12, 0, none⟩ = some (.string ⟨#[]⟩) := by rw [World.cell?, HB1_16.out]; rfl
          have zb0 : wz16.frozen? ⟨P1_12, 0, none⟩ = false := by simp [World.frozen?, HB1_16.out]
          have kb1 : wz16.cell? ⟨P1_12, 1, none⟩ = some (.int .i64 0) := by rw [World.cell?, HB1_16.out]; rfl
          have zb1 : wz16.frozen? ⟨P1_12, 1, none⟩ = false := by simp [World.frozen?, HB1_16.out]
          have kb2 : wz16.cell? ⟨P1_12, 2, none⟩ = some (.int .i64 0) := by rw [World.cell?, HB1_16.out]; rfl
          have zb2 : wz16.frozen? ⟨P1_12, 2, none⟩ = false := by simp [World.frozen?, HB1_16.out]
          have hne2 : P1_12 ≠ P0_15 := by omega
          refine wpAnyH_ready (rs := [16]) (by kernel_rfl) (by simp) ?_
          refine AllReadyH.cons rfl (fun K hK => ?_) AllReadyH.nil
          go_simp
          have hst0 := (((hz16.setCell (p := ⟨P0_15, 0, none⟩) hlo0 (.string p.key)).setCell (p := ⟨P0_15, 1, none⟩) hlo0 (.int .i64 p.x)).setCell (p := ⟨P0_15, 2, none⟩) hlo0 (.int .i64 p.y))
          refine hK.out _ _ (HS.out _ hst0) (fun hHeld => ?_)
          clear hK K
          try simp only [Act.put, List.setIfInBounds_toArray, List.set_cons_zero, List.set_cons_succ]
          refine wpAnyH_ready (rs := [17]) (by kernel_rfl) (by simp) ?_
          refine AllReadyH.cons rfl (fun K hK => ?_) AllReadyH.nil
          go_simp
          have hst1 := (((hst0.setCell (p := ⟨P1_12, 0, none⟩) hlo1 (.string q.key)).setCell (p := ⟨P1_12, 1, none⟩) hlo1 (.int .i64 q.x)).setCell (p := ⟨P1_12, 2, none⟩) hlo1 (.int .i64 q.y))
          refine hK.out _ _ (HS.out _ hst1) (fun hHeld => ?_)
          clear hK K
          try simp only [Act.put, List.setIfInBounds_toArray, List.set_cons_zero, List.set_cons_succ]
          refine wpAnyH_done (by kernel_rfl) ?_ _
          go_wp2
          go_meet
          refine ⟨P0_15, P1_12, rfl, rfl, ?_, ?_, ?_, ?_, ?_, ?_, hst1⟩
          all_goals (simp [World.cell?_setCell_same, World.cell?_setCell_other, ka0, ka1, ka2, kb0, kb1, kb2])
        refine AllReadyH.cons rfl (fun K hK => ?_) ?_
        · skip
          go_simp
          obtain ⟨P0_17, hP⟩ : ∃ P, P = (wd).heap.size := ⟨_, rfl⟩
          have HB0_17 := hide (hnew hP : ((wd).alloc (.cells #[.string ⟨#[]⟩, .int .i64 0, .int .i64 0] 74)).heap[P0_17]? = some (.cells #[.string ⟨#[]⟩, .int .i64 0, .int .i64 0] 74 (0, 0)))
          have hz17 := hx.alloc (.cells #[.string ⟨#[]⟩, .int .i64 0, .int .i64 0] 74)
          have hlo0 : w3.heap.size ≤ P0_17 := by rw [hP]; exact hx.sz
          rw [← hP]
          clear hP
          generalize (wd).alloc (.cells #[.string ⟨#[]⟩, .int .i64 0, .int .i64 0] 74) = wz17 at *
          refine hK.out _ _ (HS.out _ hz17) (fun hHeld => ?_)
          clear hK K
          try simp only [Act.put, List.setIfInBounds_toArray, List.set_cons_zero, List.set_cons_succ]
          refine wpAnyH_ready (rs := [4, 15]) (by kernel_rfl) (by simp) ?_
          refine AllReadyH.cons rfl (fun K hK => ?_) ?_
          · skip
            go_simp
            go_at_call 34
            refine (HNO.out a.from_ (wz17) hz17).mono ?_
            rintro e wz18 ⟨rfl, hnz⟩
            rw [hi]
            have hz18 := hz17.trans hnz
            have HB0_18 := hide ((hnz.block _ (lt_of_heap HB0_17.out)).trans HB0_17.out)
            clear hnz
            go_simp
            refine hK.out _ _ (HS.out _ hz18) (fun hHeld => ?_)
            clear hK K
            try simp only [Act.put, List.setIfInBounds_toArray, List.set_cons_zero, List.set_cons_succ]
            refine wpAnyH_take (i := 5) (oi := ⟨some 40, _, _, _, _, _⟩) (v := ?_) rfl (by kernel_rfl) (by kernel_rfl) (by kernel_rfl) (fun _ _ _ h => h) (Or.inl ⟨by rfl, ?_⟩) (by assumption) ?_
            rotate_left 1
            · intro w hSw
              (try dsimp only at hSw)
              go_simp
              try with_reducible rfl
            try simp only [Act.put, List.setIfInBounds_toArray, List.set_cons_zero, List.set_cons_succ]
            refine wpAnyH_take (i := 6) (oi := ⟨some 41, _, _, _, _, _⟩) (v := ?_) rfl (by kernel_rfl) (by kernel_rfl) (by kernel_rfl) (fun _ _ _ h => h) (Or.inl ⟨by rfl, ?_⟩) (by assumption) ?_
            rotate_left 1
            · intro w hSw
              (try dsimp only at hSw)
              go_simp
              try with_reducible rfl
            try simp only [Act.put, List.setIfInBounds_toArray, List.set_cons_zero, List.set_cons_succ]
            refine wpAnyH_ready (rs := [11, 15]) (by kernel_rfl) (by simp) ?_
            refine AllReadyH.cons rfl (fun K hK => ?_) ?_
            · skip
              go_simp
              go_at_call 34
              refine (HNO.out a.to_ (wz18) hz18).mono ?_
              rintro e wz19 ⟨rfl, hnz⟩
              rw [hj]
              have hz19 := hz18.trans hnz
              have HB0_19 := hide ((hnz.block _ (lt_of_heap HB0_18.out)).trans HB0_18.out)
              clear hnz
              go_simp
              refine hK.out _ _ (HS.out _ hz19) (fun hHeld => ?_)
              clear hK K
              try simp only [Act.put, List.setIfInBounds_toArray, List.set_cons_zero, List.set_cons_succ]
              refine wpAnyH_take (i := 12) (oi := ⟨some 47, _, _, _, _, _⟩) (v := ?_) rfl (by kernel_rfl) (by kernel_rfl) (by kernel_rfl) (fun _ _ _ h => h) (Or.inl ⟨by rfl, ?_⟩) (by assumption) ?_
              rotate_left 1
              · intro w hSw
                (try dsimp only at hSw)
                go_simp
                try with_reducible rfl
              try simp only [Act.put, List.setIfInBounds_toArray, List.set_cons_zero, List.set_cons_succ]
              refine wpAnyH_take (i := 13) (oi := ⟨some 48, _, _, _, _, _⟩) (v := ?_) rfl (by kernel_rfl) (by kernel_rfl) (by kernel_rfl) (fun _ _ _ h => h) (Or.inl ⟨by rfl, ?_⟩) (by assumption) ?_
              rotate_left 1
              · intro w hSw
                (try dsimp only at hSw)
                go_simp
                try with_reducible rfl
              try simp only [Act.put, List.setIfInBounds_toArray, List.set_cons_zero, List.set_cons_succ]
              refine wpAnyH_ready (rs := [15]) (by kernel_rfl) (by simp) ?_
              refine AllReadyH.cons rfl (fun K hK => ?_) AllReadyH.nil
              go_simp
              obtain ⟨P1_20, hP⟩ : ∃ P, P = (wz19).heap.size := ⟨_, rfl⟩
              have HB1_20 := hide (hnew hP : ((wz19).alloc (.cells #[.string ⟨#[]⟩, .int .i64 0, .int .i64 0] 74)).heap[P1_20]? = some (.cells #[.string ⟨#[]⟩, .int .i64 0, .int .i64 0] 74 (0, 0)))
              have hz20 := hz19.alloc (.cells #[.string ⟨#[]⟩, .int .i64 0, .int .i64 0] 74)
              have hlo1 : w3.heap.size ≤ P1_20 := by rw [hP]; exact hz19.sz
              have hne : P0_17 ≠ P1_20 := by have := lt_of_heap HB0_19.out; omega
              have HB0_20 := hide ((((Nx.refl (wz19)).alloc (.cells #[.string ⟨#[]⟩, .int .i64 0, .int .i64 0] 74)).block _ (lt_of_heap HB0_19.out)).trans HB0_19.out)
              rw [← hP]
              clear hP
              generalize (wz19).alloc (.cells #[.string ⟨#[]⟩, .int .i64 0, .int .i64 0] 74) = wz20 at *
              refine hK.out _ _ (HS.out _ hz20) (fun hHeld => ?_)
              clear hK K
              try simp only [Act.put, List.setIfInBounds_toArray, List.set_cons_zero, List.set_cons_succ]
              have ka0 : wz20.cell? ⟨P0_17, 0, none⟩ = some (.string ⟨#[]⟩) := by rw [World.cell?, HB0_20.out]; rfl
              have za0 : wz20.frozen? ⟨P0_17, 0, none⟩ = false := by simp [World.frozen?, HB0_20.out]
              have ka1 : wz20.cell? ⟨P0_17, 1, none⟩ = some (.int .i64 0) := by rw [World.cell?, HB0_20.out]; rfl
              have za1 : wz20.frozen? ⟨P0_17, 1, none⟩ = false := by simp [World.frozen?, HB0_20.out]
              have ka2 : wz20.cell? ⟨P0_17, 2, none⟩ = some (.int .i64 0) := by rw [World.cell?, HB0_20.out]; rfl
              have za2 : wz20.frozen? ⟨P0_17, 2, none⟩ = false := by simp [World.frozen?, HB0_20.out]
              have kb0 : wz20.cell? ⟨P1_20, 0, none⟩ = some (.string ⟨#[]⟩) := by rw [World.cell?, HB1_20.out]; rfl
              have zb0 : wz20.frozen? ⟨P1_20, 0, none⟩ = false := by simp [World.frozen?, HB1_20.out]
              have kb1 : wz20.cell? ⟨P1_20, 1, none⟩ = some (.int .i64 0) := by rw [World.cell?, HB1_20.out]; rfl
              have zb1 : wz20.frozen? ⟨P1_20, 1, none⟩ = false := by simp [World.frozen?, HB1_20.out]
              have kb2 : wz20.cell? ⟨P1_20, 2, none⟩ = some (.int .i64 0) := by rw [World.cell?, HB1_20.out]; rfl
              have zb2 : wz20.frozen? ⟨P1_20, 2, none⟩ = false := by simp [World.frozen?, HB1_20.out]
              have hne2 : P1_20 ≠ P0_17 := by omega
              refine wpAnyH_ready (rs := [16]) (by kernel_rfl) (by simp) ?_
              refine AllReadyH.cons rfl (fun K hK => ?_) AllReadyH.nil
              go_simp
              have hst0 := (((hz20.setCell (p := ⟨P0_17, 0, none⟩) hlo0 (.string p.key)).setCell (p := ⟨P0_17, 1, none⟩) hlo0 (.int .i64 p.x)).setCell (p := ⟨P0_17, 2, none⟩) hlo0 (.int .i64 p.y))
              refine hK.out _ _ (HS.out _ hst0) (fun hHeld => ?_)
              clear hK K
              try simp only [Act.put, List.setIfInBounds_toArray, List.set_cons_zero, List.set_cons_succ]
              refine wpAnyH_ready (rs := [17]) (by kernel_rfl) (by simp) ?_
              refine AllReadyH.cons rfl (fun K hK => ?_) AllReadyH.nil
              go_simp
              have hst1 := (((hst0.setCell (p := ⟨P1_20, 0, none⟩) hlo1 (.string q.key)).setCell (p := ⟨P1_20, 1, none⟩) hlo1 (.int .i64 q.x)).setCell (p := ⟨P1_20, 2, none⟩) hlo1 (.int .i64 q.y))
              refine hK.out _ _ (HS.out _ hst1) (fun hHeld => ?_)
              clear hK K
              try simp only [Act.put, List.setIfInBounds_toArray, List.set_cons_zero, List.set_cons_succ]
              refine wpAnyH_done (by kernel_rfl) ?_ _
              go_wp2
              go_meet
              refine ⟨P0_17, P1_20, rfl, rfl, ?_, ?_, ?_, ?_, ?_, ?_, hst1⟩
              all_goals (simp [World.cell?_setCell_same, World.cell?_setCell_other, ka0, ka1, ka2, kb0, kb1, kb2])
            refine AllReadyH.cons rfl (fun K hK => ?_) AllReadyH.nil
            go_simp
            obtain ⟨P1_21, hP⟩ : ∃ P, P = (wz18).heap.size := ⟨_, rfl⟩
            have HB1_21 := hide (hnew hP : ((wz18).alloc (.cells #[.string ⟨#[]⟩, .int .i64 0, .int .i64 0] 74)).heap[P1_21]? = some (.cells #[.string ⟨#[]⟩, .int .i64 0, .int .i64 0] 74 (0, 0)))
            have hz21 := hz18.alloc (.cells #[.string ⟨#[]⟩, .int .i64 0, .int .i64 0] 74)
            have hlo1 : w3.heap.size ≤ P1_21 := by rw [hP]; exact hz18.sz
            have hne : P0_17 ≠ P1_21 := by have := lt_of_heap HB0_18.out; omega
            have HB0_21 := hide ((((Nx.refl (wz18)).alloc (.cells #[.string ⟨#[]⟩, .int .i64 0, .int .i64 0] 74)).block _ (lt_of_heap HB0_18.out)).trans HB0_18.out)
            rw [← hP]
            clear hP
            generalize (wz18).alloc (.cells #[.string ⟨#[]⟩, .int .i64 0, .int .i64 0] 74) = wz21 at *
            refine hK.out _ _ (HS.out _ hz21) (fun hHeld => ?_)
            clear hK K
            try simp only [Act.put, List.setIfInBounds_toArray, List.set_cons_zero, List.set_cons_succ]
            refine wpAnyH_ready (rs := [11]) (by kernel_rfl) (by simp) ?_
            refine AllReadyH.cons rfl (fun K hK => ?_) AllReadyH.nil
            go_simp
            go_at_call 34
            refine (HNO.out a.to_ (wz21) hz21).mono ?_
            rintro e wz22 ⟨rfl, hnz⟩
            rw [hj]
            have hz22 := hz21.trans hnz
            have HB1_22 := hide ((hnz.block _ (lt_of_heap HB1_21.out)).trans HB1_21.out)
            have HB0_22 := hide ((hnz.block _ (lt_of_heap HB0_21.out)).trans HB0_21.out)
            clear hnz
            go_simp
            refine hK.out _ _ (HS.out _ hz22) (fun hHeld => ?_)
            clear hK K
            try simp only [Act.put, List.setIfInBounds_toArray, List.set_cons_zero, List.set_cons_succ]
            refine wpAnyH_take (i := 12) (oi := ⟨some 47, _, _, _, _, _⟩) (v := ?_) rfl (by kernel_rfl) (by kernel_rfl) (by kernel_rfl) (fun _ _ _ h => h) (Or.inl ⟨by rfl, ?_⟩) (by assumption) ?_
            rotate_left 1
            · intro w hSw
              (try dsimp only at hSw)
              go_simp
              try with_reducible rfl
            try simp only [Act.put, List.setIfInBounds_toArray, List.set_cons_zero, List.set_cons_succ]
            refine wpAnyH_take (i := 13) (oi := ⟨some 48, _, _, _, _, _⟩) (v := ?_) rfl (by kernel_rfl) (by kernel_rfl) (by kernel_rfl) (fun _ _ _ h => h) (Or.inl ⟨by rfl, ?_⟩) (by assumption) ?_
            rotate_left 1
            · intro w hSw
              (try dsimp only at hSw)
              go_simp
              try with_reducible rfl
            try simp only [Act.put, List.setIfInBounds_toArray, List.set_cons_zero, List.set_cons_succ]
            have ka0 : wz22.cell? ⟨P0_17, 0, none⟩ = some (.string ⟨#[]⟩) := by rw [World.cell?, HB0_22.out]; rfl
            have za0 : wz22.frozen? ⟨P0_17, 0, none⟩ = false := by simp [World.frozen?, HB0_22.out]
            have ka1 : wz22.cell? ⟨P0_17, 1, none⟩ = some (.int .i64 0) := by rw [World.cell?, HB0_22.out]; rfl
            have za1 : wz22.frozen? ⟨P0_17, 1, none⟩ = false := by simp [World.frozen?, HB0_22.out]
            have ka2 : wz22.cell? ⟨P0_17, 2, none⟩ = some (.int .i64 0) := by rw [World.cell?, HB0_22.out]; rfl
            have za2 : wz22.frozen? ⟨P0_17, 2, none⟩ = false := by simp [World.frozen?, HB0_22.out]
            have kb0 : wz22.cell? ⟨P1_21, 0, none⟩ = some (.string ⟨#[]⟩) := by rw [World.cell?, HB1_22.out]; rfl
            have zb0 : wz22.frozen? ⟨P1_21, 0, none⟩ = false := by simp [World.frozen?, HB1_22.out]
            have kb1 : wz22.cell? ⟨P1_21, 1, none⟩ = some (.int .i64 0) := by rw [World.cell?, HB1_22.out]; rfl
            have zb1 : wz22.frozen? ⟨P1_21, 1, none⟩ = false := by simp [World.frozen?, HB1_22.out]
            have kb2 : wz22.cell? ⟨P1_21, 2, none⟩ = some (.int .i64 0) := by rw [World.cell?, HB1_22.out]; rfl
            have zb2 : wz22.frozen? ⟨P1_21, 2, none⟩ = false := by simp [World.frozen?, HB1_22.out]
            have hne2 : P1_21 ≠ P0_17 := by omega
            refine wpAnyH_ready (rs := [16]) (by kernel_rfl) (by simp) ?_
            refine AllReadyH.cons rfl (fun K hK => ?_) AllReadyH.nil
            go_simp
            have hst0 := (((hz22.setCell (p := ⟨P0_17, 0, none⟩) hlo0 (.string p.key)).setCell (p := ⟨P0_17, 1, none⟩) hlo0 (.int .i64 p.x)).setCell (p := ⟨P0_17, 2, none⟩) hlo0 (.int .i64 p.y))
            refine hK.out _ _ (HS.out _ hst0) (fun hHeld => ?_)
            clear hK K
            try simp only [Act.put, List.setIfInBounds_toArray, List.set_cons_zero, List.set_cons_succ]
            refine wpAnyH_ready (rs := [17]) (by kernel_rfl) (by simp) ?_
            refine AllReadyH.cons rfl (fun K hK => ?_) AllReadyH.nil
            go_simp
            have hst1 := (((hst0.setCell (p := ⟨P1_21, 0, none⟩) hlo1 (.string q.key)).setCell (p := ⟨P1_21, 1, none⟩) hlo1 (.int .i64 q.x)).setCell (p := ⟨P1_21, 2, none⟩) hlo1 (.int .i64 q.y))
            refine hK.out _ _ (HS.out _ hst1) (fun hHeld => ?_)
            clear hK K
            try simp only [Act.put, List.setIfInBounds_toArray, List.set_cons_zero, List.set_cons_succ]
            refine wpAnyH_done (by kernel_rfl) ?_ _
            go_wp2
            go_meet
            refine ⟨P0_17, P1_21, rfl, rfl, ?_, ?_, ?_, ?_, ?_, ?_, hst1⟩
            all_goals (simp [World.cell?_setCell_same, World.cell?_setCell_other, ka0, ka1, ka2, kb0, kb1, kb2])
          refine AllReadyH.cons rfl (fun K hK => ?_) AllReadyH.nil
          go_simp
          obtain ⟨P1_23, hP⟩ : ∃ P, P = (wz17).heap.size := ⟨_, rfl⟩
          have HB1_23 := hide (hnew hP : ((wz17).alloc (.cells #[.string ⟨#[]⟩, .int .i64 0, .int .i64 0] 74)).heap[P1_23]? = some (.cells #[.string ⟨#[]⟩, .int .i64 0, .int .i64 0] 74 (0, 0)))
          have hz23 := hz17.alloc (.cells #[.string ⟨#[]⟩, .int .i64 0, .int .i64 0] 74)
          have hlo1 : w3.heap.size ≤ P1_23 := by rw [hP]; exact hz17.sz
          have hne : P0_17 ≠ P1_23 := by have := lt_of_heap HB0_17.out; omega
          have HB0_23 := hide ((((Nx.refl (wz17)).alloc (.cells #[.string ⟨#[]⟩, .int .i64 0, .int .i64 0] 74)).block _ (lt_of_heap HB0_17.out)).trans HB0_17.out)
          rw [← hP]
          clear hP
          generalize (wz17).alloc (.cells #[.string ⟨#[]⟩, .int .i64 0, .int .i64 0] 74) = wz23 at *
          refine hK.out _ _ (HS.out _ hz23) (fun hHeld => ?_)
          clear hK K
          try simp only [Act.put, List.setIfInBounds_toArray, List.set_cons_zero, List.set_cons_succ]
          refine wpAnyH_ready (rs := [4]) (by kernel_rfl) (by simp) ?_
          refine AllReadyH.cons rfl (fun K hK => ?_) AllReadyH.nil
          go_simp
          go_at_call 34
          refine (HNO.out a.from_ (wz23) hz23).mono ?_
          rintro e wz24 ⟨rfl, hnz⟩
          rw [hi]
          have hz24 := hz23.trans hnz
          have HB1_24 := hide ((hnz.block _ (lt_of_heap HB1_23.out)).trans HB1_23.out)
          have HB0_24 := hide ((hnz.block _ (lt_of_heap HB0_23.out)).trans HB0_23.out)
          clear hnz
          go_simp
          refine hK.out _ _ (HS.out _ hz24) (fun hHeld => ?_)
          clear hK K
          try simp only [Act.put, List.setIfInBounds_toArray, List.set_cons_zero, List.set_cons_succ]
          refine wpAnyH_take (i := 5) (oi := ⟨some 40, _, _, _, _, _⟩) (v := ?_) rfl (by kernel_rfl) (by kernel_rfl) (by kernel_rfl) (fun _ _ _ h => h) (Or.inl ⟨by rfl, ?_⟩) (by assumption) ?_
          rotate_left 1
          · intro w hSw
            (try dsimp only at hSw)
            go_simp
            try with_reducible rfl
          try simp only [Act.put, List.setIfInBounds_toArray, List.set_cons_zero, List.set_cons_succ]
          refine wpAnyH_take (i := 6) (oi := ⟨some 41, _, _, _, _, _⟩) (v := ?_) rfl (by kernel_rfl) (by kernel_rfl) (by kernel_rfl) (fun _ _ _ h => h) (Or.inl ⟨by rfl, ?_⟩) (by assumption) ?_
          rotate_left 1
          · intro w hSw
            (try dsimp only at hSw)
            go_simp
            try with_reducible rfl
          try simp only [Act.put, List.setIfInBounds_toArray, List.set_cons_zero, List.set_cons_succ]
          refine wpAnyH_ready (rs := [11]) (by kernel_rfl) (by simp) ?_
          refine AllReadyH.cons rfl (fun K hK => ?_) AllReadyH.nil
          go_simp
          go_at_call 34
          refine (HNO.out a.to_ (wz24) hz24).mono ?_
          rintro e wz25 ⟨rfl, hnz⟩
          rw [hj]
          have hz25 := hz24.trans hnz
          have HB1_25 := hide ((hnz.block _ (lt_of_heap HB1_24.out)).trans HB1_24.out)
          have HB0_25 := hide ((hnz.block _ (lt_of_heap HB0_24.out)).trans HB0_24.out)
          clear hnz
          go_simp
          refine hK.out _ _ (HS.out _ hz25) (fun hHeld => ?_)
          clear hK K
          try simp only [Act.put, List.setIfInBounds_toArray, List.set_cons_zero, List.set_cons_succ]
          refine wpAnyH_take (i := 12) (oi := ⟨some 47, _, _, _, _, _⟩) (v := ?_) rfl (by kernel_rfl) (by kernel_rfl) (by kernel_rfl) (fun _ _ _ h => h) (Or.inl ⟨by rfl, ?_⟩) (by assumption) ?_
          rotate_left 1
          · intro w hSw
            (try dsimp only at hSw)
            go_simp
            try with_reducible rfl
          try simp only [Act.put, List.setIfInBounds_toArray, List.set_cons_zero, List.set_cons_succ]
          refine wpAnyH_take (i := 13) (oi := ⟨some 48, _, _, _, _, _⟩) (v := ?_) rfl (by kernel_rfl) (by kernel_rfl) (by kernel_rfl) (fun _ _ _ h => h) (Or.inl ⟨by rfl, ?_⟩) (by assumption) ?_
          rotate_left 1
          · intro w hSw
            (try dsimp only at hSw)
            go_simp
            try with_reducible rfl
          try simp only [Act.put, List.setIfInBounds_toArray, List.set_cons_zero, List.set_cons_succ]
          have ka0 : wz25.cell? ⟨P0_17, 0, none⟩ = some (.string ⟨#[]⟩) := by rw [World.cell?, HB0_25.out]; rfl
          have za0 : wz25.frozen? ⟨P0_17, 0, none⟩ = false := by simp [World.frozen?, HB0_25.out]
          have ka1 : wz25.cell? ⟨P0_17, 1, none⟩ = some (.int .i64 0) := by rw [World.cell?, HB0_25.out]; rfl
          have za1 : wz25.frozen? ⟨P0_17, 1, none⟩ = false := by simp [World.frozen?, HB0_25.out]
          have ka2 : wz25.cell? ⟨P0_17, 2, none⟩ = some (.int .i64 0) := by rw [World.cell?, HB0_25.out]; rfl
          have za2 : wz25.frozen? ⟨P0_17, 2, none⟩ = false := by simp [World.frozen?, HB0_25.out]
          have kb0 : wz25.cell? ⟨P1_23, 0, none⟩ = some (.string ⟨#[]⟩) := by rw [World.cell?, HB1_25.out]; rfl
          have zb0 : wz25.frozen? ⟨P1_23, 0, none⟩ = false := by simp [World.frozen?, HB1_25.out]
          have kb1 : wz25.cell? ⟨P1_23, 1, none⟩ = some (.int .i64 0) := by rw [World.cell?, HB1_25.out]; rfl
          have zb1 : wz25.frozen? ⟨P1_23, 1, none⟩ = false := by simp [World.frozen?, HB1_25.out]
          have kb2 : wz25.cell? ⟨P1_23, 2, none⟩ = some (.int .i64 0) := by rw [World.cell?, HB1_25.out]; rfl
          have zb2 : wz25.frozen? ⟨P1_23, 2, none⟩ = false := by simp [World.frozen?, HB1_25.out]
          have hne2 : P1_23 ≠ P0_17 := by omega
          refine wpAnyH_ready (rs := [16]) (by kernel_rfl) (by simp) ?_
          refine AllReadyH.cons rfl (fun K hK => ?_) AllReadyH.nil
          go_simp
          have hst0 := (((hz25.setCell (p := ⟨P0_17, 0, none⟩) hlo0 (.string p.key)).setCell (p := ⟨P0_17, 1, none⟩) hlo0 (.int .i64 p.x)).setCell (p := ⟨P0_17, 2, none⟩) hlo0 (.int .i64 p.y))
          refine hK.out _ _ (HS.out _ hst0) (fun hHeld => ?_)
          clear hK K
          try simp only [Act.put, List.setIfInBounds_toArray, List.set_cons_zero, List.set_cons_succ]
          refine wpAnyH_ready (rs := [17]) (by kernel_rfl) (by simp) ?_
          refine AllReadyH.cons rfl (fun K hK => ?_) AllReadyH.nil
          go_simp
          have hst1 := (((hst0.setCell (p := ⟨P1_23, 0, none⟩) hlo1 (.string q.key)).setCell (p := ⟨P1_23, 1, none⟩) hlo1 (.int .i64 q.x)).setCell (p := ⟨P1_23, 2, none⟩) hlo1 (.int .i64 q.y))
          refine hK.out _ _ (HS.out _ hst1) (fun hHeld => ?_)
          clear hK K
          try simp only [Act.put, List.setIfInBounds_toArray, List.set_cons_zero, List.set_cons_succ]
          refine wpAnyH_done (by kernel_rfl) ?_ _
          go_wp2
          go_meet
          refine ⟨P0_17, P1_23, rfl, rfl, ?_, ?_, ?_, ?_, ?_, ?_, hst1⟩
          all_goals (simp [World.cell?_setCell_same, World.cell?_setCell_other, ka0, ka1, ka2, kb0, kb1, kb2])
        refine AllReadyH.cons rfl (fun K hK => ?_) AllReadyH.nil
        go_simp
        obtain ⟨P1_26, hP⟩ : ∃ P, P = (wd).heap.size := ⟨_, rfl⟩
        have HB1_26 := hide (hnew hP : ((wd).alloc (.cells #[.string ⟨#[]⟩, .int .i64 0, .int .i64 0] 74)).heap[P1_26]? = some (.cells #[.string ⟨#[]⟩, .int .i64 0, .int .i64 0] 74 (0, 0)))
        have hz26 := hx.alloc (.cells #[.string ⟨#[]⟩, .int .i64 0, .int .i64 0] 74)
        have hlo1 : w3.heap.size ≤ P1_26 := by rw [hP]; exact hx.sz
        rw [← hP]
        clear hP
        generalize (wd).alloc (.cells #[.string ⟨#[]⟩, .int .i64 0, .int .i64 0] 74) = wz26 at *
        refine hK.out _ _ (HS.out _ hz26) (fun hHeld => ?_)
        clear hK K
        try simp only [Act.put, List.setIfInBounds_toArray, List.set_cons_zero, List.set_cons_succ]
        refine wpAnyH_ready (rs := [4, 14]) (by kernel_rfl) (by simp) ?_
        refine AllReadyH.cons rfl (fun K hK => ?_) ?_
        · skip
          go_simp
          go_at_call 34
          refine (HNO.out a.from_ (wz26) hz26).mono ?_
          rintro e wz27 ⟨rfl, hnz⟩
          rw [hi]
          have hz27 := hz26.trans hnz
          have HB1_27 := hide ((hnz.block _ (lt_of_heap HB1_26.out)).trans HB1_26.out)
          clear hnz
          go_simp
          refine hK.out _ _ (HS.out _ hz27) (fun hHeld => ?_)
          clear hK K
          try simp only [Act.put, List.setIfInBounds_toArray, List.set_cons_zero, List.set_cons_succ]
          refine wpAnyH_take (i := 5) (oi := ⟨some 40, _, _, _, _, _⟩) (v := ?_) rfl (by kernel_rfl) (by kernel_rfl) (by kernel_rfl) (fun _ _ _ h => h) (Or.inl ⟨by rfl, ?_⟩) (by assumption) ?_
          rotate_left 1
          · intro w hSw
            (try dsimp only at hSw)
            go_simp
            try with_reducible rfl
          try simp only [Act.put, List.setIfInBounds_toArray, List.set_cons_zero, List.set_cons_succ]
          refine wpAnyH_take (i := 6) (oi := ⟨some 41, _, _, _, _, _⟩) (v := ?_) rfl (by kernel_rfl) (by kernel_rfl) (by kernel_rfl) (fun _ _ _ h => h) (Or.inl ⟨by rfl, ?_⟩) (by assumption) ?_
          rotate_left 1
          · intro w hSw
            (try dsimp only at hSw)
            go_simp
            try with_reducible rfl
          try simp only [Act.put, List.setIfInBounds_toArray, List.set_cons_zero, List.set_cons_succ]
          refine wpAnyH_ready (rs := [11, 14]) (by kernel_rfl) (by simp) ?_
          refine AllReadyH.cons rfl (fun K hK => ?_) ?_
          · skip
            go_simp
            go_at_call 34
            refine (HNO.out a.to_ (wz27) hz27).mono ?_
            rintro e wz28 ⟨rfl, hnz⟩
            rw [hj]
            have hz28 := hz27.trans hnz
            have HB1_28 := hide ((hnz.block _ (lt_of_heap HB1_27.out)).trans HB1_27.out)
            clear hnz
            go_simp
            refine hK.out _ _ (HS.out _ hz28) (fun hHeld => ?_)
            clear hK K
            try simp only [Act.put, List.setIfInBounds_toArray, List.set_cons_zero, List.set_cons_succ]
            refine wpAnyH_take (i := 12) (oi := ⟨some 47, _, _, _, _, _⟩) (v := ?_) rfl (by kernel_rfl) (by kernel_rfl) (by kernel_rfl) (fun _ _ _ h => h) (Or.inl ⟨by rfl, ?_⟩) (by assumption) ?_
            rotate_left 1
            · intro w hSw
              (try dsimp only at hSw)
              go_simp
              try with_reducible rfl
            try simp only [Act.put, List.setIfInBounds_toArray, List.set_cons_zero, List.set_cons_succ]
            refine wpAnyH_take (i := 13) (oi := ⟨some 48, _, _, _, _, _⟩) (v := ?_) rfl (by kernel_rfl) (by kernel_rfl) (by kernel_rfl) (fun _ _ _ h => h) (Or.inl ⟨by rfl, ?_⟩) (by assumption) ?_
            rotate_left 1
            · intro w hSw
              (try dsimp only at hSw)
              go_simp
              try with_reducible rfl
            try simp only [Act.put, List.setIfInBounds_toArray, List.set_cons_zero, List.set_cons_succ]
            refine wpAnyH_ready (rs := [14]) (by kernel_rfl) (by simp) ?_
            refine AllReadyH.cons rfl (fun K hK => ?_) AllReadyH.nil
            go_simp
            obtain ⟨P0_29, hP⟩ : ∃ P, P = (wz28).heap.size := ⟨_, rfl⟩
            have HB0_29 := hide (hnew hP : ((wz28).alloc (.cells #[.string ⟨#[]⟩, .int .i64 0, .int .i64 0] 74)).heap[P0_29]? = some (.cells #[.string ⟨#[]⟩, .int .i64 0, .int .i64 0] 74 (0, 0)))
            have hz29 := hz28.alloc (.cells #[.string ⟨#[]⟩, .int .i64 0, .int .i64 0] 74)
            have hlo0 : w3.heap.size ≤ P0_29 := by rw [hP]; exact hz28.sz
            have hne : P1_26 ≠ P0_29 := by have := lt_of_heap HB1_28.out; omega
            have HB1_29 := hide ((((Nx.refl (wz28)).alloc (.cells #[.string ⟨#[]⟩, .int .i64 0, .int .i64 0] 74)).block _ (lt_of_heap HB1_28.out)).trans HB1_28.out)
            rw [← hP]
            clear hP
            generalize (wz28).alloc (.cells #[.string ⟨#[]⟩, .int .i64 0, .int .i64 0] 74) = wz29 at *
            refine hK.out _ _ (HS.out _ hz29) (fun hHeld => ?_)
            clear hK K
            try simp only [Act.put, List.setIfInBounds_toArray, List.set_cons_zero, List.set_cons_succ]
            have ka0 : wz29.cell? ⟨P0_29, 0, none⟩ = some (.string ⟨#[]⟩) := by rw [World.cell?, HB0_29.out]; rfl
            have za0 : wz29.frozen? ⟨P0_29, 0, none⟩ = false := by simp [World.frozen?, HB0_29.out]
            have ka1 : wz29.cell? ⟨P0_29, 1, none⟩ = some (.int .i64 0) := by rw [World.cell?, HB0_29.out]; rfl
            have za1 : wz29.frozen? ⟨P0_29, 1, none⟩ = false := by simp [World.frozen?, HB0_29.out]
            have ka2 : wz29.cell? ⟨P0_29, 2, none⟩ = some (.int .i64 0) := by rw [World.cell?, HB0_29.out]; rfl
            have za2 : wz29.frozen? ⟨P0_29, 2, none⟩ = false := by simp [World.frozen?, HB0_29.out]
            have kb0 : wz29.cell? ⟨P1_26, 0, none⟩ = some (.string ⟨#[]⟩) := by rw [World.cell?, HB1_29.out]; rfl
            have zb0 : wz29.frozen? ⟨P1_26, 0, none⟩ = false := by simp [World.frozen?, HB1_29.out]
            have kb1 : wz29.cell? ⟨P1_26, 1, none⟩ = some (.int .i64 0) := by rw [World.cell?, HB1_29.out]; rfl
            have zb1 : wz29.frozen? ⟨P1_26, 1, none⟩ = false := by simp [World.frozen?, HB1_29.out]
            have kb2 : wz29.cell? ⟨P1_26, 2, none⟩ = some (.int .i64 0) := by rw [World.cell?, HB1_29.out]; rfl
            have zb2 : wz29.frozen? ⟨P1_26, 2, none⟩ = false := by simp [World.frozen?, HB1_29.out]
            have hne2 : P1_26 ≠ P0_29 := by omega
            refine wpAnyH_ready (rs := [16]) (by kernel_rfl) (by simp) ?_
            refine AllReadyH.cons rfl (fun K hK => ?_) AllReadyH.nil
            go_simp
            have hst0 := (((hz29.setCell (p := ⟨P0_29, 0, none⟩) hlo0 (.string p.key)).setCell (p := ⟨P0_29, 1, none⟩) hlo0 (.int .i64 p.x)).setCell (p := ⟨P0_29, 2, none⟩) hlo0 (.int .i64 p.y))
            refine hK.out _ _ (HS.out _ hst0) (fun hHeld => ?_)
            clear hK K
            try simp only [Act.put, List.setIfInBounds_toArray, List.set_cons_zero, List.set_cons_succ]
            refine wpAnyH_ready (rs := [17]) (by kernel_rfl) (by simp) ?_
            refine AllReadyH.cons rfl (fun K hK => ?_) AllReadyH.nil
            go_simp
            have hst1 := (((hst0.setCell (p := ⟨P1_26, 0, none⟩) hlo1 (.string q.key)).setCell (p := ⟨P1_26, 1, none⟩) hlo1 (.int .i64 q.x)).setCell (p := ⟨P1_26, 2, none⟩) hlo1 (.int .i64 q.y))
            refine hK.out _ _ (HS.out _ hst1) (fun hHeld => ?_)
            clear hK K
            try simp only [Act.put, List.setIfInBounds_toArray, List.set_cons_zero, List.set_cons_succ]
            refine wpAnyH_done (by kernel_rfl) ?_ _
            go_wp2
            go_meet
            refine ⟨P0_29, P1_26, rfl, rfl, ?_, ?_, ?_, ?_, ?_, ?_, hst1⟩
            all_goals (simp [World.cell?_setCell_same, World.cell?_setCell_other, ka0, ka1, ka2, kb0, kb1, kb2])
          refine AllReadyH.cons rfl (fun K hK => ?_) AllReadyH.nil
          go_simp
          obtain ⟨P0_30, hP⟩ : ∃ P, P = (wz27).heap.size := ⟨_, rfl⟩
          have HB0_30 := hide (hnew hP : ((wz27).alloc (.cells #[.string ⟨#[]⟩, .int .i64 0, .int .i64 0] 74)).heap[P0_30]? = some (.cells #[.string ⟨#[]⟩, .int .i64 0, .int .i64 0] 74 (0, 0)))
          have hz30 := hz27.alloc (.cells #[.string ⟨#[]⟩, .int .i64 0, .int .i64 0] 74)
          have hlo0 : w3.heap.size ≤ P0_30 := by rw [hP]; exact hz27.sz
          have hne : P1_26 ≠ P0_30 := by have := lt_of_heap HB1_27.out; omega
          have HB1_30 := hide ((((Nx.refl (wz27)).alloc (.cells #[.string ⟨#[]⟩, .int .i64 0, .int .i64 0] 74)).block _ (lt_of_heap HB1_27.out)).trans HB1_27.out)
          rw [← hP]
          clear hP
          generalize (wz27).alloc (.cells #[.string ⟨#[]⟩, .int .i64 0, .int .i64 0] 74) = wz30 at *
          refine hK.out _ _ (HS.out _ hz30) (fun hHeld => ?_)
          clear hK K
          try simp only [Act.put, List.setIfInBounds_toArray, List.set_cons_zero, List.set_cons_succ]
          refine wpAnyH_ready (rs := [11]) (by kernel_rfl) (by simp) ?_
          refine AllReadyH.cons rfl (fun K hK => ?_) AllReadyH.nil
          go_simp
          go_at_call 34
          refine (HNO.out a.to_ (wz30) hz30).mono ?_
          rintro e wz31 ⟨rfl, hnz⟩
          rw [hj]
          have hz31 := hz30.trans hnz
          have HB0_31 := hide ((hnz.block _ (lt_of_heap HB0_30.out)).trans HB0_30.out)
          have HB1_31 := hide ((hnz.block _ (lt_of_heap HB1_30.out)).trans HB1_30.out)
          clear hnz
          go_simp
          refine hK.out _ _ (HS.out _ hz31) (fun hHeld => ?_)
          clear hK K
          try simp only [Act.put, List.setIfInBounds_toArray, List.set_cons_zero, List.set_cons_succ]
          refine wpAnyH_take (i := 12) (oi := ⟨some 47, _, _, _, _, _⟩) (v := ?_) rfl (by kernel_rfl) (by kernel_rfl) (by kernel_rfl) (fun _ _ _ h => h) (Or.inl ⟨by rfl, ?_⟩) (by assumption) ?_
          rotate_left 1
          · intro w hSw
            (try dsimp only at hSw)
            go_simp
            try with_reducible rfl
          try simp only [Act.put, List.setIfInBounds_toArray, List.set_cons_zero, List.set_cons_succ]
          refine wpAnyH_take (i := 13) (oi := ⟨some 48, _, _, _, _, _⟩) (v := ?_) rfl (by kernel_rfl) (by kernel_rfl) (by kernel_rfl) (fun _ _ _ h => h) (Or.inl ⟨by rfl, ?_⟩) (by assumption) ?_
          rotate_left 1
          · intro w hSw
            (try dsimp only at hSw)
            go_simp
            try with_reducible rfl
          try simp only [Act.put, List.setIfInBounds_toArray, List.set_cons_zero, List.set_cons_succ]
          have ka0 : wz31.cell? ⟨P0_30, 0, none⟩ = some (.string ⟨#[]⟩) := by rw [World.cell?, HB0_31.out]; rfl
          have za0 : wz31.frozen? ⟨P0_30, 0, none⟩ = false := by simp [World.frozen?, HB0_31.out]
          have ka1 : wz31.cell? ⟨P0_30, 1, none⟩ = some (.int .i64 0) := by rw [World.cell?, HB0_31.out]; rfl
          have za1 : wz31.frozen? ⟨P0_30, 1, none⟩ = false := by simp [World.frozen?, HB0_31.out]
          have ka2 : wz31.cell? ⟨P0_30, 2, none⟩ = some (.int .i64 0) := by rw [World.cell?, HB0_31.out]; rfl
          have za2 : wz31.frozen? ⟨P0_30, 2, none⟩ = false := by simp [World.frozen?, HB0_31.out]
          have kb0 : wz31.cell? ⟨P1_26, 0, none⟩ = some (.string ⟨#[]⟩) := by rw [World.cell?, HB1_31.out]; rfl
          have zb0 : wz31.frozen? ⟨P1_26, 0, none⟩ = false := by simp [World.frozen?, HB1_31.out]
          have kb1 : wz31.cell? ⟨P1_26, 1, none⟩ = some (.int .i64 0) := by rw [World.cell?, HB1_31.out]; rfl
          have zb1 : wz31.frozen? ⟨P1_26, 1, none⟩ = false := by simp [World.frozen?, HB1_31.out]
          have kb2 : wz31.cell? ⟨P1_26, 2, none⟩ = some (.int .i64 0) := by rw [World.cell?, HB1_31.out]; rfl
          have zb2 : wz31.frozen? ⟨P1_26, 2, none⟩ = false := by simp [World.frozen?, HB1_31.out]
          have hne2 : P1_26 ≠ P0_30 := by omega
          refine wpAnyH_ready (rs := [16]) (by kernel_rfl) (by simp) ?_
          refine AllReadyH.cons rfl (fun K hK => ?_) AllReadyH.nil
          go_simp
          have hst0 := (((hz31.setCell (p := ⟨P0_30, 0, none⟩) hlo0 (.string p.key)).setCell (p := ⟨P0_30, 1, none⟩) hlo0 (.int .i64 p.x)).setCell (p := ⟨P0_30, 2, none⟩) hlo0 (.int .i64 p.y))
          refine hK.out _ _ (HS.out _ hst0) (fun hHeld => ?_)
          clear hK K
          try simp only [Act.put, List.setIfInBounds_toArray, List.set_cons_zero, List.set_cons_succ]
          refine wpAnyH_ready (rs := [17]) (by kernel_rfl) (by simp) ?_
          refine AllReadyH.cons rfl (fun K hK => ?_) AllReadyH.nil
          go_simp
          have hst1 := (((hst0.setCell (p := ⟨P1_26, 0, none⟩) hlo1 (.string q.key)).setCell (p := ⟨P1_26, 1, none⟩) hlo1 (.int .i64 q.x)).setCell (p := ⟨P1_26, 2, none⟩) hlo1 (.int .i64 q.y))
          refine hK.out _ _ (HS.out _ hst1) (fun hHeld => ?_)
          clear hK K
          try simp only [Act.put, List.setIfInBounds_toArray, List.set_cons_zero, List.set_cons_succ]
          refine wpAnyH_done (by kernel_rfl) ?_ _
          go_wp2
          go_meet
          refine ⟨P0_30, P1_26, rfl, rfl, ?_, ?_, ?_, ?_, ?_, ?_, hst1⟩
          all_goals (simp [World.cell?_setCell_same, World.cell?_setCell_other, ka0, ka1, ka2, kb0, kb1, kb2])
        refine AllReadyH.cons rfl (fun K hK => ?_) AllReadyH.nil
        go_simp
        obtain ⟨P0_32, hP⟩ : ∃ P, P = (wz26).heap.size := ⟨_, rfl⟩
        have HB0_32 := hide (hnew hP : ((wz26).alloc (.cells #[.string ⟨#[]⟩, .int .i64 0, .int .i64 0] 74)).heap[P0_32]? = some (.cells #[.string ⟨#[]⟩, .int .i64 0, .int .i64 0] 74 (0, 0)))
        have hz32 := hz26.alloc (.cells #[.string ⟨#[]⟩, .int .i64 0, .int .i64 0] 74)
        have hlo0 : w3.heap.size ≤ P0_32 := by rw [hP]; exact hz26.sz
        have hne : P1_26 ≠ P0_32 := by have := lt_of_heap HB1_26.out; omega
        have HB1_32 := hide ((((Nx.refl (wz26)).alloc (.cells #[.string ⟨#[]⟩, .int .i64 0, .int .i64 0] 74)).block _ (lt_of_heap HB1_26.out)).trans HB1_26.out)
        rw [← hP]
        clear hP
        generalize (wz26).alloc (.cells #[.string ⟨#[]⟩, .int .i64 0, .int .i64 0] 74) = wz32 at *
        refine hK.out _ _ (HS.out _ hz32) (fun hHeld => ?_)
        clear hK K
        try simp only [Act.put, List.setIfInBounds_toArray, List.set_cons_zero, List.set_cons_succ]
        refine wpAnyH_ready (rs := [4]) (by kernel_rfl) (by simp) ?_
        refine AllReadyH.cons rfl (fun K hK => ?_) AllReadyH.nil
        go_simp
        go_at_call 34
        refine (HNO.out a.from_ (wz32) hz32).mono ?_
        rintro e wz33 ⟨rfl, hnz⟩
        rw [hi]
        have hz33 := hz32.trans hnz
        have HB0_33 := hide ((hnz.block _ (lt_of_heap HB0_32.out)).trans HB0_32.out)
        have HB1_33 := hide ((hnz.block _ (lt_of_heap HB1_32.out)).trans HB1_32.out)
        clear hnz
        go_simp
        refine hK.out _ _ (HS.out _ hz33) (fun hHeld => ?_)
        clear hK K
        try simp only [Act.put, List.setIfInBounds_toArray, List.set_cons_zero, List.set_cons_succ]
        refine wpAnyH_take (i := 5) (oi := ⟨some 40, _, _, _, _, _⟩) (v := ?_) rfl (by kernel_rfl) (by kernel_rfl) (by kernel_rfl) (fun _ _ _ h => h) (Or.inl ⟨by rfl, ?_⟩) (by assumption) ?_
        rotate_left 1
        · intro w hSw
          (try dsimp only at hSw)
          go_simp
          try with_reducible rfl
        try simp only [Act.put, List.setIfInBounds_toArray, List.set_cons_zero, List.set_cons_succ]
        refine wpAnyH_take (i := 6) (oi := ⟨some 41, _, _, _, _, _⟩) (v := ?_) rfl (by kernel_rfl) (by kernel_rfl) (by kernel_rfl) (fun _ _ _ h => h) (Or.inl ⟨by rfl, ?_⟩) (by assumption) ?_
        rotate_left 1
        · intro w hSw
          (try dsimp only at hSw)
          go_simp
          try with_reducible rfl
        try simp only [Act.put, List.setIfInBounds_toArray, List.set_cons_zero, List.set_cons_succ]
        refine wpAnyH_ready (rs := [11]) (by kernel_rfl) (by simp) ?_
        refine AllReadyH.cons rfl (fun K hK => ?_) AllReadyH.nil
        go_simp
        go_at_call 34
        refine (HNO.out a.to_ (wz33) hz33).mono ?_
        rintro e wz34 ⟨rfl, hnz⟩
        rw [hj]
        have hz34 := hz33.trans hnz
        have HB0_34 := hide ((hnz.block _ (lt_of_heap HB0_33.out)).trans HB0_33.out)
        have HB1_34 := hide ((hnz.block _ (lt_of_heap HB1_33.out)).trans HB1_33.out)
        clear hnz
        go_simp
        refine hK.out _ _ (HS.out _ hz34) (fun hHeld => ?_)
        clear hK K
        try simp only [Act.put, List.setIfInBounds_toArray, List.set_cons_zero, List.set_cons_succ]
        refine wpAnyH_take (i := 12) (oi := ⟨some 47, _, _, _, _, _⟩) (v := ?_) rfl (by kernel_rfl) (by kernel_rfl) (by kernel_rfl) (fun _ _ _ h => h) (Or.inl ⟨by rfl, ?_⟩) (by assumption) ?_
        rotate_left 1
        · intro w hSw
          (try dsimp only at hSw)
          go_simp
          try with_reducible rfl
        try simp only [Act.put, List.setIfInBounds_toArray, List.set_cons_zero, List.set_cons_succ]
        refine wpAnyH_take (i := 13) (oi := ⟨some 48, _, _, _, _, _⟩) (v := ?_) rfl (by kernel_rfl) (by kernel_rfl) (by kernel_rfl) (fun _ _ _ h => h) (Or.inl ⟨by rfl, ?_⟩) (by assumption) ?_
        rotate_left 1
        · intro w hSw
          (try dsimp only at hSw)
          go_simp
          try with_reducible rfl
        try simp only [Act.put, List.setIfInBounds_toArray, List.set_cons_zero, List.set_cons_succ]
        have ka0 : wz34.cell? ⟨P0_32, 0, none⟩ = some (.string ⟨#[]⟩) := by rw [World.cell?, HB0_34.out]; rfl
        have za0 : wz34.frozen? ⟨P0_32, 0, none⟩ = false := by simp [World.frozen?, HB0_34.out]
        have ka1 : wz34.cell? ⟨P0_32, 1, none⟩ = some (.int .i64 0) := by rw [World.cell?, HB0_34.out]; rfl
        have za1 : wz34.frozen? ⟨P0_32, 1, none⟩ = false := by simp [World.frozen?, HB0_34.out]
        have ka2 : wz34.cell? ⟨P0_32, 2, none⟩ = some (.int .i64 0) := by rw [World.cell?, HB0_34.out]; rfl
        have za2 : wz34.frozen? ⟨P0_32, 2, none⟩ = false := by simp [World.frozen?, HB0_34.out]
        have kb0 : wz34.cell? ⟨P1_26, 0, none⟩ = some (.string ⟨#[]⟩) := by rw [World.cell?, HB1_34.out]; rfl
        have zb0 : wz34.frozen? ⟨P1_26, 0, none⟩ = false := by simp [World.frozen?, HB1_34.out]
        have kb1 : wz34.cell? ⟨P1_26, 1, none⟩ = some (.int .i64 0) := by rw [World.cell?, HB1_34.out]; rfl
        have zb1 : wz34.frozen? ⟨P1_26, 1, none⟩ = false := by simp [World.frozen?, HB1_34.out]
        have kb2 : wz34.cell? ⟨P1_26, 2, none⟩ = some (.int .i64 0) := by rw [World.cell?, HB1_34.out]; rfl
        have zb2 : wz34.frozen? ⟨P1_26, 2, none⟩ = false := by simp [World.frozen?, HB1_34.out]
        have hne2 : P1_26 ≠ P0_32 := by omega
        refine wpAnyH_ready (rs := [16]) (by kernel_rfl) (by simp) ?_
        refine AllReadyH.cons rfl (fun K hK => ?_) AllReadyH.nil
        go_simp
        have hst0 := (((hz34.setCell (p := ⟨P0_32, 0, none⟩) hlo0 (.string p.key)).setCell (p := ⟨P0_32, 1, none⟩) hlo0 (.int .i64 p.x)).setCell (p := ⟨P0_32, 2, none⟩) hlo0 (.int .i64 p.y))
        refine hK.out _ _ (HS.out _ hst0) (fun hHeld => ?_)
        clear hK K
        try simp only [Act.put, List.setIfInBounds_toArray, List.set_cons_zero, List.set_cons_succ]
        refine wpAnyH_ready (rs := [17]) (by kernel_rfl) (by simp) ?_
        refine AllReadyH.cons rfl (fun K hK => ?_) AllReadyH.nil
        go_simp
        have hst1 := (((hst0.setCell (p := ⟨P1_26, 0, none⟩) hlo1 (.string q.key)).setCell (p := ⟨P1_26, 1, none⟩) hlo1 (.int .i64 q.x)).setCell (p := ⟨P1_26, 2, none⟩) hlo1 (.int .i64 q.y))
        refine hK.out _ _ (HS.out _ hst1) (fun hHeld => ?_)
        clear hK K
        try simp only [Act.put, List.setIfInBounds_toArray, List.set_cons_zero, List.set_cons_succ]
        refine wpAnyH_done (by kernel_rfl) ?_ _
        go_wp2
        go_meet
        refine ⟨P0_32, P1_26, rfl, rfl, ?_, ?_, ?_, ?_, ?_, ?_, hst1⟩
        all_goals (simp [World.cell?_setCell_same, World.cell?_setCell_other, ka0, ka1, ka2, kb0, kb1, kb2])
      case rest =>
        obtain ⟨P1, P2, rfl, rfl, e0, e1, e2, d0, d1, d2, hxc⟩ := hcut
        have HXC := hide hxc
        generalize spotV ByteArray.empty (q.x - p.x) (q.y - p.y) (x - p.x) (y - p.y) (x - q.x) (y - q.y) = U at *
        unfold spotAgg at HSP
        clear hxc hi hj
        go_wp2_with fail
        refine (HSP.out _).mono ?_
        rintro e w5 ⟨rfl, hn5⟩
        have HN5 := hide hn5
        clear e0 e1 e2 d0 d1 d2 hn5 HSP
        go_upto_region 12 with fail
        obtain ⟨sq, hsq⟩ : ∃ sq, sq = w5.heap.size := ⟨_, rfl⟩
        obtain ⟨w6, hw6⟩ : ∃ w6, w6 = w5.alloc (.cells #[.string U.key, .int .i64 (U.pn : Int), .int .i64 (U.pd : Int), .int .i64 (U.fn : Int), .int .i64 (U.fd : Int)] 43) := ⟨_, rfl⟩
        have hQ6 : SpotAt w6 sq U := by rw [hw6]; exact hnew hsq
        have hn6 : Nx w5 w6 := hw6 ▸ (Nx.refl w5).alloc _
        have hx36 : Nx w3 w6 := (HXC.out.trans HN5.out).trans hn6
        have hV6 : SpotAt w6 bb V := HV.out.nx (HX3.out.trans hx36)
        have hne : bb ≠ sq := by
          have h1 := lt_of_heap HV.out
          have h2 := (HX3.out.trans (HXC.out.trans HN5.out)).sz
          omega
        rw [← hsq, ← hw6]
        have c0 := HA0.out w6 hx36
        have s0 := hQ6.cells.1
        have s1 := hQ6.open_ 0
        have HSQ := hide hsq
        clear hw6 hn6 HA0 hsq
        go_upto_region 13 with fail
        have hQ7 : SpotAt (w6.setCell ⟨sq, 0, none⟩ (.string a.key)) sq (F a) := by rw [HKE.out]; exact hQ6.key a.key
        have hV7 : SpotAt (w6.setCell ⟨sq, 0, none⟩ (.string a.key)) bb V := hV6.setO hne _
        have hx7 : Nx wr (w6.setCell ⟨sq, 0, none⟩ (.string a.key)) := (HX3.out.trans hx36).setCell (p := ⟨sq, 0, none⟩) (by rw [HSQ.out]; exact (HX3.out.trans (HXC.out.trans HN5.out)).sz) _
        clear c0 s0 s1 hQ6 hV6 hx36
        generalize w6.setCell ⟨sq, 0, none⟩ (.string a.key) = w7 at *
        generalize F a = T at *
        obtain ⟨q0, q1, q2, q3, q4⟩ := hQ7.cells
        obtain ⟨v0, v1, v2, v3, v4⟩ := hV7.cells
        have z0 := hV7.open_ 0
        have z1 := hV7.open_ 1
        have z2 := hV7.open_ 2
        have z3 := hV7.open_ 3
        have z4 := hV7.open_ 4
        have HQ7 := hide hQ7
        have HV7 := hide hV7
        have HX7 := hide hx7
        have HGF := hide (fun (U' : SpotV) => ((((((HGW.out.then_nx hx7).setS (p := ⟨bb, 0, none⟩) (Or.inl rfl) (.string U'.key)).setS (p := ⟨bb, 1, none⟩) (Or.inl rfl) (.int .i64 (U'.pn : Int))).setS (p := ⟨bb, 2, none⟩) (Or.inl rfl) (.int .i64 (U'.pd : Int))).setS (p := ⟨bb, 3, none⟩) (Or.inl rfl) (.int .i64 (U'.fn : Int))).setS (p := ⟨bb, 4, none⟩) (Or.inl rfl) (.int .i64 (U'.fd : Int))))
        clear hQ7 hV7 hx7
        by_cases hk9 : k = 0
        · have HD := hide (HDR.out.trans (by rw [if_pos hk9] : _ = bestS F (rs.drop (k + 1)) (k + 1) T))
          have tk : ((k : Int) == 0) = true := by rw [hk9]; rfl
          clear hk9
          go_wp2_with fail
          go_roundw
          case rel => exact ⟨k + 1, T, by omega, by go_num, HGF.out T, HV7.out.put, HBS.out, HQ.out.trans HD.out⟩
          case measure => simp [intOf]; omega
        · have HD := hide (HDR.out.trans (by rw [if_neg hk9] : _ = bestS F (rs.drop (k + 1)) (k + 1) (if nearerB T V then T else V)))
          have tk : ((k : Int) == 0) = false := by rw [beq_eq_false_iff_ne]; omega
          have HCP := hide (fun W => w_CompareProducts T.fn V.fd V.fn T.fd W (by have := HBS.out.2.2.1; omega) (by have := HVB.out.2.2.2; omega) (by have := HVB.out.2.2.1; omega) (by have := HBS.out.2.2.2; omega))
          clear hk9
          by_cases hb : T.fn * V.fd < V.fn * T.fd
          · have HN9 := hide (show (if nearerB T V then T else V) = T by unfold nearerB; rw [decide_eq_true hb]; rfl)
            have hcz : cmpNN (T.fn * V.fd) (V.fn * T.fd) = -1 := if_pos hb
            rw [hcz] at HCP
            clear hb hcz
            go_wp2_with (go_at_call 36; refine (HCP.out _).mono ?_; rintro e w9 ⟨rfl, rfl⟩)
            go_roundw
            case rel => exact ⟨k + 1, T, by omega, by go_num, HGF.out T, HV7.out.put, HBS.out, by rw [HQ.out, HD.out, HN9.out]⟩
            case measure => simp [intOf]; omega
          · have HN9 := hide (show (if nearerB T V then T else V) = V by unfold nearerB; rw [decide_eq_false hb]; rfl)
            obtain ⟨z, hz, hz0⟩ : ∃ z, cmpNN (T.fn * V.fd) (V.fn * T.fd) = z ∧ decide (z < 0) = false := ⟨_, rfl, by unfold cmpNN; rw [if_neg hb]; split <;> rfl⟩
            rw [hz] at HCP
            clear hb hz
            go_wp2_with (go_at_call 36; refine (HCP.out _).mono ?_; rintro e w9 ⟨rfl, rfl⟩)
            go_roundw
            case rel => exact ⟨k + 1, V, by omega, by go_num, HGW.out.then_nx HX7.out, HV7.out, HVB.out, by rw [HQ.out, HD.out, HN9.out]⟩
            case measure => simp [intOf]; omega
    · obtain rfl : m = k := by omega
      have HE := hide (show bestS F rs 0 default = V by rw [HQ.out, List.drop_of_length_le (by have := HM.out; omega)]; rfl)
      rw [HE.out] at HRES
      have hb1 := (HBX.out wr HXR.out).g1
      rw [← HM.out] at hb1
      obtain ⟨v0, v1, v2, v3, v4⟩ := HV.out.cells
      have h6 : SpotAt wr (g + 1) default := HR6.out.nx HXR.out
      obtain ⟨k0, k1, k2, k3, k4⟩ := h6.cells
      have z0 := h6.open_ 0
      have z1 := h6.open_ 1
      have z2 := h6.open_ 2
      have z3 := h6.open_ 3
      have z4 := h6.open_ 4
      have HK1 := hide hb1
      have hsx : Nx w wr := HNA.out.trans HXR.out
      obtain ⟨n0, n1, n2, n3, n4⟩ := cells5 (w := wr) (v0 := .string V.key) (v1 := .int .i64 (V.pn : Int)) (v2 := .int .i64 (V.pd : Int)) (v3 := .int .i64 (V.fn : Int)) (v4 := .int .i64 (V.fd : Int)) k0 k1 k2 k3 k4
      have hfin := ((((((hsx).setCell (p := ⟨g + 1, 0, none⟩) (by simp; rw [HG2.out]; omega) (.string V.key)).setCell (p := ⟨g + 1, 1, none⟩) (by simp; rw [HG2.out]; omega) (.int .i64 (V.pn : Int))).setCell (p := ⟨g + 1, 2, none⟩) (by simp; rw [HG2.out]; omega) (.int .i64 (V.pd : Int))).setCell (p := ⟨g + 1, 3, none⟩) (by simp; rw [HG2.out]; omega) (.int .i64 (V.fn : Int))).setCell (p := ⟨g + 1, 4, none⟩) (by simp; rw [HG2.out]; omega) (.int .i64 (V.fd : Int))).drew
      have HFIN := hide hfin
      have hgb : bb ≠ g + 1 := by have := HBB.out; have := HG.out; omega
      clear h6 hb1 hsx hfin
      go_upto_region 16 with fail
      have HK0 := hide (⟨v0, v1, v2, v3, v4, HK1.out⟩ : wr.cell? ⟨bb, 0, none⟩ = some (.string V.key) ∧ wr.cell? ⟨bb, 1, none⟩ = some (.int .i64 (V.pn : Int)) ∧ wr.cell? ⟨bb, 2, none⟩ = some (.int .i64 (V.pd : Int)) ∧ wr.cell? ⟨bb, 3, none⟩ = some (.int .i64 (V.fn : Int)) ∧ wr.cell? ⟨bb, 4, none⟩ = some (.int .i64 (V.fd : Int)) ∧ wr.cell? ⟨g, 1, none⟩ = some (.slice B m cb))
      refine wp_region_held_drew (S := fun W => W.cell? ⟨bb, 0, none⟩ = some (.string V.key) ∧ W.cell? ⟨bb, 1, none⟩ = some (.int .i64 (V.pn : Int)) ∧ W.cell? ⟨bb, 2, none⟩ = some (.int .i64 (V.pd : Int)) ∧ W.cell? ⟨bb, 3, none⟩ = some (.int .i64 (V.fn : Int)) ∧ W.cell? ⟨bb, 4, none⟩ = some (.int .i64 (V.fd : Int)) ∧ W.cell? ⟨g, 1, none⟩ = some (.slice B m cb)) (by kernel_rfl) HK0.out (fun hHeld => ?_)
      refine wpAnyH_take (i := 0) (oi := ⟨some 77, _, _, _, _, _⟩) (v := ?_) rfl (by kernel_rfl) (by kernel_rfl) (by kernel_rfl) (fun _ _ _ h => h) (Or.inl ⟨by rfl, ?_⟩) (by assumption) ?_
      rotate_left 1
      · intro w hSw
        (try dsimp only at hSw)
        go_simp
        try with_reducible rfl
      try simp only [Act.put, List.setIfInBounds_toArray, List.set_cons_zero, List.set_cons_succ]
      refine wpAnyH_take (i := 1) (oi := ⟨some 78, _, _, _, _, _⟩) (v := ?_) rfl (by kernel_rfl) (by kernel_rfl) (by kernel_rfl) (fun _ _ _ h => h) (Or.inl ⟨by rfl, ?_⟩) (by assumption) ?_
      rotate_left 1
      · intro w hSw
        (try dsimp only at hSw)
        go_simp
        try with_reducible rfl
      try simp only [Act.put, List.setIfInBounds_toArray, List.set_cons_zero, List.set_cons_succ]
      refine wpAnyH_take (i := 2) (oi := ⟨some 79, _, _, _, _, _⟩) (v := ?_) rfl (by kernel_rfl) (by kernel_rfl) (by kernel_rfl) (fun _ _ _ h => h) (Or.inl ⟨by rfl, ?_⟩) (by assumption) ?_
      rotate_left 1
      · intro w hSw
        (try dsimp only at hSw)
        go_simp
        try with_reducible rfl
      try simp only [Act.put, List.setIfInBounds_toArray, List.set_cons_zero, List.set_cons_succ]
      refine wpAnyH_take (i := 3) (oi := ⟨some 80, _, _, _, _, _⟩) (v := ?_) rfl (by kernel_rfl) (by kernel_rfl) (by kernel_rfl) (fun _ _ _ h => h) (Or.inl ⟨by rfl, ?_⟩) (by assumption) ?_
      rotate_left 1
      · intro w hSw
        (try dsimp only at hSw)
        go_simp
        try with_reducible rfl
      try simp only [Act.put, List.setIfInBounds_toArray, List.set_cons_zero, List.set_cons_succ]
      refine wpAnyH_take (i := 4) (oi := ⟨some 81, _, _, _, _, _⟩) (v := ?_) rfl (by kernel_rfl) (by kernel_rfl) (by kernel_rfl) (fun _ _ _ h => h) (Or.inl ⟨by rfl, ?_⟩) (by assumption) ?_
      rotate_left 1
      · intro w hSw
        (try dsimp only at hSw)
        go_simp
        try with_reducible rfl
      try simp only [Act.put, List.setIfInBounds_toArray, List.set_cons_zero, List.set_cons_succ]
      refine wpAnyH_ready (rs := [5]) (by kernel_rfl) (by simp) ?_
      refine AllReadyH.cons rfl (fun K hK => ?_) AllReadyH.nil
      go_simp
      refine hK.out _ _ (by simp [World.cell?_setCell_other, v0, v1, v2, v3, v4, HK1.out]) (fun hHeld => ?_)
      clear hK K
      try simp only [Act.put, List.setIfInBounds_toArray, List.set_cons_zero, List.set_cons_succ]
      refine wpAnyH_take (i := 6) (oi := ⟨some 7, _, _, _, _, _⟩) (v := ?_) rfl (by kernel_rfl) (by kernel_rfl) (by kernel_rfl) (fun _ _ _ h => h) (Or.inl ⟨by rfl, ?_⟩) (by assumption) ?_
      rotate_left 1
      · intro w hSw
        (try dsimp only at hSw)
        go_simp
        try with_reducible rfl
      try simp only [Act.put, List.setIfInBounds_toArray, List.set_cons_zero, List.set_cons_succ]
      refine wpAnyH_take (i := 7) (oi := ⟨some 8, _, _, _, _, _⟩) (v := ?_) rfl (by kernel_rfl) (by kernel_rfl) (by kernel_rfl) (fun _ _ _ h => h) (Or.inl ⟨by rfl, ?_⟩) (by assumption) ?_
      rotate_left 1
      · intro w hSw
        (try dsimp only at hSw)
        go_simp
        try with_reducible rfl
      try simp only [Act.put, List.setIfInBounds_toArray, List.set_cons_zero, List.set_cons_succ]
      refine wpAnyH_done (by kernel_rfl) ?_ _
      go_wp2_with fail
      refine bodyPost_ret (v := .tuple #[.agg #[.string V.key, .int .i64 (V.pn : Int), .int .i64 (V.pd : Int), .int .i64 (V.fn : Int), .int .i64 (V.fd : Int)], .bool (decide (0 < m)), .int .i64 0]) ?_ rfl ⟨?_, HFIN.out⟩
      · have hd : ∀ (W : World) a, W.drew.cell? a = W.cell? a := fun _ _ => rfl
        simp [results, Tryz.results9, go_sem, hd, n0, n1, n2, n3, n4]
      · rw [HRES.out, ← HM.out]
        rfl
set_option maxRecDepth 100000 in
set_option maxHeartbeats 8000000 in
theorem w_SnapNo (lo : Nat) (A B C : Option Addr) (ca cb cc : Nat) (ns : List Node) (rs : List Arc) (bs : List Ban) (x y E : Int) (w : World)
    (hN : Rd w lo A 3 encNode ns) (hA : RdArcs w lo B rs) (hB : Rd w lo C 2 encBan bs) (hnl : ns.length ≤ 400) (hal : rs.length ≤ 400) (hbl : bs.length ≤ 400) (hS : SmallN ns) (hE : E = if roadsF ns rs bs = 0 then ptF x y else roadsF ns rs bs) (hne : E ≠ 0) :
    Calls Tryz.prog 9 #[.agg #[.slice A ns.length ca, .slice B rs.length cb, .slice C bs.length cc], .int .i64 x, .int .i64 y] w fun e w' => e = .returned (.tuple #[spotAgg default, .bool false, .int .i64 E]) ∧ Nx w w' := by
  obtain ⟨wa, hwa⟩ : ∃ wa, wa = (w.alloc (.cells #[.slice A ns.length ca, .slice B rs.length cb, .slice C bs.length cc] 30)).alloc (.cells #[.string ⟨#[]⟩, .int .i64 0, .int .i64 0, .int .i64 0, .int .i64 0] 43) := ⟨_, rfl⟩
  have hna : Nx w wa := hwa ▸ ((Nx.refl w).alloc _).alloc _
  have hsz : wa.heap.size = w.heap.size + 2 := by rw [hwa]; simp
  have b0 : wa.cell? ⟨w.heap.size, 0, none⟩ = some (.slice A ns.length ca) := by rw [hwa]; go_simp
  have b1 : wa.cell? ⟨w.heap.size, 1, none⟩ = some (.slice B rs.length cb) := by rw [hwa]; go_simp
  have b2 : wa.cell? ⟨w.heap.size, 2, none⟩ = some (.slice C bs.length cc) := by rw [hwa]; go_simp
  have hr6 : SpotAt wa (w.heap.size + 1) default := by rw [hwa]; exact hnew (by simp)
  have HC := hide (w_CheckRoads lo lo lo A B C ca cb cc ns rs bs wa (hN.nx hna) hS hnl (hA.nx hna) hal (hB.nx hna) hbl)
  have HP := hide (fun W => w_isPointR x y W)
  have HWA := hide hwa
  have HNA := hide hna
  have HR6 := hide hr6
  obtain ⟨g, hg⟩ : ∃ g, g = w.heap.size := ⟨_, rfl⟩
  rw [← hg] at HR6
  have HFF := hide (fun W (hn : Nx wa W) => (show SpotAt W (g + 1) default from HR6.out.nx hn))
  have HFIN := hide (fun W (hn : Nx w W) => (((((hn.setCell (p := ⟨g + 1, 0, none⟩) (by simp; omega) (.string ⟨#[]⟩)).setCell (p := ⟨g + 1, 1, none⟩) (by simp; omega) (.int .i64 0)).setCell (p := ⟨g + 1, 2, none⟩) (by simp; omega) (.int .i64 0)).setCell (p := ⟨g + 1, 3, none⟩) (by simp; omega) (.int .i64 0)).setCell (p := ⟨g + 1, 4, none⟩) (by simp; omega) (.int .i64 0)))
  have HG := hide hg
  clear hwa hna hN hA hB hS hr6 hsz hg
  by_cases hF : roadsF ns rs bs = 0
  · have hEE : E = ptF x y := hE.trans (if_pos hF)
    have hp : isPtB x y = false := by
      cases h : isPtB x y with
      | false => rfl
      | true => exact absurd (hEE.trans (by unfold ptF argF; rw [h]; rfl)) hne
    have hE1 : E = 1 := hEE.trans (by unfold ptF argF; rw [hp]; rfl)
    subst hE1
    rw [hF] at HC
    rw [hp] at HP
    clear hE hEE hF hp hne
    go_enter Tryz.func9, Tryz.ntmps9
    go_upto_region 1 with fail
    rw [← HWA.out, ← HG.out]
    rw [← HG.out] at b0 b1 b2
    clear HWA
    go_wp2_with fail
    refine HC.out.mono ?_
    rintro e w1 ⟨rfl, hn1⟩
    clear b0 b1 b2
    have h6 := HFF.out w1 hn1
    obtain ⟨k0, k1, k2, k3, k4⟩ := h6.cells
    have z0 := h6.open_ 0
    have z1 := h6.open_ 1
    have z2 := h6.open_ 2
    have z3 := h6.open_ 3
    have z4 := h6.open_ 4
    obtain ⟨n0, n1, n2, n3, n4⟩ := cells5 (w := w1) (v0 := .string ⟨#[]⟩) (v1 := .int .i64 0) (v2 := .int .i64 0) (v3 := .int .i64 0) (v4 := .int .i64 0) k0 k1 k2 k3 k4
    have hfin := HFIN.out w1 (HNA.out.trans hn1)
    clear h6
    go_wp2_with fail
    refine (HP.out _).mono ?_
    rintro e w2 ⟨rfl, rfl⟩
    go_wp2_with fail
    exact bodyPost_ret (v := .tuple #[.agg #[.string ⟨#[]⟩, .int .i64 0, .int .i64 0, .int .i64 0, .int .i64 0], .bool false, .int .i64 1]) (by simp [results, Tryz.results9, go_sem, n0, n1, n2, n3, n4]) rfl ⟨rfl, hfin⟩
  · have hEE : E = roadsF ns rs bs := hE.trans (if_neg hF)
    rw [← hEE] at HC
    have tE : (E != 0) = true := by simpa using hne
    clear hE hEE hF hne
    go_enter Tryz.func9, Tryz.ntmps9
    go_upto_region 1 with fail
    rw [← HWA.out, ← HG.out]
    rw [← HG.out] at b0 b1 b2
    clear HWA
    go_wp2_with fail
    refine HC.out.mono ?_
    rintro e w1 ⟨rfl, hn1⟩
    clear b0 b1 b2
    have h6 := HFF.out w1 hn1
    obtain ⟨k0, k1, k2, k3, k4⟩ := h6.cells
    have z0 := h6.open_ 0
    have z1 := h6.open_ 1
    have z2 := h6.open_ 2
    have z3 := h6.open_ 3
    have z4 := h6.open_ 4
    obtain ⟨n0, n1, n2, n3, n4⟩ := cells5 (w := w1) (v0 := .string ⟨#[]⟩) (v1 := .int .i64 0) (v2 := .int .i64 0) (v3 := .int .i64 0) (v4 := .int .i64 0) k0 k1 k2 k3 k4
    have hfin := HFIN.out w1 (HNA.out.trans hn1)
    clear h6
    go_wp2_with fail
    exact bodyPost_ret (v := .tuple #[.agg #[.string ⟨#[]⟩, .int .i64 0, .int .i64 0, .int .i64 0, .int .i64 0], .bool false, .int .i64 E]) (by simp [results, Tryz.results9, go_sem, n0, n1, n2, n3, n4]) rfl ⟨rfl, hfin⟩
end Go.Proofs.YtepbamacebjopaaGreatDoor
