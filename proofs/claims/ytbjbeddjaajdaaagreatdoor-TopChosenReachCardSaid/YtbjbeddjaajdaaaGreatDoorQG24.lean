/- The fastest way asked for: none, or the one. -/
import Derived.Test.YtbjbeddjaajdaaaGreatDoorQG16
import Derived.Test.YtbjbeddjaajdaaaGreatDoorQSrchV
import Derived.Test.YtbjbeddjaajdaaaGreatDoorQG21
import Derived.Deep.DeepCutAuto
import Derived.Deep.RegionHeld
import Derived.Test.YtbjbeddjaajdaaaGreatDoorQNewW
import Derived.Test.YtbjbeddjaajdaaaGreatDoorQG10
import Derived.Test.YtbjbeddjaajdaaaGreatDoorQG4
import Derived.Test.YtbjbeddjaajdaaaGreatDoorQShelfT
import Derived.Test.YtbjbeddjaajdaaaGreatDoorQG0
import Derived.Test.YtbjbeddjaajdaaaGreatDoorQShelfL
import Derived.Test.YtbjbeddjaajdaaaGreatDoorQG2
import Derived.Deep.RegionWith
import Derived.Lib.SliceRun
import Derived.Test.YtbjbeddjaajdaaaGreatDoorQCheckR
import Derived.Test.YtbjbeddjaajdaaaGreatDoorQRoadT
import Derived.Test.YtbjbeddjaajdaaaGreatDoorQG14
import Derived.Test.YtbjbeddjaajdaaaGreatDoorQG13
namespace Go.Proofs.YtbjbeddjaajdaaaGreatDoor
open Go.RowKit
set_option maxRecDepth 100000 in
set_option maxHeartbeats 4000000 in
theorem w_FastNo (lo : Nat) (A B C : Option Addr) (ca cb cc : Nat) (ns : List Node) (rs : List Arc) (bs : List Ban) (f t : ByteArray) (ad : Int) (i j : Nat) (w : World) (_hlo : lo ≤ w.heap.size)
    (hN : Rd w lo A 3 encNode ns) (hA : RdArcs w lo B rs) (hB : Rd w lo C 2 encBan bs) (hnl : ns.length ≤ 400) (hal : rs.length ≤ 400) (hbl : bs.length ≤ 400)
    (hS : SmallN ns) (hF : roadsF ns rs bs = 0) (hOK : NewOk ns rs bs) (hi : nodeI ns f = (i : Int)) (hj : nodeI ns t = (j : Int)) (hil : i < ns.length) (hjl : j < ns.length) (ha : momB ad = true)
    (hno : gi (searchG (gphOf ns rs bs) i ad).first j < 0) :
    Calls Tryz.prog 38 #[.agg #[.slice A ns.length ca, .slice B rs.length cb, .slice C bs.length cc], .string f, .string t, .int .i64 ad] w fun e w' => e = .returned (.tuple #[.agg #[.slice none 0 0, .int .i64 0, .int .i64 0], .bool false, .int .i64 0]) ∧ Nx w w' := by
  obtain ⟨wa, hwa⟩ : ∃ wa, wa = w.alloc (.cells #[.slice A ns.length ca, .slice B rs.length cb, .slice C bs.length cc] 30) := ⟨_, rfl⟩
  have hna : Nx w wa := hwa ▸ (Nx.refl w).alloc _
  have hgw : w.heap.size < wa.heap.size := by rw [hwa]; simp
  have b0 : wa.cell? ⟨w.heap.size, 0, none⟩ = some (.slice A ns.length ca) := by rw [hwa]; go_simp
  have b1 : wa.cell? ⟨w.heap.size, 1, none⟩ = some (.slice B rs.length cb) := by rw [hwa]; go_simp
  have b2 : wa.cell? ⟨w.heap.size, 2, none⟩ = some (.slice C bs.length cc) := by rw [hwa]; go_simp
  have hBox : BoxR wa w.heap.size lo A B C ca cb cc ns rs bs := ⟨b0, b1, b2, hgw, hN.nx hna, hA.nx hna, hB.nx hna, hnl, hal, hbl⟩
  have HC := hide (fun W (hx : Nx wa W) => w_Ends w.heap.size lo A B C ca cb cc ns rs bs f t ad i j W (hBox.nx hx) hS hF hOK hi hj ha)
  have HRC := hide (roads_ok hF).2.1
  have HNO := hide hno
  have HAD := hide (momB_true.1 ha)
  clear hBox b0 b1 b2 hN hA hB hF hOK hi hj hno ha
  have HWA := hide hwa
  go_enter Tryz.func38, Tryz.ntmps38
  go_wp2_with fail
  rw [show w.heap.size + 1 = wa.heap.size by rw [hwa]; simp]
  rw [← hwa]
  clear hwa
  refine (HC.out _ ((Nx.refl _).alloc _)).mono ?_
  rintro e w1 ⟨bm, M, rfl, hbm, hM, hn1⟩
  have HM := hide hM
  have HN1 := hide hn1
  clear hM hn1
  go_wp2_with fail
  refine (w_Search w1 bm i ad w.heap.size lo A B C ca cb cc M ns rs bs HM.out HRC.out hil HAD.out).mono ?_
  rintro e w2 ⟨a, rfl, hSM⟩
  have HT := hide hSM.tree
  have HN2 := hide (HN1.out.trans hSM.nx)
  clear hSM
  go_wp2_with fail
  refine (w_WayNo w2 a bm i ns.length rs.length j ad _ HT.out hjl HNO.out).mono ?_
  rintro e w3 ⟨rfl, hn3⟩
  have hn := HN2.out.trans hn3
  have b8 : w3.heap[wa.heap.size]? = some (.cells #[.slice none 0 0, .int .i64 0, .int .i64 0] 89 (0, 0)) := (hn.block _ (by simp)).trans (hnew rfl)
  have q0 : w3.cell? ⟨wa.heap.size, 0, none⟩ = some (.slice none 0 0) := (cell_of_row w3 _ 0 _ _ _ b8).trans rfl
  have q1 : w3.cell? ⟨wa.heap.size, 1, none⟩ = some (.int .i64 0) := (cell_of_row w3 _ 1 _ _ _ b8).trans rfl
  have q2 : w3.cell? ⟨wa.heap.size, 2, none⟩ = some (.int .i64 0) := (cell_of_row w3 _ 2 _ _ _ b8).trans rfl
  have f0 := frozen_blkQ (j := 0) b8
  have f1 := frozen_blkQ (j := 1) b8
  have f2 := frozen_blkQ (j := 2) b8
  have hx8 := lt_of_heap b8
  have HNN := hide (hna.trans (((Nx.refl wa).alloc _).trans hn))
  clear hn hn3
  go_wp2_with fail
  have s1 := Gr.setS (Gr.of_nx (s := wa.heap.size) HNN.out) (p := ⟨wa.heap.size, 0, none⟩) (Or.inl rfl) (.slice none 0 0)
  have s2 := Gr.setS s1 (p := ⟨wa.heap.size, 1, none⟩) (Or.inl rfl) (.int .i64 0)
  have s3 := Gr.setS s2 (p := ⟨wa.heap.size, 2, none⟩) (Or.inl rfl) (.int .i64 0)
  have hW := Nx.of_gr s3 hna.sz
  exact bodyPost_ret (v := .tuple #[.agg #[.slice none 0 0, .int .i64 0, .int .i64 0], .bool false, .int .i64 0]) (by simp [results, Tryz.results38, go_sem, q0, q1, q2, hx8]) rfl ⟨rfl, hW.alloc _⟩
def FastOut (w : World) (ad f : Int) (keys : List ByteArray) (e : Ending) (w' : World) : Prop := ∃ (Z : Option Addr) (c : Nat), e = .returned (.tuple #[.agg #[.slice Z keys.length c, .int .i64 ad, .int .i64 f], .bool true, .int .i64 0]) ∧ Rd w' w.heap.size Z 1 encS keys ∧ Nx w w'
set_option maxRecDepth 100000 in
set_option maxHeartbeats 4000000 in
theorem w_FastYes (lo : Nat) (A B C : Option Addr) (ca cb cc : Nat) (ns : List Node) (rs : List Arc) (bs : List Ban) (f t : ByteArray) (ad : Int) (i j : Nat) (w : World) (_hlo : lo ≤ w.heap.size)
    (hN : Rd w lo A 3 encNode ns) (hA : RdArcs w lo B rs) (hB : Rd w lo C 2 encBan bs) (hnl : ns.length ≤ 400) (hal : rs.length ≤ 400) (hbl : bs.length ≤ 400)
    (hS : SmallN ns) (hF : roadsF ns rs bs = 0) (hOK : NewOk ns rs bs) (hi : nodeI ns f = (i : Int)) (hj : nodeI ns t = (j : Int)) (hil : i < ns.length) (hjl : j < ns.length) (ha : momB ad = true)
    (z : Int) (hz : gi (searchG (gphOf ns rs bs) i ad).first j = z) (hyes : 0 ≤ z) (l : List Nat) (hch : Chain rs.length (searchG (gphOf ns rs bs) i ad).prev (gi (searchG (gphOf ns rs bs) i ad).last j) l) (hll : l.length ≤ 400) :
    Calls Tryz.prog 38 #[.agg #[.slice A ns.length ca, .slice B rs.length cb, .slice C bs.length cc], .string f, .string t, .int .i64 ad] w (FastOut w ad z (keysOf rs l.reverse)) := by
  obtain ⟨wa, hwa⟩ : ∃ wa, wa = w.alloc (.cells #[.slice A ns.length ca, .slice B rs.length cb, .slice C bs.length cc] 30) := ⟨_, rfl⟩
  have hna : Nx w wa := hwa ▸ (Nx.refl w).alloc _
  have hgw : w.heap.size < wa.heap.size := by rw [hwa]; simp
  have b0 : wa.cell? ⟨w.heap.size, 0, none⟩ = some (.slice A ns.length ca) := by rw [hwa]; go_simp
  have b1 : wa.cell? ⟨w.heap.size, 1, none⟩ = some (.slice B rs.length cb) := by rw [hwa]; go_simp
  have b2 : wa.cell? ⟨w.heap.size, 2, none⟩ = some (.slice C bs.length cc) := by rw [hwa]; go_simp
  have hBox : BoxR wa w.heap.size lo A B C ca cb cc ns rs bs := ⟨b0, b1, b2, hgw, hN.nx hna, hA.nx hna, hB.nx hna, hnl, hal, hbl⟩
  have HC := hide (fun W (hx : Nx wa W) => w_Ends w.heap.size lo A B C ca cb cc ns rs bs f t ad i j W (hBox.nx hx) hS hF hOK hi hj ha)
  have HRC := hide (roads_ok hF).2.1
  have HNO := hide (show 0 ≤ gi (searchG (gphOf ns rs bs) i ad).first j by omega)
  have HZ := hide hz
  have HCH := hide hch
  have HAD := hide (momB_true.1 ha)
  clear hBox b0 b1 b2 hN hA hB hF hOK hi hj hyes hz hch ha
  have HWA := hide hwa
  go_enter Tryz.func38, Tryz.ntmps38
  go_wp2_with fail
  rw [show w.heap.size + 1 = wa.heap.size by rw [hwa]; simp]
  rw [← hwa]
  clear hwa
  refine (HC.out _ ((Nx.refl _).alloc _)).mono ?_
  rintro e w1 ⟨bm, M, rfl, hbm, hM, hn1⟩
  have HM := hide hM
  have HN1 := hide hn1
  clear hM hn1
  go_wp2_with fail
  refine (w_Search w1 bm i ad w.heap.size lo A B C ca cb cc M ns rs bs HM.out HRC.out hil HAD.out).mono ?_
  rintro e w2 ⟨a, rfl, hSM⟩
  have HT := hide hSM.tree
  have HN2 := hide (HN1.out.trans hSM.nx)
  have HX2 := hide hSM.nx
  clear hSM
  go_wp2_with fail
  refine (w_WayYes w2 a bm w.heap.size lo i ns.length j ad _ A B C ca cb cc M ns rs bs l HT.out (HM.out.nx HX2.out) hjl HNO.out HCH.out hll).mono ?_
  rintro e w3 ⟨Z, c, rfl, rd3, hn3⟩
  rw [HZ.out]
  have HRD := hide rd3
  clear rd3
  generalize hks : keysOf rs l.reverse = ks at *
  have hsz2 := HN2.out.sz
  have hn := HN2.out.trans hn3
  have b8 : w3.heap[wa.heap.size]? = some (.cells #[.slice none 0 0, .int .i64 0, .int .i64 0] 89 (0, 0)) := (hn.block _ (by simp)).trans (hnew rfl)
  have q0 : w3.cell? ⟨wa.heap.size, 0, none⟩ = some (.slice none 0 0) := (cell_of_row w3 _ 0 _ _ _ b8).trans rfl
  have q1 : w3.cell? ⟨wa.heap.size, 1, none⟩ = some (.int .i64 0) := (cell_of_row w3 _ 1 _ _ _ b8).trans rfl
  have q2 : w3.cell? ⟨wa.heap.size, 2, none⟩ = some (.int .i64 0) := (cell_of_row w3 _ 2 _ _ _ b8).trans rfl
  have f0 := frozen_blkQ (j := 0) b8
  have f1 := frozen_blkQ (j := 1) b8
  have f2 := frozen_blkQ (j := 2) b8
  have hx8 := lt_of_heap b8
  have HNN := hide (hna.trans (((Nx.refl wa).alloc _).trans hn))
  clear hn hn3
  go_wp2_with fail
  have s1 := Gr.setS (Gr.refl wa.heap.size w3) (p := ⟨wa.heap.size, 0, none⟩) (Or.inl rfl) (.slice Z ks.length c)
  have s2 := Gr.setS s1 (p := ⟨wa.heap.size, 1, none⟩) (Or.inl rfl) (.int .i64 ad)
  have s3 := Gr.setS s2 (p := ⟨wa.heap.size, 2, none⟩) (Or.inl rfl) (.int .i64 z)
  have hW := Nx.of_gr ((Gr.of_nx (s := wa.heap.size) HNN.out).trans s3) hna.sz
  have hlo2 : wa.heap.size < w2.heap.size := by have := HN2.out.sz; simp at this; omega
  have hR := Rd.low (Rd.gr HRD.out s3 hlo2) (show w.heap.size ≤ w2.heap.size by have := hna.sz; omega)
  exact bodyPost_ret (v := .tuple #[.agg #[.slice Z ks.length c, .int .i64 ad, .int .i64 z], .bool true, .int .i64 0]) (by simp [results, Tryz.results38, go_sem, q0, q1, q2, hx8]) rfl ⟨Z, c, rfl, hR.nx ((Nx.refl _).alloc _), hW.alloc _⟩
end Go.Proofs.YtbjbeddjaajdaaaGreatDoor
/- A region that draws, walked by hand: the condition may be made stronger on the way. Of no program. -/
namespace Go.Proofs.YtbjbeddjaajdaaaGreatDoor
open Go

section
variable {P : Program} {ops : Array Oper} {Q : Exit → Act → World → Prop} {md : Region.Mode} {S S' : World → Prop}
/-- From here on more holds than S. -/
theorem wpAnyH_more (h : ∀ w, S' w → S w) : ∀ (fuel : Nat) (listed : Array Bool) (a : Act) (w : World), wpAnyH P md ops Q S' fuel listed a w → wpAnyH P md ops Q S fuel listed a w
  | 0, _, _, _, hh => hh
  | fuel + 1, _, _, _, hh => ⟨hh.1, fun i hi => wpOp_mono (fun a' w' h' => ⟨h w' h'.1, wpAnyH_more h fuel _ a' w' h'.2⟩) (hh.2 i hi)⟩
end
end Go.Proofs.YtbjbeddjaajdaaaGreatDoor
/- Right roads are what New wants. -/
namespace Go.Proofs.YtbjbeddjaajdaaaGreatDoor
open Go.RowKit

theorem nodeF_key {p : Option Node} {n : Node} (h : nodeF p n = 0) : keyB n.key = true := by
  unfold nodeF at h
  cases hk : keyB n.key with
  | true => rfl
  | false => rw [hk, if_neg (by simp)] at h; exact absurd h (by decide)
theorem nodes_keys {ns : List Node} (h : nodesF ns = 0) : ∀ x ∈ ns, keyB x.key = true := by
  unfold nodesF at h
  by_cases h0 : 500 < ns.length
  · rw [if_pos h0] at h; exact absurd h (by decide)
  · rw [if_neg h0] at h
    exact chk_all (F := nodeF) (Q := fun n => keyB n.key = true) (fun p x hx => nodeF_key hx) ns none h
theorem mem_getD {α : Type} [Inhabited α] {l : List α} {k : Nat} (h : k < l.length) : l.getD k default ∈ l := by
  rw [List.getD_eq_getElem?_getD, List.getElem?_eq_getElem h]
  exact List.getElem_mem h
theorem arc_key_found {rs : List Arc} {s : ByteArray} (h : 0 ≤ arcI rs s) : ∃ a ∈ rs, a.key = s := by
  rcases findI_bd (fun n : Arc => decide (n.key = s)) rs with h1 | ⟨i, hi, e⟩
  · exact absurd h (by unfold arcI; omega)
  · exact ⟨rs.getD i default, mem_getD hi, by simpa using (findI_sat _ rs e).2⟩
theorem banF_ok {rs : List Arc} {p : Option Ban} {b : Ban} (h : banF rs p b = 0) : 0 ≤ arcI rs b.from_ ∧ 0 ≤ arcI rs b.to_ := by
  unfold banF at h
  by_cases hg : banG rs b = 0
  · unfold banG at hg
    split at hg
    · exact absurd hg (by decide)
    · omega
  · rw [if_neg hg] at h; exact absurd h hg
theorem newOk_of {ns : List Node} {rs : List Arc} {bs : List Ban} (h : roadsF ns rs bs = 0) : NewOk ns rs bs := by
  obtain ⟨h1, h2, h3⟩ := roads_ok h
  have hkn : ∀ x ∈ ns, domS x.key := fun x hx => key_small (nodes_keys h1 x hx)
  have hk : ∀ x ∈ rs, keyB x.key = true ∧ arcG ns x = 0 := chk_all (F := arcF ns) (Q := fun a => keyB a.key = true ∧ arcG ns a = 0) (fun p x hx => arcF_ok hx) rs none h2
  have hnode : ∀ s, 0 ≤ nodeI ns s → domS s := fun s hs => by
    obtain ⟨i, hi, _, e⟩ := node_found hs
    rw [← e]
    exact hkn _ (mem_getD hi)
  have harc : ∀ s, 0 ≤ arcI rs s → domS s := fun s hs => by
    obtain ⟨a, ha, e⟩ := arc_key_found hs
    rw [← e]
    exact key_small (hk a ha).1
  refine ⟨sortN_of h1, sortA_of h2, hkn, fun x hx => ?_, fun x hx => ?_⟩
  · obtain ⟨a1, a2, _, _, _⟩ := arcG_ok (hk x hx).2
    exact ⟨key_small (hk x hx).1, hnode _ a1, hnode _ a2, a1, a2⟩
  · have := chk_all (F := banF rs) (Q := fun b => 0 ≤ arcI rs b.from_ ∧ 0 ≤ arcI rs b.to_) (fun p x hx => banF_ok hx) bs none h3 x hx
    exact ⟨harc _ this.1, harc _ this.2, this.1, this.2⟩
theorem nodeI_small {ns : List Node} {rs : List Arc} {bs : List Ban} (h : roadsF ns rs bs = 0) {s : ByteArray} (hs : 0 ≤ nodeI ns s) : domS s := by
  obtain ⟨i, hi, _, e⟩ := node_found hs
  rw [← e]
  exact (newOk_of h).kn _ (mem_getD hi)
end Go.Proofs.YtbjbeddjaajdaaaGreatDoor
/- When one leaves at the latest: the program. -/
namespace Go.Proofs.YtbjbeddjaajdaaaGreatDoor
open Go.RowKit

theorem arr_test (x y by_ : Int) (hy : y = if x < 0 then endT else x) (hb : by_ < endT) : (decide (0 ≤ x) && decide (x ≤ by_)) = decide (y ≤ by_) := by
  subst hy
  by_cases h : x < 0
  · rw [if_pos h, decide_eq_false (show ¬ 0 ≤ x by omega), decide_eq_false (show ¬ endT ≤ by_ by omega)]; rfl
  · rw [if_neg h, decide_eq_true (show 0 ≤ x by omega)]; rfl
def WayRes (w : World) (x : WayA) (e : Ending) (w' : World) : Prop := ∃ (Z : Option Addr) (c : Nat), e = .returned (.tuple #[.agg #[.slice Z x.keys.length c, .int .i64 x.lv, .int .i64 x.ar], .bool x.is, .int .i64 x.fault]) ∧ Rd w' w.heap.size Z 1 encS x.keys ∧ Nx w w'
end Go.Proofs.YtbjbeddjaajdaaaGreatDoor
/- Fastest and Latest for all arguments. -/
namespace Go.Proofs.YtbjbeddjaajdaaaGreatDoor
open Go.RowKit

theorem fast_ex (ns : List Node) (rs : List Arc) (bs : List Ban) (f t : ByteArray) (ad : Int) (hal : rs.length ≤ 400) : ∃ x, FastIs ns rs bs f t ad x := by
  by_cases hE : endsF ns rs bs f t ad = 0
  · obtain ⟨o1, o2, o3, o4⟩ := endsF_ok hE
    by_cases h1 : gi (searchG (gphOf ns rs bs) (nodeN ns f) ad).first (nodeN ns t) < 0
    · exact ⟨_, .none hE h1⟩
    · obtain ⟨l, w1, w2, _⟩ := way_of (bs := bs) (roads_ok o1).2.1 hal o2 o3 (momB_true.1 o4).1 (Int.not_lt.1 h1)
      exact ⟨_, .way hE (Int.not_lt.1 h1) l w1 w2⟩
  · exact ⟨_, .bad hE⟩
theorem w_FastAll (lo : Nat) (A B C : Option Addr) (ca cb cc : Nat) (ns : List Node) (rs : List Arc) (bs : List Ban) (f t : ByteArray) (ad : Int) (x : WayA) (hx : FastIs ns rs bs f t ad x) (w : World) (hlo : lo ≤ w.heap.size)
    (hN : Rd w lo A 3 encNode ns) (hA : RdArcs w lo B rs) (hB : Rd w lo C 2 encBan bs) (hnl : ns.length ≤ 400) (hal : rs.length ≤ 400) (hbl : bs.length ≤ 400) (hS : SmallN ns) :
    Calls Tryz.prog 38 #[.agg #[.slice A ns.length ca, .slice B rs.length cb, .slice C bs.length cc], .string f, .string t, .int .i64 ad] w (WayRes w x) := by
  cases hx with
  | bad hE =>
    refine (w_FastBad lo A B C ca cb cc ns rs bs f t ad w hN hA hB hnl hal hbl hS hE).mono ?_
    rintro e w' ⟨rfl, hn⟩
    exact ⟨none, 0, rfl, Rd.nil, hn⟩
  | none hE h1 =>
    obtain ⟨o1, o2, o3, o4⟩ := endsF_ok hE
    refine (w_FastNo lo A B C ca cb cc ns rs bs f t ad (nodeN ns f) (nodeN ns t) w hlo hN hA hB hnl hal hbl hS o1 (newOk_of o1) (by unfold nodeN; omega) (by unfold nodeN; omega) (nodeN_lt o2) (nodeN_lt o3) o4 h1).mono ?_
    rintro e w' ⟨rfl, hn⟩
    exact ⟨none, 0, rfl, Rd.nil, hn⟩
  | way hE h1 l hc hl =>
    obtain ⟨o1, o2, o3, o4⟩ := endsF_ok hE
    refine (w_FastYes lo A B C ca cb cc ns rs bs f t ad (nodeN ns f) (nodeN ns t) w hlo hN hA hB hnl hal hbl hS o1 (newOk_of o1) (by unfold nodeN; omega) (by unfold nodeN; omega) (nodeN_lt o2) (nodeN_lt o3) o4 _ rfl h1 l hc (by omega)).mono ?_
    rintro e w' ⟨Z, c, rfl, hR, hn⟩
    exact ⟨Z, c, rfl, hR, hn⟩
theorem FastIs.len {ns : List Node} {rs : List Arc} {bs : List Ban} {f t : ByteArray} {ad : Int} {x : WayA} (h : FastIs ns rs bs f t ad x) (hal : rs.length ≤ 400) : x.keys.length ≤ 400 := by
  cases h with
  | bad h => exact Nat.zero_le _
  | none h h1 => exact Nat.zero_le _
  | way h h1 l hc hl => unfold keysOf; rw [List.length_map, List.length_reverse]; omega
/-- Fastest for one and the same arguments in many worlds: what it answers, as the law wants it. -/
theorem fast_pack (lo : Nat) (A B C : Option Addr) (ca cb cc : Nat) (ns : List Node) (rs : List Arc) (bs : List Ban) (f t : ByteArray) (ad : Int) (Q : World → Prop)
    (hQ : ∀ W, Q W → lo ≤ W.heap.size ∧ Rd W lo A 3 encNode ns ∧ RdArcs W lo B rs ∧ Rd W lo C 2 encBan bs) (hnl : ns.length ≤ 400) (hal : rs.length ≤ 400) (hbl : bs.length ≤ 400) (hS : SmallN ns) :
    ∃ (keys : List ByteArray) (n : Nat) (lv ar : Int) (is : Bool), keys.length = n ∧ n ≤ 400 ∧
      (∀ W, Q W → Calls Tryz.prog 38 #[.agg #[.slice A ns.length ca, .slice B rs.length cb, .slice C bs.length cc], .string f, .string t, .int .i64 ad] W fun e w' => ∃ (Z : Option Addr) (c : Nat), e = .returned (.tuple #[.agg #[.slice Z n c, .int .i64 lv, .int .i64 ar], .bool is, .int .i64 (endsF ns rs bs f t ad)]) ∧ Rd w' 0 Z 1 encS keys ∧ Nx W w') ∧
      (endsF ns rs bs f t ad ≠ 0 → is = false ∧ n = 0) ∧
      (endsF ns rs bs f t ad = 0 → is = decide (arrG (gphOf ns rs bs) (nodeN ns f) (nodeN ns t) ad < endT) ∧ (is = true → lv = ad ∧ ar = arrG (gphOf ns rs bs) (nodeN ns f) (nodeN ns t) ad ∧ WayOk ns rs bs f t keys lv ar)) := by
  obtain ⟨x, hx⟩ := fast_ex ns rs bs f t ad hal
  obtain ⟨h1, h2, h3⟩ := hx.law hal
  refine ⟨x.keys, x.keys.length, x.lv, x.ar, x.is, rfl, hx.len hal, fun W hW => ?_, fun h => ⟨(h2 h).1, by rw [(h2 h).2]; rfl⟩, fun h => ⟨(h3 h).1, fun h' => ?_⟩⟩
  · obtain ⟨q0, q1, q2, q3⟩ := hQ W hW
    refine (w_FastAll lo A B C ca cb cc ns rs bs f t ad x hx W q0 q1 q2 q3 hnl hal hbl hS).mono ?_
    rintro e w' ⟨Z, c, rfl, hR, hn⟩
    exact ⟨Z, c, by rw [h1], hR.low (Nat.zero_le _), hn⟩
  · obtain ⟨a1, a2, a3⟩ := (h3 h).2 h'
    exact ⟨a1, a2, a1 ▸ a3⟩
end Go.Proofs.YtbjbeddjaajdaaaGreatDoor
/- strconv.Itoa for every number; the library's table stays. -/
namespace Go.Proofs.YtbjbeddjaajdaaaGreatDoor
open Go.RowKit

abbrev PowTab (w : World) : Prop := Lib.TabIs Tryz.prog w "internal/strconv.uint64pow10" .u64 Lib.pow10Tab
theorem tab_nx {P : Program} {w w' : World} {name : String} {k : IntKind} {zs : List Int} (h : Lib.TabIs P w name k zs) (hn : Nx w w') : Lib.TabIs P w' name k zs := by
  unfold Lib.TabIs World.var? at h ⊢
  cases hg : P.globalNamed name with
  | none => rw [hg] at h; simp at h
  | some g =>
    rw [hg] at h
    simp only [Option.bind_some] at h ⊢
    cases hb : w.heap[g]? with
    | none => rw [hb] at h; simp at h
    | some o =>
      rw [hn.block g (Array.getElem?_eq_some_iff.1 hb).1]
      exact h
def itoaS (n : Int) : ByteArray := ⟨(Lib.itoa n).toArray⟩
theorem w_ItoaN (n : Int) (h0 : -9223372036854775808 ≤ n) (h1 : n ≤ 9223372036854775807) (w : World) (ht : PowTab w) : Calls Tryz.prog 78 #[.int .i64 n] w fun e w' => e = .returned (.string (itoaS n)) ∧ Nx w w' := by
  refine (Any.strconv_Itoa Tryz.itoaM n h0 h1 w ht).mono ?_
  rintro e w' ⟨rfl, k, os, rfl⟩
  exact ⟨rfl, Lays.nx ⟨k, os, rfl⟩⟩
end Go.Proofs.YtbjbeddjaajdaaaGreatDoor
/- Plain: the nodes that are reached in a time. -/
namespace Go.Proofs.YtbjbeddjaajdaaaGreatDoor

structure PairS where
  name : ByteArray
  val : ByteArray
instance : Inhabited PairS := ⟨⟨default, default⟩⟩
def encPair (p : PairS) : List Value := [.string p.name, .string p.val]
theorem encPair_len (p : PairS) : (encPair p).length = 2 := rfl
theorem encPair_one (x : PairS) : ∀ v ∈ encPair x, v.oneCell' = true := by
  intro v hv; simp [encPair] at hv; rcases hv with rfl | rfl <;> rfl
/-- The nodes that are reached: when one is at each of them, from k on. -/
def rOf (v : Nat → Int) (ad wi : Int) : List Node → Nat → List PairS
  | [], _ => []
  | n :: l, k => if v k < endT ∧ v k - ad ≤ wi then ⟨n.key, itoaS (v k - ad)⟩ :: rOf v ad wi l (k + 1) else rOf v ad wi l (k + 1)
theorem rOf_drop (v : Nat → Int) (ad wi : Int) (ns : List Node) (k : Nat) (hk : k < ns.length) : rOf v ad wi (ns.drop k) k = if v k < endT ∧ v k - ad ≤ wi then ⟨ns[k].key, itoaS (v k - ad)⟩ :: rOf v ad wi (ns.drop (k + 1)) (k + 1) else rOf v ad wi (ns.drop (k + 1)) (k + 1) := by
  rw [List.drop_eq_getElem_cons hk, rOf]
theorem rOf_len (v : Nat → Int) (ad wi : Int) : ∀ (l : List Node) (k : Nat), (rOf v ad wi l k).length ≤ l.length
  | [], _ => Nat.le_refl _
  | n :: l, k => by
    unfold rOf
    have := rOf_len v ad wi l (k + 1)
    split
    · rw [List.length_cons, List.length_cons]; omega
    · rw [List.length_cons]; omega
/-- When one is at a node, found or not. -/
theorem arr_ix {ns : List Node} {rs : List Arc} {bs : List Ban} {i k : Nat} {ad : Int} (h2 : chk (arcF ns) none rs = 0) (hi : i < ns.length) (hk : k < ns.length) (h0 : 0 ≤ ad) (he : ad < endT) :
    (gi (searchG (gphOf ns rs bs) i ad).first k < 0 ∧ arrG (gphOf ns rs bs) i k ad = endT) ∨
    (0 ≤ gi (searchG (gphOf ns rs bs) i ad).first k ∧ arrG (gphOf ns rs bs) i k ad = gi (searchG (gphOf ns rs bs) i ad).first k ∧ gi (searchG (gphOf ns rs bs) i ad).first k < endT ∧ ad ≤ gi (searchG (gphOf ns rs bs) i ad).first k) := by
  have hg := gph_ok (bs := bs) h2
  have hF := search_found hg h0 (show i < (gphOf ns rs bs).nn from hi)
  by_cases hz : gi (searchG (gphOf ns rs bs) i ad).first k < 0
  · exact .inl ⟨hz, if_pos hz⟩
  · refine .inr ⟨by omega, if_neg hz, ?_⟩
    by_cases e : k = i
    · rw [e, hF.f0.1]; omega
    · rcases hF.f1 k hk e with ⟨h1, _⟩ | ⟨j, h1, h2, h3, h4, h5, h6⟩
      · omega
      · rw [h5]
        have := (hF.rch j h1 h2).ge hg h0
        omega
/-- The program's test is the reference's. -/
theorem reach_test {z a ad wi : Int} (h : (z < 0 ∧ a = endT) ∨ (0 ≤ z ∧ a = z ∧ z < endT ∧ ad ≤ z)) : (0 ≤ z ∧ z - ad ≤ wi) ↔ (a < endT ∧ a - ad ≤ wi) := by
  rcases h with ⟨h1, h2⟩ | ⟨h1, h2, h3, _⟩ <;> omega
/-- What is wrong with what Reach is asked. -/
def reachF (ns : List Node) (rs : List Arc) (bs : List Ban) (f : ByteArray) (ad wi : Int) : Int := if endsF ns rs bs f f ad = 0 then (if outB wi 0 86400000 then 1 else 0) else endsF ns rs bs f f ad
def reachL (ns : List Node) (rs : List Arc) (bs : List Ban) (f : ByteArray) (ad wi : Int) : List PairS := if reachF ns rs bs f ad wi = 0 then rOf (fun k => arrG (gphOf ns rs bs) (nodeN ns f) k ad) ad wi ns 0 else []
end Go.Proofs.YtbjbeddjaajdaaaGreatDoor
/- Plain: what the laws of what must keep weigh: who leaves later, who is reached. -/
namespace Go.Proofs.YtbjbeddjaajdaaaGreatDoor

theorem time_le {l : List Knot} (h : KOk l) (at_ : Int) : timeI l at_ ≤ 3600000 := by
  unfold timeI
  generalize ht : at_ % dayMs = t
  have htb : 0 ≤ t ∧ t ≤ 86399999 := by unfold dayMs at ht; omega
  obtain ⟨i, hi, h1, h2⟩ := seg_ex h htb.1
  rw [seg_of h hi h1 h2]
  have hab := after_bd h hi
  have hkb := h.bd i hi
  have haf : t < (afterK l i).at_ := by
    unfold afterK
    by_cases h3 : i + 1 < l.length
    · rw [if_pos h3]; exact h2 h3
    · rw [if_neg h3]; show t < dayMs; unfold dayMs; omega
  generalize afterK l i = y at *
  generalize l.getD i default = x at *
  unfold lineI
  have m1 : x.time * (y.at_ - t) ≤ 3600000 * (y.at_ - t) := Int.mul_le_mul_of_nonneg_right (by omega) (by omega)
  have m2 : y.time * (t - x.at_) ≤ 3600000 * (t - x.at_) := Int.mul_le_mul_of_nonneg_right (by omega) (by omega)
  have := Int.ediv_le_ediv (c := y.at_ - x.at_) (by omega) (show x.time * (y.at_ - t) + y.time * (t - x.at_) ≤ 3600000 * (y.at_ - x.at_) by omega)
  rw [Int.mul_ediv_cancel _ (by omega)] at this
  exact this
section
variable {g : Gph} {a : Nat} {at_ : Int}
theorem Trail.rch {l : List Nat} {t : Int} (h : Trail g a at_ l t) : ∃ k l', l = k :: l' ∧ Rch g a at_ k t := by
  induction h with
  | one k hk hf he => exact ⟨k, [], rfl, .start k hk hf he⟩
  | cons k i l t _ hi hf hb he ih =>
    obtain ⟨k', l', e, hr⟩ := ih
    injection e with e1 e2
    subst e1 e2
    exact ⟨i, k :: l, rfl, .step k i t hr hi hf hb he⟩
theorem Trail.at_later (hg : GOk g) {H : Int} (hH : ∀ k t, k < g.m → 0 ≤ t → g.out k t ≤ t + H) (hH0 : 0 ≤ H) {la : Int} (h0 : 0 ≤ la) {l : List Nat} {t : Int} (h : Trail g a at_ l t) : la + l.length * H < endT → ∃ t', Trail g a la l t' ∧ 0 ≤ t' ∧ t' ≤ la + l.length * H := by
  induction h with
  | one k hk hf _ =>
    intro hb
    have := hH k la hk h0
    have := hg.gt k la hk h0
    simp at hb
    exact ⟨_, .one k hk hf (by omega), by omega, by simp; omega⟩
  | cons k i l t _ hi hf hb _ ih =>
    intro hlt
    have e : (((i :: k :: l).length : Nat) : Int) * H = ((k :: l).length : Nat) * H + H := by
      rw [List.length_cons (a := i)]; push_cast; rw [Int.add_mul, Int.one_mul]
    rw [e] at hlt ⊢
    obtain ⟨t', h1, h2, h3⟩ := ih (by omega)
    have := hH i t' hi h2
    have := hg.gt i t' hi h2
    exact ⟨_, .cons k i l t' h1 hi hf hb (by omega), by omega, by omega⟩
/-- Who leaves later comes there too, if the ways do not last beyond the end. -/
theorem arr_later (hg : GOk g) {H : Int} (hH : ∀ k t, k < g.m → 0 ≤ t → g.out k t ≤ t + H) (hH0 : 0 ≤ H) {b : Nat} {la : Int} (h0 : 0 ≤ at_) (hl : at_ ≤ la) (hb : la + g.m * H < endT) (ha : a < g.nn) (hbn : b < g.nn) : arrG g a b at_ < endT ↔ arrG g a b la < endT := by
  have hla : la < endT := by have := Int.mul_nonneg (Int.natCast_nonneg g.m) hH0; omega
  constructor
  · intro h
    have hF := search_found hg h0 ha
    by_cases hz : gi (searchG g a at_).first b < 0
    · exact absurd h (by rw [show arrG g a b at_ = endT from if_pos hz]; omega)
    · obtain ⟨l, _, hll, _, hl2⟩ := hF.wayTo hg h0 hbn (by omega)
      rcases hl2 with ⟨_, rfl, _⟩ | ⟨k, l', rfl, hk, hT⟩
      · rw [arrG_self hg (by omega) ha]; exact hla
      · have hm : (((k :: l').length : Nat) : Int) * H ≤ g.m * H := Int.mul_le_mul_of_nonneg_right (by omega) hH0
        obtain ⟨t', hT', h1, h2⟩ := hT.at_later hg hH hH0 (la := la) (by omega) (by omega)
        obtain ⟨k', l'', e, hr⟩ := hT'.rch
        injection e with e1 e2
        subst e1
        have hA := arrG_ok hg (show 0 ≤ la by omega) ha hbn
        rcases hA with ⟨_, e⟩ | ⟨_, ⟨_, hn⟩ | ⟨k2, _, hr2, _⟩⟩
        · rw [e]; exact hla
        · exact absurd hk (hn _ _ hr)
        · exact (hr2.ge hg (by omega)).2
  · intro h
    have := arrG_mono hg h0 hl hla ha hbn
    omega
end
theorem gph_time {ns : List Node} {rs : List Arc} {bs : List Ban} (h : chk (arcF ns) none rs = 0) : ∀ k t, k < (gphOf ns rs bs).m → 0 ≤ t → (gphOf ns rs bs).out k t ≤ t + 3600000 := by
  intro k t hk _
  have := time_le (knotsF_chk (arc_right h hk).2.2.2) t
  show t + timeI (arcX rs k).knots t ≤ t + 3600000
  omega
theorem later_is {ns : List Node} {rs : List Arc} {bs : List Ban} (h : chk (arcF ns) none rs = 0) (hal : rs.length ≤ 400) {a b : Nat} (ha : a < ns.length) (hb : b < ns.length) {ad la : Int} (h0 : 0 ≤ ad) (hl : ad ≤ la) (hb2 : la ≤ 1000000000) : arrG (gphOf ns rs bs) a b ad < endT ↔ arrG (gphOf ns rs bs) a b la < endT := by
  refine arr_later (gph_ok h) (gph_time h) (by omega) h0 hl ?_ ha hb
  show la + (rs.length : Int) * 3600000 < endT
  unfold endT
  omega
theorem rOf_mem (v : Nat → Int) (ad wi : Int) : ∀ (l : List Node) (k : Nat) (p : PairS), p ∈ rOf v ad wi l k ↔ ∃ i, i < l.length ∧ (v (k + i) < endT ∧ v (k + i) - ad ≤ wi) ∧ p = ⟨(l.getD i default).key, itoaS (v (k + i) - ad)⟩
  | [], k, p => by unfold rOf; simp
  | n :: l, k, p => by
    have ih := rOf_mem v ad wi l (k + 1) p
    have step : (∃ i, i < (n :: l).length ∧ (v (k + i) < endT ∧ v (k + i) - ad ≤ wi) ∧ p = ⟨((n :: l).getD i default).key, itoaS (v (k + i) - ad)⟩) ↔ ((v k < endT ∧ v k - ad ≤ wi) ∧ p = ⟨n.key, itoaS (v k - ad)⟩) ∨ ∃ i, i < l.length ∧ (v (k + 1 + i) < endT ∧ v (k + 1 + i) - ad ≤ wi) ∧ p = ⟨(l.getD i default).key, itoaS (v (k + 1 + i) - ad)⟩ := by
      constructor
      · rintro ⟨i, hi, ht, hp⟩
        cases i with
        | zero => exact .inl ⟨ht, hp⟩
        | succ i =>
          rw [show k + (i + 1) = k + 1 + i by omega] at ht hp
          exact .inr ⟨i, by rw [List.length_cons] at hi; omega, ht, hp⟩
      · rintro (⟨ht, hp⟩ | ⟨i, hi, ht, hp⟩)
        · exact ⟨0, by simp, ht, hp⟩
        · refine ⟨i + 1, by rw [List.length_cons]; omega, ?_⟩
          rw [show k + (i + 1) = k + 1 + i by omega]
          exact ⟨ht, hp⟩
    rw [step, ← ih, show rOf v ad wi (n :: l) k = if v k < endT ∧ v k - ad ≤ wi then ⟨n.key, itoaS (v k - ad)⟩ :: rOf v ad wi l (k + 1) else rOf v ad wi l (k + 1) from by rw [rOf]]
    split
    · rename_i ht
      rw [List.mem_cons]
      constructor
      · rintro (h | h)
        · exact .inl ⟨ht, h⟩
        · exact .inr h
      · rintro (⟨_, h⟩ | h)
        · exact .inl h
        · exact .inr h
    · rename_i ht
      constructor
      · intro h; exact .inr h
      · rintro (⟨h, _⟩ | h)
        · exact absurd h ht
        · exact h
/-- Is a node's key among those of the nodes that are reached? -/
theorem rOf_any {ns : List Node} (hS : SortN ns) (v : Nat → Int) (ad wi : Int) {k : Nat} (hk : k < ns.length) : ((rOf v ad wi ns 0).any fun p => decide (p.name = (ns.getD k default).key)) = decide (v k < endT ∧ v k - ad ≤ wi) := by
  rw [Bool.eq_iff_iff, List.any_eq_true, decide_eq_true_eq]
  constructor
  · rintro ⟨p, hp, he⟩
    obtain ⟨i, hi, ht, rfl⟩ := (rOf_mem v ad wi ns 0 p).1 hp
    have he' := of_decide_eq_true he
    have h1 := node_at hS hi
    have h2 := node_at hS hk
    rw [show (ns.getD i default).key = (ns.getD k default).key from he', h2] at h1
    rw [show 0 + i = k by omega] at ht
    exact ht
  · intro h
    exact ⟨_, (rOf_mem v ad wi ns 0 _).2 ⟨k, hk, by rw [Nat.zero_add]; exact h, rfl⟩, decide_eq_true rfl⟩
theorem rOf_self {ns : List Node} (hS : SortN ns) (v : Nat → Int) (ad wi : Int) {k : Nat} (hk : k < ns.length) (h : v k < endT ∧ v k - ad ≤ wi) : 0 < (rOf v ad wi ns 0).length := by
  have h1 := rOf_any hS v ad wi hk
  rw [decide_eq_true h] at h1
  cases hr : rOf v ad wi ns 0 with
  | nil => rw [hr] at h1; cases h1
  | cons x l => rw [List.length_cons]; omega
end Go.Proofs.YtbjbeddjaajdaaaGreatDoor
/- Two strings, sorted already: the sort lets them be. -/
namespace Go.Proofs.YtbjbeddjaajdaaaGreatDoor
open Go.RowKit Go.Proofs Go.Shelf

def sX : ByteArray := ⟨#[120]⟩
def sY : ByteArray := ⟨#[121]⟩
theorem w_isNaNS (a : ByteArray) (w : World) : Calls Tryz.prog 161 #[.string a] w fun e w' => e = .returned (.bool false) ∧ w = w' := by
  go_enter Tryz.func161, Tryz.ntmps161
  go_wp2
  go_ret
  exact ⟨rfl, rfl⟩
theorem w_LessYX (w : World) : Calls Tryz.prog 113 #[.string sY, .string sX] w fun e w' => e = .returned (.bool false) ∧ w = w' := by
  have t1 : Op.bytesLess sY.toList sX.toList = false := by rw [Lib.toList_data, Lib.toList_data]; decide
  go_enter Tryz.func113, Tryz.ntmps113
  go_wp2_with (go_at_call 161; refine (w_isNaNS _ _).mono ?_; rintro e w' ⟨rfl, rfl⟩)
  go_ret
  exact ⟨rfl, rfl⟩
set_option maxRecDepth 100000 in
set_option maxHeartbeats 1000000 in
theorem w_insXY (g c : Nat) (w : World) (h0 : w.cell? ⟨g, 0, none⟩ = some (.string sX)) (h1 : w.cell? ⟨g, 1, none⟩ = some (.string sY)) :
    Calls Tryz.prog 204 #[.slice (some ⟨g, 0, none⟩) 2 c, .int .i64 0, .int .i64 2] w fun e w' => e = .returned (.tuple #[]) ∧ Nx w w' := by
  go_enter Tryz.func204, Tryz.ntmps204
  go_wp2_with fail
  refine wp_loop_rounds 2 ?_
  rw [rounds_succ]
  go_wp2_with fail
  refine wp_loop_rounds 2 ?_
  rw [rounds_succ]
  go_wp2_with fail
  go_quiet ((go_at_call 113; exact Calls.quiet_of_same (flipc (w_LessYX _))))
  go_wp2_with fail
  rw [rounds_succ]
  go_wp2_with fail
  go_end0
  exact ⟨rfl, (Nx.refl _).drewN _⟩
set_option maxRecDepth 100000 in
set_option maxHeartbeats 1000000 in
theorem w_pdqXY (g c : Nat) (z : Int) (w : World) (h0 : w.cell? ⟨g, 0, none⟩ = some (.string sX)) (h1 : w.cell? ⟨g, 1, none⟩ = some (.string sY)) :
    Calls Tryz.prog 170 #[.slice (some ⟨g, 0, none⟩) 2 c, .int .i64 0, .int .i64 2, .int .i64 z] w fun e w' => e = .returned (.tuple #[]) ∧ Nx w w' := by
  go_enter Tryz.func170, Tryz.ntmps170
  go_wp2_with fail
  refine wp_loop_rounds 1 ?_
  rw [rounds_succ]
  go_wp2_with (go_at_call 204; refine (w_insXY g c w h0 h1).mono ?_; rintro e w1 ⟨rfl, hn1⟩)
  exact bodyPost_ret (results_none (by rfl) _ _ _) rfl ⟨rfl, hn1⟩
theorem w_Len (x : Int) (w : World) (h0 : 0 ≤ x) (h1 : x ≤ 1000000) : Calls Tryz.prog 110 #[.int .u64 x] w fun e w' => ∃ z : Int, e = .returned (.int .i64 z) ∧ w = w' :=
  (Any.bits_Len Tryz.bitsLen x w h0 (by omega)).mono fun _ _ ⟨h1, h2⟩ => ⟨_, h1, h2.symm⟩
theorem w_SortXY (g c : Nat) (w : World) (h0 : w.cell? ⟨g, 0, none⟩ = some (.string sX)) (h1 : w.cell? ⟨g, 1, none⟩ = some (.string sY)) :
    Calls Tryz.prog 120 #[.slice (some ⟨g, 0, none⟩) 2 c] w fun e w' => e = .returned (.tuple #[]) ∧ Nx w w' := by
  go_enter Tryz.func120, Tryz.ntmps120
  go_wp2_with (first
    | (go_at_call 110; refine (w_Len _ _ (by omega) (by omega)).mono ?_; rintro e w' ⟨z, rfl, rfl⟩)
    | (go_at_call 170; refine (w_pdqXY g c _ w h0 h1).mono ?_; rintro e w1 ⟨rfl, hn1⟩))
  go_end0
  exact ⟨rfl, hn1⟩
end Go.Proofs.YtbjbeddjaajdaaaGreatDoor
/- Two strings sorted; equal ones thrown together. -/
namespace Go.Proofs.YtbjbeddjaajdaaaGreatDoor
open Go.RowKit Go.Proofs Go.Shelf

theorem w_LessG (a b : ByteArray) (w : World) : Calls Tryz.prog 113 #[.string a, .string b] w fun e w' => e = .returned (.bool (Op.bytesLess a.toList b.toList)) ∧ w = w' := by
  go_enter Tryz.func113, Tryz.ntmps113
  go_wp2_with (go_at_call 161; refine (w_isNaNS _ _).mono ?_; rintro e w' ⟨rfl, rfl⟩)
  go_ret
  exact ⟨rfl, rfl⟩
def lo2 (a b : ByteArray) : ByteArray := if Op.bytesLess b.toList a.toList then b else a
def hi2 (a b : ByteArray) : ByteArray := if Op.bytesLess b.toList a.toList then a else b
/-- Two strings in a block, in order. -/
def Two2 (g : Nat) (a b : ByteArray) (w w' : World) : Prop := Gr g w w' ∧ w'.heap[g]? = some (.cells #[.string (lo2 a b), .string (hi2 a b)] 9 (0, 0))
set_option maxRecDepth 100000 in
set_option maxHeartbeats 2000000 in
theorem w_ins2 (g c : Nat) (a b : ByteArray) (w : World) (hg : w.heap[g]? = some (.cells #[.string a, .string b] 9 (0, 0))) :
    Calls Tryz.prog 204 #[.slice (some ⟨g, 0, none⟩) 2 c, .int .i64 0, .int .i64 2] w fun e w' => e = .returned (.tuple #[]) ∧ Two2 g a b w w' := by
  have h0 : w.cell? ⟨g, 0, none⟩ = some (.string a) := cell_of_row w g 0 _ _ _ hg
  have h1 : w.cell? ⟨g, 1, none⟩ = some (.string b) := cell_of_row w g 1 _ _ _ hg
  have f0 : w.frozen? ⟨g, 0, none⟩ = false := by simp [World.frozen?, hg]
  have f1 : w.frozen? ⟨g, 1, none⟩ = false := by simp [World.frozen?, hg]
  have HG := hide hg
  clear hg
  cases t : Op.bytesLess b.toList a.toList
  · have HE := hide (show lo2 a b = a ∧ hi2 a b = b by unfold lo2 hi2; rw [t]; exact ⟨rfl, rfl⟩)
    have hL := fun W => w_LessG b a W
    rw [t] at hL
    have HL := hide hL
    clear hL t
    go_enter Tryz.func204, Tryz.ntmps204
    go_wp2_with fail
    refine wp_loop_rounds 2 ?_
    rw [rounds_succ]
    go_wp2_with fail
    refine wp_loop_rounds 2 ?_
    rw [rounds_succ]
    go_wp2_with fail
    go_quiet ((go_at_call 113; exact Calls.quiet_of_same (flipc (HL.out _))))
    go_wp2_with fail
    rw [rounds_succ]
    go_wp2_with fail
    go_end0
    exact ⟨rfl, (Gr.refl _ _).drewN _, by rw [HE.out.1, HE.out.2]; exact HG.out⟩
  · have HE := hide (show lo2 a b = b ∧ hi2 a b = a by unfold lo2 hi2; rw [t]; exact ⟨rfl, rfl⟩)
    have hL := fun W => w_LessG b a W
    rw [t] at hL
    have HL := hide hL
    clear hL t
    go_enter Tryz.func204, Tryz.ntmps204
    go_wp2_with fail
    refine wp_loop_rounds 2 ?_
    rw [rounds_succ]
    go_wp2_with fail
    refine wp_loop_rounds 2 ?_
    rw [rounds_succ]
    go_wp2_with fail
    go_quiet ((go_at_call 113; exact Calls.quiet_of_same (flipc (HL.out _))))
    go_wp2_with fail
    go_region_with (fail)
    all_goals
      go_wp2_with fail
    all_goals
      rw [rounds_succ]
      go_wp2_with fail
      go_quiet (fail)
      go_wp2_with fail
      rw [rounds_succ]
      go_wp2_with fail
      go_end0
    all_goals
      refine ⟨rfl, (by repeat (first | exact Gr.refl _ _ | refine Gr.drewN ?_ _ | refine Gr.setS ?_ (.inl rfl) _)), ?_⟩
      rw [HE.out.1, HE.out.2]
      first
        | exact heap_set (i := 0) (heap_set (i := 1) (u := .string a) HG.out)
        | exact heap_set (i := 1) (heap_set (i := 0) (u := .string b) HG.out)
set_option maxRecDepth 100000 in
set_option maxHeartbeats 1000000 in
theorem w_pdq2 (g c : Nat) (a b : ByteArray) (z : Int) (w : World) (hg : w.heap[g]? = some (.cells #[.string a, .string b] 9 (0, 0))) :
    Calls Tryz.prog 170 #[.slice (some ⟨g, 0, none⟩) 2 c, .int .i64 0, .int .i64 2, .int .i64 z] w fun e w' => e = .returned (.tuple #[]) ∧ Two2 g a b w w' := by
  go_enter Tryz.func170, Tryz.ntmps170
  go_wp2_with fail
  refine wp_loop_rounds 1 ?_
  rw [rounds_succ]
  go_wp2_with (go_at_call 204; refine (w_ins2 g c a b w hg).mono ?_; rintro e w1 ⟨rfl, hn1⟩)
  exact bodyPost_ret (results_none (by rfl) _ _ _) rfl ⟨rfl, hn1⟩
theorem w_Sort2 (g c : Nat) (a b : ByteArray) (w : World) (hg : w.heap[g]? = some (.cells #[.string a, .string b] 9 (0, 0))) :
    Calls Tryz.prog 120 #[.slice (some ⟨g, 0, none⟩) 2 c] w fun e w' => e = .returned (.tuple #[]) ∧ Two2 g a b w w' := by
  go_enter Tryz.func120, Tryz.ntmps120
  go_wp2_with (first
    | (go_at_call 110; refine (w_Len _ _ (by omega) (by omega)).mono ?_; rintro e w' ⟨z, rfl, rfl⟩)
    | (go_at_call 170; refine (w_pdq2 g c a b _ w hg).mono ?_; rintro e w1 ⟨rfl, hn1⟩))
  go_end0
  exact ⟨rfl, hn1⟩
set_option maxRecDepth 100000 in
set_option maxHeartbeats 1000000 in
/-- Two strings that differ stay. -/
theorem w_Comp2 (g c : Nat) (a b : ByteArray) (w : World) (hg : w.heap[g]? = some (.cells #[.string a, .string b] 9 (0, 0))) (hne : a ≠ b) :
    Calls Tryz.prog 121 #[.slice (some ⟨g, 0, none⟩) 2 c] w fun e w' => e = .returned (.slice (some ⟨g, 0, none⟩) 2 c) ∧ Nx w w' := by
  have h0 : w.cell? ⟨g, 0, none⟩ = some (.string a) := cell_of_row w g 0 _ _ _ hg
  have h1 : w.cell? ⟨g, 1, none⟩ = some (.string b) := cell_of_row w g 1 _ _ _ hg
  have hne : (b.toList == a.toList) = false := by rw [eqS_iff]; exact decide_eq_false (fun e => hne e.symm)
  clear hg
  go_enter Tryz.func121, Tryz.ntmps121
  go_wp2_with fail
  refine wp_loop_rounds 2 ?_
  rw [rounds_succ]
  go_wp2_with fail
  go_quiet (fail)
  go_wp2_with fail
  rw [rounds_succ]
  go_wp2_with fail
  go_ret
  exact ⟨rfl, (Nx.refl _).drewN _⟩
set_option maxRecDepth 100000 in
set_option maxHeartbeats 1000000 in
/-- Of two equal strings one stays. -/
theorem w_Comp1 (g c : Nat) (a : ByteArray) (w : World) (hg : w.heap[g]? = some (.cells #[.string a, .string a] 9 (0, 0))) (hc : 2 ≤ c) :
    Calls Tryz.prog 121 #[.slice (some ⟨g, 0, none⟩) 2 c] w fun e w' => e = .returned (.slice (some ⟨g, 0, none⟩) 1 c) ∧ Gr g w w' ∧ w'.cell? ⟨g, 0, none⟩ = some (.string a) := by
  have h0 : w.cell? ⟨g, 0, none⟩ = some (.string a) := cell_of_row w g 0 _ _ _ hg
  have h1 : w.cell? ⟨g, 1, none⟩ = some (.string a) := cell_of_row w g 1 _ _ _ hg
  have f1 : w.frozen? ⟨g, 1, none⟩ = false := by simp [World.frozen?, hg]
  have hq : (a.toList == a.toList) = true := by simp
  clear hg
  have hcl : ∀ (n : Nat) ty, (Builtin.clear_ #[34] ty #[.slice (some ⟨g, 1, none⟩) 1 (c - 1)]).run Tryz.prog (w.drewN n) = .ok (.tuple #[]) ((w.drewN n).setCells g 1 (List.replicate 1 (.string ByteArray.empty))) := fun n ty =>
    Lib.run_clear_slice (w.drewN n) 34 9 ty (.string ByteArray.empty) Tryz.underlying34 (fun _ => by kernel_rfl) rfl rfl g 1 1 (c - 1) (by omega) (fun i hi => by obtain rfl : i = 0 := (by omega); show (w.cell? ⟨g, 1, none⟩).isSome = true; rw [h1]; rfl) (fun i hi => by obtain rfl : i = 0 := (by omega); exact f1)
  go_enter Tryz.func121, Tryz.ntmps121
  go_wp2_with fail
  refine wp_loop_rounds 2 ?_
  rw [rounds_succ]
  go_wp2_with fail
  go_quiet (fail)
  go_wp2_with fail
  refine wp_loop_rounds 1 ?_
  rw [rounds_succ]
  go_wp2_with (simp only [hcl])
  go_ret
  exact ⟨rfl, ((Gr.refl g w).drewN nq).setS (p := ⟨g, 1, none⟩) (.inl rfl) _, (World.cell?_setCell_other _ _ _ _ (by intro e; injection e with e1 e2; omega)).trans h0⟩
end Go.Proofs.YtbjbeddjaajdaaaGreatDoor
/- How long an arc takes at a moment: road.TimeOn, in general. -/
namespace Go.Proofs.YtbjbeddjaajdaaaGreatDoor
open Go.RowKit

/-- The nodes at an arc's ends. -/
def pairN (a b : ByteArray) : List Node := if a = b then [⟨a, 0, 0⟩] else [⟨lo2 a b, 0, 0⟩, ⟨hi2 a b, 0, 0⟩]
def timeOnF (a : Arc) (at_ : Int) : Int := if roadsF (pairN a.from_ a.to_) [a] [] = 0 then momF at_ else roadsF (pairN a.from_ a.to_) [a] []
def timeOnI (a : Arc) (at_ : Int) : Int := if timeOnF a at_ = 0 then timeI a.knots at_ else 0
theorem timeOn_ok {a : Arc} {ns : List Node} (h : roadsF ns [a] [] = 0) : KOk a.knots := by
  unfold roadsF at h
  by_cases h0 : nodesF ns = 0
  · rw [if_pos h0] at h
    by_cases h1 : chk (arcF ns) none [a] = 0
    · have h2 := chk_all (F := arcF ns) (Q := fun x => arcG ns x = 0) (fun p x hx => (arcF_ok hx).2) _ _ h1 a (by simp)
      exact knotsF_chk (arcG_ok h2).2.2.2.2
    · rw [if_neg h1] at h; exact absurd h h1
  · rw [if_neg h0] at h; exact absurd h h0
theorem el_NodeT : ElemOf Tryz.prog 26 76 3 32 := ElemOf.mk' (z := .agg #[.string ByteArray.empty, .int .i64 0, .int .i64 0]) Tryz.underlying26 (by kernel_rfl) rfl
theorem lo_hi_ne {a b : ByteArray} (h : a ≠ b) : lo2 a b ≠ hi2 a b := by
  unfold lo2 hi2
  cases Op.bytesLess b.toList a.toList with
  | true => exact fun e => h e.symm
  | false => exact h
theorem lo_hi_eq (a : ByteArray) : lo2 a a = a ∧ hi2 a a = a := by
  unfold lo2 hi2
  cases Op.bytesLess a.toList a.toList <;> exact ⟨rfl, rfl⟩
theorem lo_small {a b : ByteArray} (ha : a.size ≤ 1000000) (hb : b.size ≤ 1000000) : (lo2 a b).size ≤ 1000000 ∧ (hi2 a b).size ≤ 1000000 := by
  unfold lo2 hi2
  cases Op.bytesLess b.toList a.toList <;> exact ⟨by assumption, by assumption⟩
/-- The strings thrown together: one where they are equal. -/
theorem w_CompG (g c : Nat) (a b : ByteArray) (w : World) (hg : w.heap[g]? = some (.cells #[.string (lo2 a b), .string (hi2 a b)] 9 (0, 0))) (hc : 2 ≤ c) :
    Calls Tryz.prog 121 #[.slice (some ⟨g, 0, none⟩) 2 c] w fun e w' => e = .returned (.slice (some ⟨g, 0, none⟩) (pairN a b).length c) ∧ Gr g w w' ∧ (∀ i, i < (pairN a b).length → w'.cell? ⟨g, i, none⟩ = some (.string ((pairN a b).getD i default).key)) := by
  by_cases h : a = b
  · subst h
    rw [(lo_hi_eq a).1, (lo_hi_eq a).2] at hg
    refine (w_Comp1 g c a w hg hc).mono ?_
    rintro e w' ⟨rfl, h1, h2⟩
    have e : pairN a a = [⟨a, 0, 0⟩] := by unfold pairN; rw [if_pos rfl]
    rw [e]
    refine ⟨rfl, h1, fun i hi => ?_⟩
    obtain rfl : i = 0 := by simp at hi; exact hi
    exact h2
  · refine (w_Comp2 g c _ _ w hg (lo_hi_ne h)).mono ?_
    rintro e w' ⟨rfl, h1⟩
    have e : pairN a b = [⟨lo2 a b, 0, 0⟩, ⟨hi2 a b, 0, 0⟩] := by unfold pairN; rw [if_neg h]
    rw [e]
    have hl : g < w.heap.size := (Array.getElem?_eq_some_iff.1 hg).1
    refine ⟨rfl, Gr.of_nx h1, fun i hi => ?_⟩
    have hi' : i < 2 := hi
    rcases (by omega : i = 0 ∨ i = 1) with rfl | rfl
    · exact nx_cell h1 hl (cell_of_row w g 0 _ _ _ hg)
    · exact nx_cell h1 hl (cell_of_row w g 1 _ _ _ hg)
theorem pair_zero {a b : ByteArray} : ∀ x ∈ pairN a b, x = ⟨x.key, 0, 0⟩ := by
  unfold pairN
  intro x hx
  split at hx
  · simp at hx; subst hx; rfl
  · simp at hx; rcases hx with rfl | rfl <;> rfl
theorem pair_len (a b : ByteArray) : (pairN a b).length ≤ 2 := by unfold pairN; split <;> simp
theorem pair_small {a b : ByteArray} (ha : a.size ≤ 1000000) (hb : b.size ≤ 1000000) : SmallN (pairN a b) := by
  unfold pairN
  intro x hx
  split at hx
  · simp at hx; subst hx; exact ha
  · simp at hx
    rcases hx with rfl | rfl
    · exact (lo_small ha hb).1
    · exact (lo_small ha hb).2

set_option maxRecDepth 100000 in
set_option maxHeartbeats 4000000 in
theorem w_TimeOn (lo : Nat) (a : Arc) (at_ : Int) (w : World) (hK : Rd w lo a.ka 2 encKnot a.knots) (hkl : a.knots.length ≤ 400) (h1 : a.key.size ≤ 1000000) (h2 : a.from_.size ≤ 1000000) (h3 : a.to_.size ≤ 1000000) :
    Calls Tryz.prog 67 #[.agg #[.string a.key, .string a.from_, .string a.to_, .int .i64 a.long, .slice a.ka a.knots.length a.kc], .int .i64 at_] w fun e w' => e = .returned (.tuple #[.int .i64 (timeOnI a at_), .int .i64 (timeOnF a at_)]) ∧ Nx w w' := by
  have HPS := hide (pair_small h2 h3)
  have HPZ := hide (@pair_zero a.from_ a.to_)
  have HPL := hide (pair_len a.from_ a.to_)
  have HTI := hide (show timeOnI a at_ = if timeOnF a at_ = 0 then timeI a.knots at_ else 0 from rfl)
  have HTF := hide (show timeOnF a at_ = if roadsF (pairN a.from_ a.to_) [a] [] = 0 then momF at_ else roadsF (pairN a.from_ a.to_) [a] [] from rfl)
  have HCG := hide (fun g c W hg hc => w_CompG g c a.from_ a.to_ W hg hc)
  obtain ⟨wa, hwa⟩ : ∃ wa, wa = w.alloc (.cells #[.string a.key, .string a.from_, .string a.to_, .int .i64 a.long, .slice a.ka a.knots.length a.kc] 37) := ⟨_, rfl⟩
  have hna : Nx w wa := hwa ▸ (Nx.refl w).alloc _
  have hgw : w.heap.size < wa.heap.size := by rw [hwa]; simp
  have b0 : wa.cell? ⟨w.heap.size, 0, none⟩ = some (.string a.key) := by rw [hwa]; go_simp
  have b1 : wa.cell? ⟨w.heap.size, 1, none⟩ = some (.string a.from_) := by rw [hwa]; go_simp
  have b2 : wa.cell? ⟨w.heap.size, 2, none⟩ = some (.string a.to_) := by rw [hwa]; go_simp
  have b3 : wa.cell? ⟨w.heap.size, 3, none⟩ = some (.int .i64 a.long) := by rw [hwa]; go_simp
  have b4 : wa.cell? ⟨w.heap.size, 4, none⟩ = some (.slice a.ka a.knots.length a.kc) := by rw [hwa]; go_simp
  have HK := hide (fun W (hx : Nx wa W) => (hK.nx hna).nx hx)
  have HCR := hide (fun (lo1 g ca cn : Nat) (A : Option Addr) W (hx : Nx wa W) (hg : W.heap[g]? = some (.cells #[.string a.key, .string a.from_, .string a.to_, .int .i64 a.long, .slice a.ka a.knots.length a.kc] 37 (0, 0))) (hR : Rd W lo1 A 3 encNode (pairN a.from_ a.to_)) =>
    w_CheckRoads lo1 0 0 A (some ⟨g, 0, none⟩) none cn ca 0 (pairN a.from_ a.to_) [a] [] W hR HPS.out (by have := HPL.out; omega) ⟨Rd.lit hg (Nat.zero_le _) encArc_len rfl, fun x hx2 => by simp at hx2; subst hx2; exact ⟨(HK.out W hx).low (Nat.zero_le _), hkl, h1⟩⟩ (by simp) Rd.nil (by simp))
  clear hK
  generalize timeOnF a at_ = F at *
  generalize timeOnI a at_ = V at *
  generalize hpn : pairN a.from_ a.to_ = ps at *
  generalize hkn : a.knots.length = kn at *
  have HKN := hide hkn
  clear hkn hpn
  go_enter Tryz.func67, Tryz.ntmps67
  go_wp2_with fail
  rw [← hwa]
  obtain ⟨wb, hwb⟩ : ∃ wb, wb = wa.alloc (.cells #[.string a.from_, .string a.to_] 9) := ⟨_, rfl⟩
  rw [← hwb]
  have hsa : wa.heap.size = w.heap.size + 1 := by rw [hwa]; simp
  have hnb : Nx wa wb := hwb ▸ (Nx.refl wa).alloc _
  have hgb : w.heap.size + 1 < wb.heap.size := by rw [hwb]; simp; omega
  have kb : wb.heap[w.heap.size + 1]? = some (.cells #[.string a.from_, .string a.to_] 9 (0, 0)) := by rw [hwb]; exact hnew hsa.symm
  have HWA := hide hwa
  have HWB := hide hwb
  have HSA := hide hsa
  clear hwa hwb hsa
  obtain ⟨g1, hg1⟩ : ∃ g1, g1 = w.heap.size + 1 := ⟨_, rfl⟩
  rw [← hg1] at hgb kb ⊢
  have hag : wa.heap.size ≤ g1 := by have := HSA.out; omega
  clear hg1
  generalize w.heap.size = g0 at *
  refine (w_Sort2 g1 2 a.from_ a.to_ _ kb).mono ?_
  rintro e w1 ⟨rfl, hgr1, kb1⟩
  go_wp2_with fail
  refine (HCG.out g1 2 _ kb1 (by omega)).mono ?_
  rintro e w2 ⟨rfl, hgr2, hcells⟩
  have hx2 : Nx wa w2 := Nx.of_gr (((Gr.of_nx hnb).trans hgr1).trans hgr2) hag
  have hgd : g1 < w2.heap.size := by have h8 := hgr1.sz; have h9 := hgr2.sz; omega
  have HCE := hide hcells
  have hown0 : w2.ownsRow w2.heap.size 76 3 (.slice none 0 0) ([] : List Node).length (([] : List Node).flatMap encNode) := World.ownsRow_nil _ _ _ _
  have HO0 := hide hown0
  clear hown0 kb kb1 hgr1 hgr2 hcells
  generalize hpl : ps.length = pn at *
  have HPN := hide hpl
  clear hpl
  have hpn2 := HPL.out
  go_wp2_with fail
  go_loopw [7, 21] (fun v i wr => ∃ k : Nat, k ≤ pn ∧ i = .int .i64 k ∧ wr.ownsRow w2.heap.size 76 3 v (ps.take k).length ((ps.take k).flatMap encNode) ∧ Nx w2 wr) (fun _ i _ => pn - (intOf i).toNat)
  case atStart => exact ⟨0, Nat.zero_le _, rfl, HO0.out, Nx.refl _⟩
  case round =>
    obtain ⟨k, hk, rfl, hown, hbw⟩ := hrel
    have HOW := hide hown
    clear hown
    by_cases hlt : k < pn
    · have hlt' : k < ps.length := by have := HPN.out; omega
      have kc := nx_cell hbw hgd (HCE.out k hlt)
      rw [List.getD_eq_getElem?_getD, List.getElem?_eq_getElem hlt'] at kc
      replace kc : wr.cell? ⟨g1, k, none⟩ = some (.string ps[k].key) := kc
      have hz := HPZ.out ps[k] (List.getElem_mem hlt')
      have htk := List.take_succ_eq_append_getElem hlt'
      generalize ps[k] = x at *
      have HZ := hide hz
      have HTK := hide htk
      clear hz htk
      have hbs := hbw.sz
      have hkl2 : (ps.take k).length ≤ 10000000 := by rw [List.length_take]; omega
      go_wp2_with (at_builtin; refine wpApp rfl _ _ _ rfl el_NodeT encNode encNode_len encNode_one (by omega) (by omega) w2.heap.size _ (ps.take k) rfl (HOW.out.alloc _) _ x _ rfl (hnew rfl) (by rw [HZ.out]; rfl) hkl2 (by simp; omega) ?_; intro v3 w3 hown3 hg3)
      go_roundw
      case rel => exact ⟨k + 1, by omega, by go_num, by rw [HTK.out]; exact hown3, (hbw.alloc _).grown hg3 (own_blk_lt HOW.out)⟩
      case measure => simp [intOf]; omega
    · obtain rfl : pn = k := by omega
      have hown := HOW.out
      rw [List.take_of_length_le (by have := HPN.out; omega)] at hown
      obtain ⟨A4, c4, ev, hR4, _⟩ := Rd.of_own encNode_len rfl hown
      have HR4 := hide hR4
      have ha4 : Nx wa wr := hx2.trans hbw
      have d0 := nx_cell ha4 hgw b0
      have d1 := nx_cell ha4 hgw b1
      have d2 := nx_cell ha4 hgw b2
      have d3 := nx_cell ha4 hgw b3
      have d4 := nx_cell ha4 hgw b4
      have HPN2 := HPN.out
      subst ev
      clear hown hR4 hlt HOW HCE
      go_wp2_with fail
      have hx5 := (Nx.refl wr).alloc (.cells #[.string a.key, .string a.from_, .string a.to_, .int .i64 a.long, .slice a.ka kn a.kc] 37)
      refine (HCR.out _ _ 1 c4 A4 _ (ha4.trans hx5) (hnew rfl) (HR4.out.nx hx5)).mono ?_
      rintro e w5 ⟨rfl, hn5⟩
      have ha5 : Nx wa w5 := (ha4.trans hx5).trans hn5
      have e4 := nx_cell ha5 hgw b4
      by_cases hz : roadsF ps [a] [] = 0
      · have HOK := hide (timeOn_ok hz)
        rw [hz]
        have HTF2 := hide (HTF.out.trans (if_pos hz))
        clear hz
        cases hm : momB at_
        · have HF := hide (show F = 1 by rw [HTF2.out]; unfold momF; rw [hm]; rfl)
          go_wp2_with (go_at_call 104; refine (w_Moment _ _).mono ?_; rintro e w' ⟨rfl, rfl⟩)
          go_ret2
          exact ⟨by rw [HTI.out, HF.out]; rfl, hna.trans ha5⟩
        · have HF := hide (show F = 0 by rw [HTF2.out]; unfold momF; rw [hm]; rfl)
          have hb := outB_false.1 (show outB at_ 0 lastMo = false by unfold momB at hm; simpa using hm)
          unfold lastMo at hb
          go_wp2_with (first
            | (go_at_call 104; refine (w_Moment _ _).mono ?_; rintro e w' ⟨rfl, rfl⟩)
            | (go_at_call 122; refine (w_TimeD g0 lo a.ka a.kc a.knots at_ _ (by rw [HKN.out]; exact e4) (Nat.lt_of_lt_of_le hgw ha5.sz) (HK.out _ ha5) HOK.out hb).mono ?_; rintro e w6 ⟨rfl, hn6⟩))
          go_ret2
          exact ⟨by rw [HTI.out, HF.out]; rfl, hna.trans (ha5.trans hn6)⟩
      · have tz : (roadsF ps [a] [] != 0) = true := by simpa using hz
        have HF := hide (HTF.out.trans (if_neg hz))
        have HZ := hide hz
        clear hz
        go_wp2_with fail
        go_ret2
        exact ⟨by rw [HTI.out, HF.out, if_neg HZ.out]; rfl, hna.trans ha5⟩
end Go.Proofs.YtbjbeddjaajdaaaGreatDoor
/- Plain: TimeOn at an arc of right roads. -/
namespace Go.Proofs.YtbjbeddjaajdaaaGreatDoor

theorem lt_strLe {s q : ByteArray} (h : ltS q s) : strLe s q = false := by
  unfold strLe
  rw [Bool.or_eq_false_iff, Proofs.bytesLess_eq, Lib.toList_data, Lib.toList_data]
  unfold ltS at h
  refine ⟨decide_eq_false fun h2 => List.lt_irrefl _ (List.lt_trans h h2), ?_⟩
  rw [beq_eq_false_iff_ne]
  intro e
  rw [e] at h
  exact List.lt_irrefl _ h
theorem two_nodes {x y : ByteArray} (hx : keyB x = true) (hy : keyB y = true) (h : ltS x y) : nodesF [⟨x, 0, 0⟩, ⟨y, 0, 0⟩] = 0 := by
  have hl := lt_strLe h
  have hp : ptF 0 0 = 0 := by decide
  unfold nodesF
  simp [chk, nodeF, hx, hy, hl, hp]
theorem two_at {x y s : ByteArray} (h : s = x ∨ s = y) : 0 ≤ nodeI [⟨x, 0, 0⟩, ⟨y, 0, 0⟩] s := by
  unfold nodeI findI
  rw [idxP]
  by_cases h1 : x = s
  · rw [if_pos (decide_eq_true h1)]; omega
  · rw [if_neg (by simpa using h1), idxP, if_pos (decide_eq_true (h.elim (fun e => absurd e.symm h1) Eq.symm))]; omega
theorem pair_ok {a b : ByteArray} (hab : a ≠ b) (ha : keyB a = true) (hb : keyB b = true) : nodesF (pairN a b) = 0 ∧ 0 ≤ nodeI (pairN a b) a ∧ 0 ≤ nodeI (pairN a b) b := by
  unfold pairN
  rw [if_neg hab]
  unfold lo2 hi2
  cases hl : Op.bytesLess b.toList a.toList with
  | true =>
    have h : ltS b a := by
      rw [Proofs.bytesLess_eq, Lib.toList_data, Lib.toList_data] at hl
      exact (of_decide_eq_true hl : b.data.toList < a.data.toList)
    exact ⟨two_nodes hb ha h, two_at (.inr rfl), two_at (.inl rfl)⟩
  | false =>
    have h : ltS a b := by
      rw [Proofs.bytesLess_eq, Lib.toList_data, Lib.toList_data] at hl
      have h1 : ¬ ltS b a := (of_decide_eq_false hl : ¬ b.data.toList < a.data.toList)
      exact Classical.byContradiction fun h2 => hab (ltS_tri a b h2 h1)
    exact ⟨two_nodes ha hb h, two_at (.inl rfl), two_at (.inr rfl)⟩
theorem node_key {ns : List Node} (h : nodesF ns = 0) {s : ByteArray} (hs : 0 ≤ nodeI ns s) : keyB s = true := by
  obtain ⟨i, hi, _, rfl⟩ := node_found hs
  exact nodes_keys h _ (mem_getD hi)
theorem timeOn_right {ns : List Node} {rs : List Arc} (hN : nodesF ns = 0) (hC : chk (arcF ns) none rs = 0) {k : Nat} (hk : k < rs.length) {at_ : Int} (hm : momB at_ = true) : timeOnF (arcX rs k) at_ = 0 ∧ timeOnI (arcX rs k) at_ = timeI (arcX rs k).knots at_ := by
  have hA := chk_all (F := arcF ns) (Q := fun a => keyB a.key = true ∧ arcG ns a = 0) (fun p x hx => arcF_ok hx) rs none hC _ (arcX_mem hk)
  obtain ⟨h1, h2, h3, h4, h5⟩ := arcG_ok hA.2
  obtain ⟨p1, p2, p3⟩ := pair_ok h3 (node_key hN h1) (node_key hN h2)
  have hG : arcG (pairN (arcX rs k).from_ (arcX rs k).to_) (arcX rs k) = 0 := by
    unfold arcG
    rw [if_neg (by omega), if_neg h3, h4]
    exact h5
  have hF : chk (arcF (pairN (arcX rs k).from_ (arcX rs k).to_)) none [arcX rs k] = 0 := by
    have e : arcF (pairN (arcX rs k).from_ (arcX rs k).to_) none (arcX rs k) = 0 := by
      unfold arcF
      rw [hA.1, if_pos rfl]
      exact hG
    rw [chk, if_pos e]
    rfl
  have hR : roadsF (pairN (arcX rs k).from_ (arcX rs k).to_) [arcX rs k] [] = 0 := by
    unfold roadsF
    rw [if_pos p1, if_pos hF]
    rfl
  have h0 : timeOnF (arcX rs k) at_ = 0 := by
    unfold timeOnF
    rw [if_pos hR]
    unfold momF argF
    rw [hm]
    rfl
  exact ⟨h0, by unfold timeOnI; rw [if_pos h0]⟩
theorem time_later {ns : List Node} {rs : List Arc} (hC : chk (arcF ns) none rs = 0) {k : Nat} (hk : k < rs.length) {t t' : Int} (h : t ≤ t') : t + timeI (arcX rs k).knots t ≤ t' + timeI (arcX rs k).knots t' := time_fifo (arc_right hC hk).2.2.2 h
end Go.Proofs.YtbjbeddjaajdaaaGreatDoor
/- Plain: a drive that can be walked is no earlier than the fastest way. -/
namespace Go.Proofs.YtbjbeddjaajdaaaGreatDoor

theorem arc_there {rs : List Arc} {s : ByteArray} (h : 0 ≤ arcI rs s) : (arcI rs s).toNat < rs.length ∧ (arcX rs (arcI rs s).toNat).key = s := by
  rcases findI_bd (fun n : Arc => decide (n.key = s)) rs with e | ⟨k, hk, e⟩
  · have e : arcI rs s = -1 := e
    omega
  · have e' : arcI rs s = (k : Int) := e
    have := findI_sat (fun n : Arc => decide (n.key = s)) rs e
    rw [e']
    exact ⟨hk, of_decide_eq_true this.2⟩
theorem key_ne {s : ByteArray} (h : keyB s = true) : s ≠ ByteArray.empty := by
  rintro rfl
  exact absurd h (by decide)
section
variable {ns : List Node} {rs : List Arc} {bs : List Ban} {a : Nat} {at_ : Int}
theorem drive_go (hN : nodesF ns = 0) (hC : chk (arcF ns) none rs = 0) : ∀ (l : List ByteArray) (p : ByteArray) (t : Int) (ts : List Int), 0 ≤ arcI rs p → Rch (gphOf ns rs bs) a at_ (arcI rs p).toNat t → chainF rs bs (arcAt rs p).to_ (some p) l = 0 → walkO rs t l = some ts →
    0 ≤ arcI rs (l.getLastD p) ∧ Rch (gphOf ns rs bs) a at_ (arcI rs (l.getLastD p)).toNat (ts.getLastD t)
  | [], p, t, ts, hp, hr, _, hw => by
    injection hw with hw
    subst hw
    exact ⟨hp, hr⟩
  | k :: l, p, t, ts, hp, hr, hc, hw => by
    unfold chainF at hc
    by_cases h1 : arcI rs k < 0
    · rw [if_pos h1] at hc; exact absurd hc (by decide)
    rw [if_neg h1] at hc
    by_cases h2 : (arcAt rs p).to_ ≠ ByteArray.empty ∧ (arcAt rs k).from_ ≠ (arcAt rs p).to_
    · rw [if_pos h2] at hc; exact absurd hc (by decide)
    rw [if_neg h2] at hc
    cases h3 : prevBan bs (some p) k with
    | true => rw [h3, if_pos rfl] at hc; exact absurd hc (by decide)
    | false =>
      rw [h3, if_neg (by simp)] at hc
      unfold walkO at hw
      by_cases h4 : 345686400000 ≤ outAt rs t k
      · rw [if_pos h4] at hw; cases hw
      rw [if_neg h4] at hw
      cases h5 : walkO rs (outAt rs t k) l with
      | none => rw [h5] at hw; cases hw
      | some ts2 =>
        rw [h5] at hw
        have hw : outAt rs t k :: ts2 = ts := by injection hw
        subst hw
        obtain ⟨fp, fk⟩ := arc_there hp
        obtain ⟨gp, gk⟩ := arc_there (show 0 ≤ arcI rs k by omega)
        have hrp := arc_right hC fp
        have hto : (arcAt rs p).to_ ≠ ByteArray.empty := key_ne (node_key hN hrp.2.1)
        have hfr : (arcAt rs k).from_ = (arcAt rs p).to_ := Classical.byContradiction fun h => h2 ⟨hto, h⟩
        have hs : Rch (gphOf ns rs bs) a at_ (arcI rs k).toNat (outAt rs t k) := by
          refine .step (g := gphOf ns rs bs) (arcI rs p).toNat (arcI rs k).toNat t hr gp ?_ ?_ ?_
          · show nodeN ns (arcX rs (arcI rs k).toNat).from_ = nodeN ns (arcX rs (arcI rs p).toNat).to_
            exact congrArg (nodeN ns) hfr
          · show bannedB bs (arcX rs (arcI rs p).toNat).key (arcX rs (arcI rs k).toNat).key = false
            rw [fk, gk]
            exact h3
          · show outAt rs t k < endT
            unfold endT
            omega
        have ih := drive_go hN hC l k (outAt rs t k) ts2 (by omega) hs hc h5
        rw [List.getLastD_cons, List.getLastD_cons]
        exact ih
/-- The fastest way is no later than a drive. -/
theorem drive_arr {fr k : ByteArray} {l : List ByteArray} {ts : List Int} (hN : nodesF ns = 0) (hC : chk (arcF ns) none rs = 0) (hfr : 0 ≤ nodeI ns fr) (h0 : 0 ≤ at_) (hc : chainF rs bs fr none (k :: l) = 0) (hw : walkO rs at_ (k :: l) = some ts) :
    0 ≤ arcI rs (l.getLastD k) ∧ 0 ≤ nodeI ns (arcAt rs (l.getLastD k)).to_ ∧ arrG (gphOf ns rs bs) (nodeN ns fr) (nodeN ns (arcAt rs (l.getLastD k)).to_) at_ ≤ ts.getLastD at_ ∧ at_ < ts.getLastD at_ ∧ ts.getLastD at_ < endT := by
  have hg := gph_ok (bs := bs) hC
  unfold chainF at hc
  by_cases h1 : arcI rs k < 0
  · rw [if_pos h1] at hc; exact absurd hc (by decide)
  rw [if_neg h1] at hc
  by_cases h2 : fr ≠ ByteArray.empty ∧ (arcAt rs k).from_ ≠ fr
  · rw [if_pos h2] at hc; exact absurd hc (by decide)
  rw [if_neg h2, show prevBan bs none k = false from rfl, if_neg (by simp)] at hc
  unfold walkO at hw
  by_cases h4 : 345686400000 ≤ outAt rs at_ k
  · rw [if_pos h4] at hw; cases hw
  rw [if_neg h4] at hw
  cases h5 : walkO rs (outAt rs at_ k) l with
  | none => rw [h5] at hw; cases hw
  | some ts2 =>
    rw [h5] at hw
    have hw : outAt rs at_ k :: ts2 = ts := by injection hw
    subst hw
    obtain ⟨gp, gk⟩ := arc_there (show 0 ≤ arcI rs k by omega)
    have hf : (arcAt rs k).from_ = fr := Classical.byContradiction fun h => h2 ⟨key_ne (node_key hN hfr), h⟩
    have hs : Rch (gphOf ns rs bs) (nodeN ns fr) at_ (arcI rs k).toNat (outAt rs at_ k) := by
      refine .start (g := gphOf ns rs bs) (arcI rs k).toNat gp ?_ ?_
      · show nodeN ns (arcX rs (arcI rs k).toNat).from_ = nodeN ns fr
        exact congrArg (nodeN ns) hf
      · show outAt rs at_ k < endT
        unfold endT
        omega
    obtain ⟨hq, hr⟩ := drive_go (bs := bs) hN hC l k (outAt rs at_ k) ts2 (by omega) hs hc h5
    rw [List.getLastD_cons]
    obtain ⟨qp, _⟩ := arc_there hq
    have hrq := arc_right hC qp
    have hge := hr.ge hg h0
    have hA := arrG_ok hg h0 (show nodeN ns fr < (gphOf ns rs bs).nn from nodeN_lt hfr) (show nodeN ns (arcAt rs (l.getLastD k)).to_ < (gphOf ns rs bs).nn from nodeN_lt hrq.2.1)
    refine ⟨hq, hrq.2.1, ?_, hge.1, hge.2⟩
    rcases hA with ⟨_, e⟩ | ⟨_, ⟨_, hn⟩ | ⟨k2, _, _, hm⟩⟩
    · rw [e]; omega
    · exact absurd rfl (hn _ _ hr)
    · exact hm _ _ hr rfl
end
end Go.Proofs.YtbjbeddjaajdaaaGreatDoor
/- Plain: what the law WaysCanBeWalked weighs. -/
namespace Go.Proofs.YtbjbeddjaajdaaaGreatDoor

theorem walk_len (rs : List Arc) : ∀ (l : List ByteArray) (a : Int) (r : List Int), walkO rs a l = some r → r.length = l.length
  | [], a, r, h => by injection h with h; subst h; rfl
  | k :: l, a, r, h => by
    unfold walkO at h
    by_cases h1 : 345686400000 ≤ outAt rs a k
    · rw [if_pos h1] at h; cases h
    rw [if_neg h1] at h
    cases h2 : walkO rs (outAt rs a k) l with
    | none => rw [h2] at h; cases h
    | some r2 =>
      rw [h2] at h
      have h : outAt rs a k :: r2 = r := by injection h
      subst h
      rw [List.length_cons, List.length_cons, walk_len rs l _ _ h2]
theorem last_at : ∀ (l : List Int) (x : Int), (x :: l).getD l.length 0 = l.getLastD x
  | [], x => rfl
  | y :: l, x => by
    rw [List.getLastD_cons]
    exact last_at l y
section
variable {ns : List Node} {rs : List Arc} {bs : List Ban} {f t : ByteArray} {ad : Int}
theorem walk_cases {l : List ByteArray} (hR : roadsF ns rs bs = 0) (hf : 0 ≤ nodeI ns f) (hm : momB ad = true) (hc : chainF rs bs f none l = 0) :
    (walkO rs ad l = none ∧ walkF ns rs bs f ad l = 12 ∧ walkL ns rs bs f ad l = []) ∨ ∃ ts, walkO rs ad l = some ts ∧ walkF ns rs bs f ad l = 0 ∧ walkL ns rs bs f ad l = ad :: ts ∧ ts.length = l.length := by
  have e : walkF ns rs bs f ad l = if (walkO rs ad l).isSome then 0 else 12 := by
    unfold walkF
    rw [if_pos hR, if_neg (by omega), hm, if_pos rfl, if_pos hc]
  cases h : walkO rs ad l with
  | none =>
    rw [h] at e
    have e : walkF ns rs bs f ad l = 12 := e
    exact .inl ⟨rfl, e, by unfold walkL; rw [e, if_neg (by decide)]⟩
  | some ts =>
    rw [h] at e
    have e : walkF ns rs bs f ad l = 0 := e
    refine .inr ⟨ts, rfl, e, ?_, walk_len rs l ad ts h⟩
    unfold walkL
    rw [if_pos e, h]
    rfl
theorem way_walk {keys : List ByteArray} {ar : Int} (h : WayOk ns rs bs f t keys ad ar) (hR : roadsF ns rs bs = 0) (hf : 0 ≤ nodeI ns f) (hm : momB ad = true) :
    walkF ns rs bs f ad keys = 0 ∧ (walkL ns rs bs f ad keys).length = keys.length + 1 ∧ (walkL ns rs bs f ad keys).getD keys.length 0 = ar := by
  obtain ⟨ts, h1, h2⟩ := h.walk
  rcases walk_cases hR hf hm h.chain with ⟨e, _⟩ | ⟨ts', e, e1, e2, e3⟩
  · rw [e] at h1; cases h1
  · rw [e] at h1
    injection h1 with h1
    subst h1
    refine ⟨e1, by rw [e2, List.length_cons, e3], ?_⟩
    rw [e2, ← h2, ← e3]
    cases ts' with
    | nil => rfl
    | cons x l =>
      rw [List.getLastD_cons, List.getLastD_cons, List.length_cons]
      exact last_at l x
end
theorem leave_ex (g : Gph) (a b : Nat) (by_ : Int) (h : 0 ≤ by_) : ∃ L, LeaveOk g a b by_ L := by
  have key : ∀ n : Nat, (n : Int) ≤ by_ + 1 → (∃ L, LeaveOk g a b by_ L) ∨ ∀ j, by_ - n < j → j ≤ by_ → ¬ arrG g a b j ≤ by_ := by
    intro n
    induction n with
    | zero => intro _; exact .inr fun j h1 h2 => by omega
    | succ n ih =>
      intro hn
      rcases ih (by omega) with h1 | h1
      · exact .inl h1
      · by_cases hp : arrG g a b (by_ - n) ≤ by_
        · refine .inl ⟨by_ - n, by omega, by omega, fun _ => hp, fun hlt => h1 _ (by omega) (by omega)⟩
        · refine .inr fun j h2 h3 => ?_
          by_cases e : j = by_ - n
          · rw [e]; exact hp
          · exact h1 j (by omega) h3
  rcases key (by_ + 1).toNat (by omega) with h1 | h1
  · exact h1
  · exact ⟨-1, by omega, by omega, fun h => by omega, fun _ => h1 _ (by omega) (by omega)⟩
theorem leave_ge {g : Gph} (hg : GOk g) {a b : Nat} {by_ L ad : Int} (ha : a < g.nn) (hb : b < g.nn) (h : LeaveOk g a b by_ L) (_h0 : 0 ≤ ad) (hle : ad ≤ by_) (hby : by_ < endT) (hp : arrG g a b ad ≤ by_) : ad ≤ L := by
  refine Classical.byContradiction fun hc => ?_
  have hlow := h.low
  have := arrG_mono hg (show 0 ≤ L + 1 by omega) (show L + 1 ≤ ad by omega) (show ad < endT by omega) ha hb
  exact h.last (by omega) (by omega)
end Go.Proofs.YtbjbeddjaajdaaaGreatDoor
/- Fastest and Latest of right roads, as the laws of what must keep want them. -/
namespace Go.Proofs.YtbjbeddjaajdaaaGreatDoor
open Go.RowKit

theorem FastIs.none0 {ns : List Node} {rs : List Arc} {bs : List Ban} {f t : ByteArray} {ad : Int} {x : WayA} (h : FastIs ns rs bs f t ad x) (hi : x.is = false) : x.ar = 0 := by
  cases h with
  | bad h => rfl
  | none h h1 => rfl
  | way h h1 l hc hl => cases hi
theorem FastIs.len2 {ns : List Node} {rs : List Arc} {bs : List Ban} {f t : ByteArray} {ad : Int} {x : WayA} (h : FastIs ns rs bs f t ad x) : x.keys.length ≤ rs.length := by
  cases h with
  | bad h => exact Nat.zero_le _
  | none h h1 => exact Nat.zero_le _
  | way h h1 l hc hl => show (keysOf rs l.reverse).length ≤ _; unfold keysOf; rw [List.length_map, List.length_reverse]; exact hl
theorem ends_zero {ns : List Node} {rs : List Arc} {bs : List Ban} {f t : ByteArray} {ad : Int} (hR : roadsF ns rs bs = 0) (hf : 0 ≤ nodeI ns f) (ht : 0 ≤ nodeI ns t) (hm : momB ad = true) : endsF ns rs bs f t ad = 0 := by
  unfold endsF
  rw [if_pos hR, if_neg (by omega), hm, if_pos rfl]
/-- Fastest of right arguments: what it answers in many worlds. -/
theorem fast_right (lo : Nat) (A B C : Option Addr) (ca cb cc : Nat) (ns : List Node) (rs : List Arc) (bs : List Ban) (f t : ByteArray) (ad : Int) (Q : World → Prop)
    (hQ : ∀ W, Q W → lo ≤ W.heap.size ∧ Rd W lo A 3 encNode ns ∧ RdArcs W lo B rs ∧ Rd W lo C 2 encBan bs) (hnl : ns.length ≤ 400) (hal : rs.length ≤ 400) (hbl : bs.length ≤ 400) (hS : SmallN ns)
    (hR : roadsF ns rs bs = 0) (hf : 0 ≤ nodeI ns f) (ht : 0 ≤ nodeI ns t) (hm : momB ad = true) :
    ∃ (keys : List ByteArray) (n : Nat) (lv ar : Int) (is : Bool), keys.length = n ∧ n ≤ rs.length ∧
      (∀ W, Q W → Calls Tryz.prog 38 #[.agg #[.slice A ns.length ca, .slice B rs.length cb, .slice C bs.length cc], .string f, .string t, .int .i64 ad] W fun e w' => ∃ (Z : Option Addr) (c : Nat), e = .returned (.tuple #[.agg #[.slice Z n c, .int .i64 lv, .int .i64 ar], .bool is, .int .i64 0]) ∧ Rd w' 0 Z 1 encS keys ∧ Nx W w') ∧
      is = decide (arrG (gphOf ns rs bs) (nodeN ns f) (nodeN ns t) ad < endT) ∧ (is = false → ar = 0) ∧ (is = true → lv = ad ∧ ar = arrG (gphOf ns rs bs) (nodeN ns f) (nodeN ns t) ad ∧ WayOk ns rs bs f t keys lv ar) := by
  obtain ⟨x, hx⟩ := fast_ex ns rs bs f t ad hal
  have hE := ends_zero (bs := bs) hR hf ht hm
  obtain ⟨h1, h2, h3⟩ := hx.law hal
  refine ⟨x.keys, x.keys.length, x.lv, x.ar, x.is, rfl, hx.len2, fun W hW => ?_, (h3 hE).1, hx.none0, fun h' => ?_⟩
  · obtain ⟨q0, q1, q2, q3⟩ := hQ W hW
    refine (w_FastAll lo A B C ca cb cc ns rs bs f t ad x hx W q0 q1 q2 q3 hnl hal hbl hS).mono ?_
    rintro e w' ⟨Z, c, rfl, hR, hn⟩
    exact ⟨Z, c, by rw [h1, hE], hR.low (Nat.zero_le _), hn⟩
  · obtain ⟨a1, a2, a3⟩ := (h3 hE).2 h'
    exact ⟨a1, a2, a1 ▸ a3⟩
/-- Of two moments: who leaves later arrives no earlier, and comes there too. -/
theorem fast_later {ns : List Node} {rs : List Arc} {bs : List Ban} {f t : ByteArray} {ad la : Int} {i1 i2 : Bool} {a1 a2 : Int} (hR : roadsF ns rs bs = 0) (hal : rs.length ≤ 400) (hf : 0 ≤ nodeI ns f) (ht : 0 ≤ nodeI ns t) (h0 : 0 ≤ ad) (hl : ad ≤ la) (hb : la ≤ 1000000)
    (h1 : i1 = decide (arrG (gphOf ns rs bs) (nodeN ns f) (nodeN ns t) ad < endT)) (h2 : i2 = decide (arrG (gphOf ns rs bs) (nodeN ns f) (nodeN ns t) la < endT)) (z1 : i1 = false → a1 = 0) (z2 : i2 = false → a2 = 0)
    (y1 : i1 = true → a1 = arrG (gphOf ns rs bs) (nodeN ns f) (nodeN ns t) ad) (y2 : i2 = true → a2 = arrG (gphOf ns rs bs) (nodeN ns f) (nodeN ns t) la) : i1 = i2 ∧ a1 ≤ a2 := by
  have hC := (roads_ok hR).2.1
  have hiff := later_is (bs := bs) hC hal (nodeN_lt hf) (nodeN_lt ht) h0 hl (by omega)
  have he : i1 = i2 := by rw [h1, h2, decide_eq_decide]; exact hiff
  refine ⟨he, ?_⟩
  cases hi : i1 with
  | false => rw [z1 hi, z2 (he ▸ hi)]; exact Int.le_refl _
  | true =>
    rw [y1 hi, y2 (he ▸ hi)]
    exact arrG_mono (gph_ok hC) h0 hl (by unfold endT; omega) (nodeN_lt hf) (nodeN_lt ht)
end Go.Proofs.YtbjbeddjaajdaaaGreatDoor
