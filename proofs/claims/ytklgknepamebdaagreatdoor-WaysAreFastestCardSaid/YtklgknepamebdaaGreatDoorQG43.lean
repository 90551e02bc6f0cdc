/- The fastest way asked for: none, or the one. -/
import Derived.Test.YtklgknepamebdaaGreatDoorQG35
import Derived.Test.YtklgknepamebdaaGreatDoorQSrchV
import Derived.Test.YtklgknepamebdaaGreatDoorQG40
import Derived.Deep.DeepCutAuto
import Derived.Deep.RegionHeld
import Derived.Test.YtklgknepamebdaaGreatDoorQNewW
import Derived.Test.YtklgknepamebdaaGreatDoorQG26
namespace Go.Proofs.YtklgknepamebdaaGreatDoor
open Go.RowKit
set_option maxRecDepth 100000 in
set_option maxHeartbeats 4000000 in
theorem w_FastNo (lo : Nat) (A B C : Option Addr) (ca cb cc : Nat) (ns : List Node) (rs : List Arc) (bs : List Ban) (f t : ByteArray) (ad : Int) (i j : Nat) (w : World) (_hlo : lo ≤ w.heap.size)
    (hN : Rd w lo A 3 encNode ns) (hA : RdArcs w lo B rs) (hB : Rd w lo C 2 encBan bs) (hnl : ns.length ≤ 400) (hal : rs.length ≤ 400) (hbl : bs.length ≤ 400)
    (hS : SmallN ns) (hF : roadsF ns rs bs = 0) (hOK : NewOk ns rs bs) (hi : nodeI ns f = (i : Int)) (hj : nodeI ns t = (j : Int)) (hil : i < ns.length) (hjl : j < ns.length) (ha : momB ad = true)
    (hno : gi (searchG (gphOf ns rs bs) i ad).first j < 0) :
    Calls Tryz.prog 28 #[.agg #[.slice A ns.length ca, .slice B rs.length cb, .slice C bs.length cc], .string f, .string t, .int .i64 ad] w fun e w' => e = .returned (.tuple #[.agg #[.slice none 0 0, .int .i64 0, .int .i64 0], .bool false, .int .i64 0]) ∧ Nx w w' := by
  obtain ⟨wa, hwa⟩ : ∃ wa, wa = w.alloc (.cells #[.slice A ns.length ca, .slice B rs.length cb, .slice C bs.length cc] 30) := ⟨_, rfl⟩
  have hna : Nx w wa := hwa ▸ (Nx.refl w).alloc _
  have hgw : w.heap.size < wa.heap.size := by rw [hwa]; simp
  have b0 : wa.cell? ⟨w.heap.size, 0, none⟩ = some (.slice A ns.length ca) := by rw [hwa]; go_simp
  have b1 : wa.cell? ⟨w.heap.size, 1, none⟩ = some (.slice B rs.length cb) := by rw [hwa]; go_simp
  have b2 : wa.cell? ⟨w.heap.size, 2, none⟩ = some (.slice C bs.length cc) := by rw [hwa]; go_simp
  have hBox : BoxR wa w.heap.size lo A B C ca cb cc ns rs bs := ⟨b0, b1, b2, hgw, hN.nx hna, hA.nx hna, hB.nx hna, hnl, hal, hbl⟩
  have HC := hide (fun W (hx : Nx wa W) => w_Ends w.heap.size lo A B C ca cb cc ns rs bs f t ad i j W (hBox.nx hx) hS hF hOK hi hj ha)
  have HRC := hide (roads_ok hF).2.1
  have HNO := hide hno
  have HAD := hide (momB_true.1 ha)
  clear hBox b0 b1 b2 hN hA hB hF hOK hi hj hno ha
  have HWA := hide hwa
  go_enter Tryz.func28, Tryz.ntmps28
  go_wp2_with fail
  rw [show w.heap.size + 1 = wa.heap.size by rw [hwa]; simp]
  rw [← hwa]
  clear hwa
  refine (HC.out _ ((Nx.refl _).alloc _)).mono ?_
  rintro e w1 ⟨bm, M, rfl, hbm, hM, hn1⟩
  have HM := hide hM
  have HN1 := hide hn1
  clear hM hn1
  go_wp2_with fail
  refine (w_Search w1 bm i ad w.heap.size lo A B C ca cb cc M ns rs bs HM.out HRC.out hil HAD.out).mono ?_
  rintro e w2 ⟨a, rfl, hSM⟩
  have HT := hide hSM.tree
  have HN2 := hide (HN1.out.trans hSM.nx)
  clear hSM
  go_wp2_with fail
  refine (w_WayNo w2 a bm i ns.length rs.length j ad _ HT.out hjl HNO.out).mono ?_
  rintro e w3 ⟨rfl, hn3⟩
  have hn := HN2.out.trans hn3
  have b8 : w3.heap[wa.heap.size]? = some (.cells #[.slice none 0 0, .int .i64 0, .int .i64 0] 62 (0, 0)) := (hn.block _ (by simp)).trans (hnew rfl)
  have q0 : w3.cell? ⟨wa.heap.size, 0, none⟩ = some (.slice none 0 0) := (cell_of_row w3 _ 0 _ _ _ b8).trans rfl
  have q1 : w3.cell? ⟨wa.heap.size, 1, none⟩ = some (.int .i64 0) := (cell_of_row w3 _ 1 _ _ _ b8).trans rfl
  have q2 : w3.cell? ⟨wa.heap.size, 2, none⟩ = some (.int .i64 0) := (cell_of_row w3 _ 2 _ _ _ b8).trans rfl
  have f0 := frozen_blkQ (j := 0) b8
  have f1 := frozen_blkQ (j := 1) b8
  have f2 := frozen_blkQ (j := 2) b8
  have hx8 := lt_of_heap b8
  have HNN := hide (hna.trans (((Nx.refl wa).alloc _).trans hn))
  clear hn hn3
  go_wp2_with fail
  have s1 := Gr.setS (Gr.of_nx (s := wa.heap.size) HNN.out) (p := ⟨wa.heap.size, 0, none⟩) (Or.inl rfl) (.slice none 0 0)
  have s2 := Gr.setS s1 (p := ⟨wa.heap.size, 1, none⟩) (Or.inl rfl) (.int .i64 0)
  have s3 := Gr.setS s2 (p := ⟨wa.heap.size, 2, none⟩) (Or.inl rfl) (.int .i64 0)
  have hW := Nx.of_gr s3 hna.sz
  exact bodyPost_ret (v := .tuple #[.agg #[.slice none 0 0, .int .i64 0, .int .i64 0], .bool false, .int .i64 0]) (by simp [results, Tryz.results28, go_sem, q0, q1, q2, hx8]) rfl ⟨rfl, hW.alloc _⟩
def FastOut (w : World) (ad f : Int) (keys : List ByteArray) (e : Ending) (w' : World) : Prop := ∃ (Z : Option Addr) (c : Nat), e = .returned (.tuple #[.agg #[.slice Z keys.length c, .int .i64 ad, .int .i64 f], .bool true, .int .i64 0]) ∧ Rd w' w.heap.size Z 1 encS keys ∧ Nx w w'
set_option maxRecDepth 100000 in
set_option maxHeartbeats 4000000 in
theorem w_FastYes (lo : Nat) (A B C : Option Addr) (ca cb cc : Nat) (ns : List Node) (rs : List Arc) (bs : List Ban) (f t : ByteArray) (ad : Int) (i j : Nat) (w : World) (_hlo : lo ≤ w.heap.size)
    (hN : Rd w lo A 3 encNode ns) (hA : RdArcs w lo B rs) (hB : Rd w lo C 2 encBan bs) (hnl : ns.length ≤ 400) (hal : rs.length ≤ 400) (hbl : bs.length ≤ 400)
    (hS : SmallN ns) (hF : roadsF ns rs bs = 0) (hOK : NewOk ns rs bs) (hi : nodeI ns f = (i : Int)) (hj : nodeI ns t = (j : Int)) (hil : i < ns.length) (hjl : j < ns.length) (ha : momB ad = true)
    (z : Int) (hz : gi (searchG (gphOf ns rs bs) i ad).first j = z) (hyes : 0 ≤ z) (l : List Nat) (hch : Chain rs.length (searchG (gphOf ns rs bs) i ad).prev (gi (searchG (gphOf ns rs bs) i ad).last j) l) (hll : l.length ≤ 400) :
    Calls Tryz.prog 28 #[.agg #[.slice A ns.length ca, .slice B rs.length cb, .slice C bs.length cc], .string f, .string t, .int .i64 ad] w (FastOut w ad z (keysOf rs l.reverse)) := by
  obtain ⟨wa, hwa⟩ : ∃ wa, wa = w.alloc (.cells #[.slice A ns.length ca, .slice B rs.length cb, .slice C bs.length cc] 30) := ⟨_, rfl⟩
  have hna : Nx w wa := hwa ▸ (Nx.refl w).alloc _
  have hgw : w.heap.size < wa.heap.size := by rw [hwa]; simp
  have b0 : wa.cell? ⟨w.heap.size, 0, none⟩ = some (.slice A ns.length ca) := by rw [hwa]; go_simp
  have b1 : wa.cell? ⟨w.heap.size, 1, none⟩ = some (.slice B rs.length cb) := by rw [hwa]; go_simp
  have b2 : wa.cell? ⟨w.heap.size, 2, none⟩ = some (.slice C bs.length cc) := by rw [hwa]; go_simp
  have hBox : BoxR wa w.heap.size lo A B C ca cb cc ns rs bs := ⟨b0, b1, b2, hgw, hN.nx hna, hA.nx hna, hB.nx hna, hnl, hal, hbl⟩
  have HC := hide (fun W (hx : Nx wa W) => w_Ends w.heap.size lo A B C ca cb cc ns rs bs f t ad i j W (hBox.nx hx) hS hF hOK hi hj ha)
  have HRC := hide (roads_ok hF).2.1
  have HNO := hide (show 0 ≤ gi (searchG (gphOf ns rs bs) i ad).first j by omega)
  have HZ := hide hz
  have HCH := hide hch
  have HAD := hide (momB_true.1 ha)
  clear hBox b0 b1 b2 hN hA hB hF hOK hi hj hyes hz hch ha
  have HWA := hide hwa
  go_enter Tryz.func28, Tryz.ntmps28
  go_wp2_with fail
  rw [show w.heap.size + 1 = wa.heap.size by rw [hwa]; simp]
  rw [← hwa]
  clear hwa
  refine (HC.out _ ((Nx.refl _).alloc _)).mono ?_
  rintro e w1 ⟨bm, M, rfl, hbm, hM, hn1⟩
  have HM := hide hM
  have HN1 := hide hn1
  clear hM hn1
  go_wp2_with fail
  refine (w_Search w1 bm i ad w.heap.size lo A B C ca cb cc M ns rs bs HM.out HRC.out hil HAD.out).mono ?_
  rintro e w2 ⟨a, rfl, hSM⟩
  have HT := hide hSM.tree
  have HN2 := hide (HN1.out.trans hSM.nx)
  have HX2 := hide hSM.nx
  clear hSM
  go_wp2_with fail
  refine (w_WayYes w2 a bm w.heap.size lo i ns.length j ad _ A B C ca cb cc M ns rs bs l HT.out (HM.out.nx HX2.out) hjl HNO.out HCH.out hll).mono ?_
  rintro e w3 ⟨Z, c, rfl, rd3, hn3⟩
  rw [HZ.out]
  have HRD := hide rd3
  clear rd3
  generalize hks : keysOf rs l.reverse = ks at *
  have hsz2 := HN2.out.sz
  have hn := HN2.out.trans hn3
  have b8 : w3.heap[wa.heap.size]? = some (.cells #[.slice none 0 0, .int .i64 0, .int .i64 0] 62 (0, 0)) := (hn.block _ (by simp)).trans (hnew rfl)
  have q0 : w3.cell? ⟨wa.heap.size, 0, none⟩ = some (.slice none 0 0) := (cell_of_row w3 _ 0 _ _ _ b8).trans rfl
  have q1 : w3.cell? ⟨wa.heap.size, 1, none⟩ = some (.int .i64 0) := (cell_of_row w3 _ 1 _ _ _ b8).trans rfl
  have q2 : w3.cell? ⟨wa.heap.size, 2, none⟩ = some (.int .i64 0) := (cell_of_row w3 _ 2 _ _ _ b8).trans rfl
  have f0 := frozen_blkQ (j := 0) b8
  have f1 := frozen_blkQ (j := 1) b8
  have f2 := frozen_blkQ (j := 2) b8
  have hx8 := lt_of_heap b8
  have HNN := hide (hna.trans (((Nx.refl wa).alloc _).trans hn))
  clear hn hn3
  go_wp2_with fail
  have s1 := Gr.setS (Gr.refl wa.heap.size w3) (p := ⟨wa.heap.size, 0, none⟩) (Or.inl rfl) (.slice Z ks.length c)
  have s2 := Gr.setS s1 (p := ⟨wa.heap.size, 1, none⟩) (Or.inl rfl) (.int .i64 ad)
  have s3 := Gr.setS s2 (p := ⟨wa.heap.size, 2, none⟩) (Or.inl rfl) (.int .i64 z)
  have hW := Nx.of_gr ((Gr.of_nx (s := wa.heap.size) HNN.out).trans s3) hna.sz
  have hlo2 : wa.heap.size < w2.heap.size := by have := HN2.out.sz; simp at this; omega
  have hR := Rd.low (Rd.gr HRD.out s3 hlo2) (show w.heap.size ≤ w2.heap.size by have := hna.sz; omega)
  exact bodyPost_ret (v := .tuple #[.agg #[.slice Z ks.length c, .int .i64 ad, .int .i64 z], .bool true, .int .i64 0]) (by simp [results, Tryz.results28, go_sem, q0, q1, q2, hx8]) rfl ⟨Z, c, rfl, hR.nx ((Nx.refl _).alloc _), hW.alloc _⟩
end Go.Proofs.YtklgknepamebdaaGreatDoor
/- A region that draws, walked by hand: the condition may be made stronger on the way. Of no program. -/
namespace Go.Proofs.YtklgknepamebdaaGreatDoor
open Go

section
variable {P : Program} {ops : Array Oper} {Q : Exit → Act → World → Prop} {md : Region.Mode} {S S' : World → Prop}
/-- From here on more holds than S. -/
theorem wpAnyH_more (h : ∀ w, S' w → S w) : ∀ (fuel : Nat) (listed : Array Bool) (a : Act) (w : World), wpAnyH P md ops Q S' fuel listed a w → wpAnyH P md ops Q S fuel listed a w
  | 0, _, _, _, hh => hh
  | fuel + 1, _, _, _, hh => ⟨hh.1, fun i hi => wpOp_mono (fun a' w' h' => ⟨h w' h'.1, wpAnyH_more h fuel _ a' w' h'.2⟩) (hh.2 i hi)⟩
end
end Go.Proofs.YtklgknepamebdaaGreatDoor
/- Right roads are what New wants. -/
namespace Go.Proofs.YtklgknepamebdaaGreatDoor
open Go.RowKit

theorem nodeF_key {p : Option Node} {n : Node} (h : nodeF p n = 0) : keyB n.key = true := by
  unfold nodeF at h
  cases hk : keyB n.key with
  | true => rfl
  | false => rw [hk, if_neg (by simp)] at h; exact absurd h (by decide)
theorem nodes_keys {ns : List Node} (h : nodesF ns = 0) : ∀ x ∈ ns, keyB x.key = true := by
  unfold nodesF at h
  by_cases h0 : 500 < ns.length
  · rw [if_pos h0] at h; exact absurd h (by decide)
  · rw [if_neg h0] at h
    exact chk_all (F := nodeF) (Q := fun n => keyB n.key = true) (fun p x hx => nodeF_key hx) ns none h
theorem mem_getD {α : Type} [Inhabited α] {l : List α} {k : Nat} (h : k < l.length) : l.getD k default ∈ l := by
  rw [List.getD_eq_getElem?_getD, List.getElem?_eq_getElem h]
  exact List.getElem_mem h
theorem arc_key_found {rs : List Arc} {s : ByteArray} (h : 0 ≤ arcI rs s) : ∃ a ∈ rs, a.key = s := by
  rcases findI_bd (fun n : Arc => decide (n.key = s)) rs with h1 | ⟨i, hi, e⟩
  · exact absurd h (by unfold arcI; omega)
  · exact ⟨rs.getD i default, mem_getD hi, by simpa using (findI_sat _ rs e).2⟩
theorem banF_ok {rs : List Arc} {p : Option Ban} {b : Ban} (h : banF rs p b = 0) : 0 ≤ arcI rs b.from_ ∧ 0 ≤ arcI rs b.to_ := by
  unfold banF at h
  by_cases hg : banG rs b = 0
  · unfold banG at hg
    split at hg
    · exact absurd hg (by decide)
    · omega
  · rw [if_neg hg] at h; exact absurd h hg
theorem newOk_of {ns : List Node} {rs : List Arc} {bs : List Ban} (h : roadsF ns rs bs = 0) : NewOk ns rs bs := by
  obtain ⟨h1, h2, h3⟩ := roads_ok h
  have hkn : ∀ x ∈ ns, domS x.key := fun x hx => key_small (nodes_keys h1 x hx)
  have hk : ∀ x ∈ rs, keyB x.key = true ∧ arcG ns x = 0 := chk_all (F := arcF ns) (Q := fun a => keyB a.key = true ∧ arcG ns a = 0) (fun p x hx => arcF_ok hx) rs none h2
  have hnode : ∀ s, 0 ≤ nodeI ns s → domS s := fun s hs => by
    obtain ⟨i, hi, _, e⟩ := node_found hs
    rw [← e]
    exact hkn _ (mem_getD hi)
  have harc : ∀ s, 0 ≤ arcI rs s → domS s := fun s hs => by
    obtain ⟨a, ha, e⟩ := arc_key_found hs
    rw [← e]
    exact key_small (hk a ha).1
  refine ⟨sortN_of h1, sortA_of h2, hkn, fun x hx => ?_, fun x hx => ?_⟩
  · obtain ⟨a1, a2, _, _, _⟩ := arcG_ok (hk x hx).2
    exact ⟨key_small (hk x hx).1, hnode _ a1, hnode _ a2, a1, a2⟩
  · have := chk_all (F := banF rs) (Q := fun b => 0 ≤ arcI rs b.from_ ∧ 0 ≤ arcI rs b.to_) (fun p x hx => banF_ok hx) bs none h3 x hx
    exact ⟨harc _ this.1, harc _ this.2, this.1, this.2⟩
end Go.Proofs.YtklgknepamebdaaGreatDoor
