/- Both ends of a way asked for: what is wrong. -/
import Derived.Test.YtmpnilliichpfaaGreatDoorQG21
import Derived.Test.YtmpnilliichpfaaGreatDoorQG8
import Derived.Deep.DeepCutAuto
import Derived.Test.YtmpnilliichpfaaGreatDoorQSrchV
namespace Go.Proofs.YtmpnilliichpfaaGreatDoor
open Go.RowKit
set_option maxRecDepth 100000 in
set_option maxHeartbeats 4000000 in
theorem w_EndsBad (g0 lo : Nat) (A B C : Option Addr) (ca cb cc : Nat) (ns : List Node) (rs : List Arc) (bs : List Ban) (f t : ByteArray) (ad : Int) (w : World) (hBox : BoxR w g0 lo A B C ca cb cc ns rs bs) (hS : SmallN ns) (hE : endsF ns rs bs f t ad ≠ 0) :
    Calls Tryz.prog 97 #[.pointer (some ⟨g0, 0, none⟩), .string f, .string t, .int .i64 ad] w fun e w' => e = .returned (.tuple #[.pointer none, .int .i64 0, .int .i64 0, .int .i64 (endsF ns rs bs f t ad)]) ∧ Nx w w' := by
  have b0 := hBox.g0
  have b1 := hBox.g1
  have b2 := hBox.g2
  have HC := hide (w_CheckRoads lo lo lo A B C ca cb cc ns rs bs w hBox.hN hS hBox.nl hBox.hA hBox.al hBox.hB hBox.bl)
  have HB := hide hBox
  obtain ⟨E, hEE⟩ : ∃ E, E = endsF ns rs bs f t ad := ⟨_, rfl⟩
  rw [← hEE] at hE ⊢
  have HE := hide (show E = if roadsF ns rs bs = 0 then (if nodeI ns f < 0 ∨ nodeI ns t < 0 then 8 else if momB ad then 0 else 1) else roadsF ns rs bs from hEE)
  clear hEE hBox
  by_cases hF : roadsF ns rs bs = 0
  · have HE := hide (HE.out.trans (if_pos hF))
    have HSN := hide (sortN_of (roads_ok hF).1)
    rw [hF] at HC
    clear hF
    have HNE := hide hE
    clear hE
    go_enter Tryz.func97, Tryz.ntmps97
    go_wp2_with fail
    refine (HC.out).mono ?_
    rintro e w1 ⟨rfl, hn1⟩
    clear b0 b1 b2
    have HN1 := hide hn1
    clear hn1
    go_wp2_with fail
    have hb1 := HB.out.nx HN1.out
    refine (w_nodeR g0 lo A ca ns f w1 hb1.g0 hb1.hN (by have := hb1.nl; omega) HSN.out).mono ?_
    rintro e w2 ⟨rfl, hn2⟩
    have HN2 := hide (HN1.out.trans hn2)
    clear hn2 hb1
    go_wp2_with fail
    have hb1 := HB.out.nx HN2.out
    refine (w_nodeR g0 lo A ca ns t w2 hb1.g0 hb1.hN (by have := hb1.nl; omega) HSN.out).mono ?_
    rintro e w3 ⟨rfl, hn3⟩
    have HN3 := hide (HN2.out.trans hn3)
    clear hn3 hb1
    generalize nodeI ns f = i at *
    generalize nodeI ns t = j at *
    by_cases hij : i < 0 ∨ j < 0
    · have hE8 := HE.out.trans (if_pos hij)
      subst hE8
      by_cases hi : i < 0
      · have ti : decide (i < 0) = true := decide_eq_true hi
        clear hi hij
        go_wp2_with fail
        exact bodyPost_ret (v := .tuple #[.pointer none, .int .i64 0, .int .i64 0, .int .i64 8]) (by simp [results, Tryz.results97, go_sem]) rfl ⟨rfl, HN3.out⟩
      · have ti : decide (i < 0) = false := decide_eq_false hi
        have tj : decide (j < 0) = true := decide_eq_true (by omega)
        clear hi hij
        go_wp2_with fail
        exact bodyPost_ret (v := .tuple #[.pointer none, .int .i64 0, .int .i64 0, .int .i64 8]) (by simp [results, Tryz.results97, go_sem]) rfl ⟨rfl, HN3.out⟩
    · have hE1 := HE.out.trans (if_neg hij)
      have ti : decide (i < 0) = false := decide_eq_false (by omega)
      have tj : decide (j < 0) = false := decide_eq_false (by omega)
      have hm : momB ad = false := by
        cases hm : momB ad with
        | false => rfl
        | true => rw [hm, if_pos rfl] at hE1; exact absurd hE1 HNE.out
      rw [hm, if_neg (by simp)] at hE1
      subst hE1
      clear hij
      go_wp2_with fail
      refine (w_Moment _ _).mono ?_
      rintro e w4 ⟨rfl, rfl⟩
      rw [hm]
      go_wp2_with fail
      exact bodyPost_ret (v := .tuple #[.pointer none, .int .i64 0, .int .i64 0, .int .i64 1]) (by simp [results, Tryz.results97, go_sem]) rfl ⟨rfl, HN3.out⟩
  · have hE1 := HE.out.trans (if_neg hF)
    rw [← hE1] at HC
    clear hF hE1
    have tE : (E == 0) = false := by simpa using hE
    have tE2 : (E != 0) = true := by simpa using hE
    go_enter Tryz.func97, Tryz.ntmps97
    go_wp2_with fail
    refine (HC.out).mono ?_
    rintro e w1 ⟨rfl, hn1⟩
    clear b0 b1 b2
    go_wp2_with fail
    exact bodyPost_ret (v := .tuple #[.pointer none, .int .i64 0, .int .i64 0, .int .i64 E]) (by simp [results, Tryz.results97, go_sem]) rfl ⟨rfl, hn1⟩
set_option maxRecDepth 100000 in
set_option maxHeartbeats 4000000 in
theorem w_FastBad (lo : Nat) (A B C : Option Addr) (ca cb cc : Nat) (ns : List Node) (rs : List Arc) (bs : List Ban) (f t : ByteArray) (ad : Int) (w : World)
    (hN : Rd w lo A 3 encNode ns) (hA : RdArcs w lo B rs) (hB : Rd w lo C 2 encBan bs) (hnl : ns.length ≤ 400) (hal : rs.length ≤ 400) (hbl : bs.length ≤ 400)
    (hS : SmallN ns) (hE : endsF ns rs bs f t ad ≠ 0) :
    Calls Tryz.prog 50 #[.agg #[.slice A ns.length ca, .slice B rs.length cb, .slice C bs.length cc], .string f, .string t, .int .i64 ad] w fun e w' => e = .returned (.tuple #[.agg #[.slice none 0 0, .int .i64 0, .int .i64 0], .bool false, .int .i64 (endsF ns rs bs f t ad)]) ∧ Nx w w' := by
  obtain ⟨wa, hwa⟩ : ∃ wa, wa = w.alloc (.cells #[.slice A ns.length ca, .slice B rs.length cb, .slice C bs.length cc] 30) := ⟨_, rfl⟩
  have hna : Nx w wa := hwa ▸ (Nx.refl w).alloc _
  have hgw : w.heap.size < wa.heap.size := by rw [hwa]; simp
  have b0 : wa.cell? ⟨w.heap.size, 0, none⟩ = some (.slice A ns.length ca) := by rw [hwa]; go_simp
  have b1 : wa.cell? ⟨w.heap.size, 1, none⟩ = some (.slice B rs.length cb) := by rw [hwa]; go_simp
  have b2 : wa.cell? ⟨w.heap.size, 2, none⟩ = some (.slice C bs.length cc) := by rw [hwa]; go_simp
  have hBox : BoxR wa w.heap.size lo A B C ca cb cc ns rs bs := ⟨b0, b1, b2, hgw, hN.nx hna, hA.nx hna, hB.nx hna, hnl, hal, hbl⟩
  have HC := hide (fun W (hx : Nx wa W) => w_EndsBad w.heap.size lo A B C ca cb cc ns rs bs f t ad W (hBox.nx hx) hS hE)
  clear hBox b0 b1 b2 hN hA hB
  generalize endsF ns rs bs f t ad = E at *
  have tE : (E == 0) = false := by simpa using hE
  have tE2 : (E != 0) = true := by simpa using hE
  clear hE
  have HWA := hide hwa
  go_enter Tryz.func50, Tryz.ntmps50
  go_wp2_with fail
  rw [show w.heap.size + 1 = wa.heap.size by rw [hwa]; simp]
  rw [← hwa]
  clear hwa
  refine (HC.out _ ((Nx.refl _).alloc _)).mono ?_
  rintro e w3 ⟨rfl, hn3⟩
  have b8 : w3.heap[wa.heap.size]? = some (.cells #[.slice none 0 0, .int .i64 0, .int .i64 0] 90 (0, 0)) := (hn3.block _ (by simp)).trans (hnew rfl)
  have q0 : w3.cell? ⟨wa.heap.size, 0, none⟩ = some (.slice none 0 0) := (cell_of_row w3 _ 0 _ _ _ b8).trans rfl
  have q1 : w3.cell? ⟨wa.heap.size, 1, none⟩ = some (.int .i64 0) := (cell_of_row w3 _ 1 _ _ _ b8).trans rfl
  have q2 : w3.cell? ⟨wa.heap.size, 2, none⟩ = some (.int .i64 0) := (cell_of_row w3 _ 2 _ _ _ b8).trans rfl
  have f0 := frozen_blkQ (j := 0) b8
  have f1 := frozen_blkQ (j := 1) b8
  have f2 := frozen_blkQ (j := 2) b8
  have hx8 := lt_of_heap b8
  have HNN := hide (hna.trans (((Nx.refl wa).alloc _).trans hn3))
  clear hn3
  go_wp2_with fail
  have s1 := Gr.setS (Gr.of_nx (s := wa.heap.size) HNN.out) (p := ⟨wa.heap.size, 0, none⟩) (Or.inl rfl) (.slice none 0 0)
  have s2 := Gr.setS s1 (p := ⟨wa.heap.size, 1, none⟩) (Or.inl rfl) (.int .i64 0)
  have s3 := Gr.setS s2 (p := ⟨wa.heap.size, 2, none⟩) (Or.inl rfl) (.int .i64 0)
  have hW := Nx.of_gr s3 hna.sz
  exact bodyPost_ret (v := .tuple #[.agg #[.slice none 0 0, .int .i64 0, .int .i64 0], .bool false, .int .i64 E]) (by simp [results, Tryz.results50, go_sem, q0, q1, q2]) rfl ⟨rfl, hW⟩
end Go.Proofs.YtmpnilliichpfaaGreatDoor
/- The fastest way asked for: none, or the one. -/
namespace Go.Proofs.YtmpnilliichpfaaGreatDoor
open Go.RowKit
set_option maxRecDepth 100000 in
set_option maxHeartbeats 4000000 in
theorem w_FastNo (lo : Nat) (A B C : Option Addr) (ca cb cc : Nat) (ns : List Node) (rs : List Arc) (bs : List Ban) (f t : ByteArray) (ad : Int) (i j : Nat) (w : World) (_hlo : lo ≤ w.heap.size)
    (hN : Rd w lo A 3 encNode ns) (hA : RdArcs w lo B rs) (hB : Rd w lo C 2 encBan bs) (hnl : ns.length ≤ 400) (hal : rs.length ≤ 400) (hbl : bs.length ≤ 400)
    (hS : SmallN ns) (hF : roadsF ns rs bs = 0) (hOK : NewOk ns rs bs) (hi : nodeI ns f = (i : Int)) (hj : nodeI ns t = (j : Int)) (hil : i < ns.length) (hjl : j < ns.length) (ha : momB ad = true)
    (hno : gi (searchG (gphOf ns rs bs) i ad).first j < 0) :
    Calls Tryz.prog 50 #[.agg #[.slice A ns.length ca, .slice B rs.length cb, .slice C bs.length cc], .string f, .string t, .int .i64 ad] w fun e w' => e = .returned (.tuple #[.agg #[.slice none 0 0, .int .i64 0, .int .i64 0], .bool false, .int .i64 0]) ∧ Nx w w' := by
  obtain ⟨wa, hwa⟩ : ∃ wa, wa = w.alloc (.cells #[.slice A ns.length ca, .slice B rs.length cb, .slice C bs.length cc] 30) := ⟨_, rfl⟩
  have hna : Nx w wa := hwa ▸ (Nx.refl w).alloc _
  have hgw : w.heap.size < wa.heap.size := by rw [hwa]; simp
  have b0 : wa.cell? ⟨w.heap.size, 0, none⟩ = some (.slice A ns.length ca) := by rw [hwa]; go_simp
  have b1 : wa.cell? ⟨w.heap.size, 1, none⟩ = some (.slice B rs.length cb) := by rw [hwa]; go_simp
  have b2 : wa.cell? ⟨w.heap.size, 2, none⟩ = some (.slice C bs.length cc) := by rw [hwa]; go_simp
  have hBox : BoxR wa w.heap.size lo A B C ca cb cc ns rs bs := ⟨b0, b1, b2, hgw, hN.nx hna, hA.nx hna, hB.nx hna, hnl, hal, hbl⟩
  have HC := hide (fun W (hx : Nx wa W) => w_Ends w.heap.size lo A B C ca cb cc ns rs bs f t ad i j W (hBox.nx hx) hS hF hOK hi hj ha)
  have HRC := hide (roads_ok hF).2.1
  have HNO := hide hno
  have HAD := hide (momB_true.1 ha)
  clear hBox b0 b1 b2 hN hA hB hF hOK hi hj hno ha
  have HWA := hide hwa
  go_enter Tryz.func50, Tryz.ntmps50
  go_wp2_with fail
  rw [show w.heap.size + 1 = wa.heap.size by rw [hwa]; simp]
  rw [← hwa]
  clear hwa
  refine (HC.out _ ((Nx.refl _).alloc _)).mono ?_
  rintro e w1 ⟨bm, M, rfl, hbm, hM, hn1⟩
  have HM := hide hM
  have HN1 := hide hn1
  clear hM hn1
  go_wp2_with fail
  refine (w_Search w1 bm i ad w.heap.size lo A B C ca cb cc M ns rs bs HM.out HRC.out hil HAD.out).mono ?_
  rintro e w2 ⟨a, rfl, hSM⟩
  have HT := hide hSM.tree
  have HN2 := hide (HN1.out.trans hSM.nx)
  clear hSM
  go_wp2_with fail
  refine (w_WayNo w2 a bm i ns.length rs.length j ad _ HT.out hjl HNO.out).mono ?_
  rintro e w3 ⟨rfl, hn3⟩
  have hn := HN2.out.trans hn3
  have b8 : w3.heap[wa.heap.size]? = some (.cells #[.slice none 0 0, .int .i64 0, .int .i64 0] 90 (0, 0)) := (hn.block _ (by simp)).trans (hnew rfl)
  have q0 : w3.cell? ⟨wa.heap.size, 0, none⟩ = some (.slice none 0 0) := (cell_of_row w3 _ 0 _ _ _ b8).trans rfl
  have q1 : w3.cell? ⟨wa.heap.size, 1, none⟩ = some (.int .i64 0) := (cell_of_row w3 _ 1 _ _ _ b8).trans rfl
  have q2 : w3.cell? ⟨wa.heap.size, 2, none⟩ = some (.int .i64 0) := (cell_of_row w3 _ 2 _ _ _ b8).trans rfl
  have f0 := frozen_blkQ (j := 0) b8
  have f1 := frozen_blkQ (j := 1) b8
  have f2 := frozen_blkQ (j := 2) b8
  have hx8 := lt_of_heap b8
  have HNN := hide (hna.trans (((Nx.refl wa).alloc _).trans hn))
  clear hn hn3
  go_wp2_with fail
  have s1 := Gr.setS (Gr.of_nx (s := wa.heap.size) HNN.out) (p := ⟨wa.heap.size, 0, none⟩) (Or.inl rfl) (.slice none 0 0)
  have s2 := Gr.setS s1 (p := ⟨wa.heap.size, 1, none⟩) (Or.inl rfl) (.int .i64 0)
  have s3 := Gr.setS s2 (p := ⟨wa.heap.size, 2, none⟩) (Or.inl rfl) (.int .i64 0)
  have hW := Nx.of_gr s3 hna.sz
  exact bodyPost_ret (v := .tuple #[.agg #[.slice none 0 0, .int .i64 0, .int .i64 0], .bool false, .int .i64 0]) (by simp [results, Tryz.results50, go_sem, q0, q1, q2, hx8]) rfl ⟨rfl, hW.alloc _⟩
def FastOut (w : World) (ad f : Int) (keys : List ByteArray) (e : Ending) (w' : World) : Prop := ∃ (Z : Option Addr) (c : Nat), e = .returned (.tuple #[.agg #[.slice Z keys.length c, .int .i64 ad, .int .i64 f], .bool true, .int .i64 0]) ∧ Rd w' w.heap.size Z 1 encS keys ∧ Nx w w'
set_option maxRecDepth 100000 in
set_option maxHeartbeats 4000000 in
theorem w_FastYes (lo : Nat) (A B C : Option Addr) (ca cb cc : Nat) (ns : List Node) (rs : List Arc) (bs : List Ban) (f t : ByteArray) (ad : Int) (i j : Nat) (w : World) (_hlo : lo ≤ w.heap.size)
    (hN : Rd w lo A 3 encNode ns) (hA : RdArcs w lo B rs) (hB : Rd w lo C 2 encBan bs) (hnl : ns.length ≤ 400) (hal : rs.length ≤ 400) (hbl : bs.length ≤ 400)
    (hS : SmallN ns) (hF : roadsF ns rs bs = 0) (hOK : NewOk ns rs bs) (hi : nodeI ns f = (i : Int)) (hj : nodeI ns t = (j : Int)) (hil : i < ns.length) (hjl : j < ns.length) (ha : momB ad = true)
    (z : Int) (hz : gi (searchG (gphOf ns rs bs) i ad).first j = z) (hyes : 0 ≤ z) (l : List Nat) (hch : Chain rs.length (searchG (gphOf ns rs bs) i ad).prev (gi (searchG (gphOf ns rs bs) i ad).last j) l) (hll : l.length ≤ 400) :
    Calls Tryz.prog 50 #[.agg #[.slice A ns.length ca, .slice B rs.length cb, .slice C bs.length cc], .string f, .string t, .int .i64 ad] w (FastOut w ad z (keysOf rs l.reverse)) := by
  obtain ⟨wa, hwa⟩ : ∃ wa, wa = w.alloc (.cells #[.slice A ns.length ca, .slice B rs.length cb, .slice C bs.length cc] 30) := ⟨_, rfl⟩
  have hna : Nx w wa := hwa ▸ (Nx.refl w).alloc _
  have hgw : w.heap.size < wa.heap.size := by rw [hwa]; simp
  have b0 : wa.cell? ⟨w.heap.size, 0, none⟩ = some (.slice A ns.length ca) := by rw [hwa]; go_simp
  have b1 : wa.cell? ⟨w.heap.size, 1, none⟩ = some (.slice B rs.length cb) := by rw [hwa]; go_simp
  have b2 : wa.cell? ⟨w.heap.size, 2, none⟩ = some (.slice C bs.length cc) := by rw [hwa]; go_simp
  have hBox : BoxR wa w.heap.size lo A B C ca cb cc ns rs bs := ⟨b0, b1, b2, hgw, hN.nx hna, hA.nx hna, hB.nx hna, hnl, hal, hbl⟩
  have HC := hide (fun W (hx : Nx wa W) => w_Ends w.heap.size lo A B C ca cb cc ns rs bs f t ad i j W (hBox.nx hx) hS hF hOK hi hj ha)
  have HRC := hide (roads_ok hF).2.1
  have HNO := hide (show 0 ≤ gi (searchG (gphOf ns rs bs) i ad).first j by omega)
  have HZ := hide hz
  have HCH := hide hch
  have HAD := hide (momB_true.1 ha)
  clear hBox b0 b1 b2 hN hA hB hF hOK hi hj hyes hz hch ha
  have HWA := hide hwa
  go_enter Tryz.func50, Tryz.ntmps50
  go_wp2_with fail
  rw [show w.heap.size + 1 = wa.heap.size by rw [hwa]; simp]
  rw [← hwa]
  clear hwa
  refine (HC.out _ ((Nx.refl _).alloc _)).mono ?_
  rintro e w1 ⟨bm, M, rfl, hbm, hM, hn1⟩
  have HM := hide hM
  have HN1 := hide hn1
  clear hM hn1
  go_wp2_with fail
  refine (w_Search w1 bm i ad w.heap.size lo A B C ca cb cc M ns rs bs HM.out HRC.out hil HAD.out).mono ?_
  rintro e w2 ⟨a, rfl, hSM⟩
  have HT := hide hSM.tree
  have HN2 := hide (HN1.out.trans hSM.nx)
  have HX2 := hide hSM.nx
  clear hSM
  go_wp2_with fail
  refine (w_WayYes w2 a bm w.heap.size lo i ns.length j ad _ A B C ca cb cc M ns rs bs l HT.out (HM.out.nx HX2.out) hjl HNO.out HCH.out hll).mono ?_
  rintro e w3 ⟨Z, c, rfl, rd3, hn3⟩
  rw [HZ.out]
  have HRD := hide rd3
  clear rd3
  generalize hks : keysOf rs l.reverse = ks at *
  have hsz2 := HN2.out.sz
  have hn := HN2.out.trans hn3
  have b8 : w3.heap[wa.heap.size]? = some (.cells #[.slice none 0 0, .int .i64 0, .int .i64 0] 90 (0, 0)) := (hn.block _ (by simp)).trans (hnew rfl)
  have q0 : w3.cell? ⟨wa.heap.size, 0, none⟩ = some (.slice none 0 0) := (cell_of_row w3 _ 0 _ _ _ b8).trans rfl
  have q1 : w3.cell? ⟨wa.heap.size, 1, none⟩ = some (.int .i64 0) := (cell_of_row w3 _ 1 _ _ _ b8).trans rfl
  have q2 : w3.cell? ⟨wa.heap.size, 2, none⟩ = some (.int .i64 0) := (cell_of_row w3 _ 2 _ _ _ b8).trans rfl
  have f0 := frozen_blkQ (j := 0) b8
  have f1 := frozen_blkQ (j := 1) b8
  have f2 := frozen_blkQ (j := 2) b8
  have hx8 := lt_of_heap b8
  have HNN := hide (hna.trans (((Nx.refl wa).alloc _).trans hn))
  clear hn hn3
  go_wp2_with fail
  have s1 := Gr.setS (Gr.refl wa.heap.size w3) (p := ⟨wa.heap.size, 0, none⟩) (Or.inl rfl) (.slice Z ks.length c)
  have s2 := Gr.setS s1 (p := ⟨wa.heap.size, 1, none⟩) (Or.inl rfl) (.int .i64 ad)
  have s3 := Gr.setS s2 (p := ⟨wa.heap.size, 2, none⟩) (Or.inl rfl) (.int .i64 z)
  have hW := Nx.of_gr ((Gr.of_nx (s := wa.heap.size) HNN.out).trans s3) hna.sz
  have hlo2 : wa.heap.size < w2.heap.size := by have := HN2.out.sz; simp at this; omega
  have hR := Rd.low (Rd.gr HRD.out s3 hlo2) (show w.heap.size ≤ w2.heap.size by have := hna.sz; omega)
  exact bodyPost_ret (v := .tuple #[.agg #[.slice Z ks.length c, .int .i64 ad, .int .i64 z], .bool true, .int .i64 0]) (by simp [results, Tryz.results50, go_sem, q0, q1, q2, hx8]) rfl ⟨Z, c, rfl, hR.nx ((Nx.refl _).alloc _), hW.alloc _⟩
end Go.Proofs.YtmpnilliichpfaaGreatDoor
