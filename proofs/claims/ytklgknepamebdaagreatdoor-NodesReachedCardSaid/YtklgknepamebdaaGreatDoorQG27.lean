/- When one arrives at the earliest, and leaves at the latest: the reference. -/
import Derived.Test.YtklgknepamebdaaGreatDoorQOutL
import Derived.Test.YtklgknepamebdaaGreatDoorQG20
import Derived.Test.YtklgknepamebdaaGreatDoorQG21
namespace Go.Proofs.YtklgknepamebdaaGreatDoor
open Go.RowKit

theorem lt_heapA {w : World} {k : Nat} {o : Obj} (h : w.heap[k]? = some o) : k < w.heap.size := (Array.getElem?_eq_some_iff.1 h).1
/-- Right roads that are handed in by value, read. -/
structure ValR (w : World) (lo : Nat) (A B C : Option Addr) (nn ca cb cc : Nat) (ns : List Node) (rs : List Arc) (bs : List Ban) : Prop where
  hA : RdArcs w lo B rs
  hal : rs.length ≤ 400
  hB : Rd w lo C 2 encBan bs
  hbl : bs.length ≤ 400
  hC : chk (arcF ns) none rs = 0
theorem ValR.nx {w w' : World} {lo : Nat} {A B C : Option Addr} {nn ca cb cc : Nat} {ns : List Node} {rs : List Arc} {bs : List Ban} (h : ValR w lo A B C nn ca cb cc ns rs bs) (hn : Nx w w') : ValR w' lo A B C nn ca cb cc ns rs bs := ⟨h.hA.nx hn, h.hal, h.hB.nx hn, h.hbl, h.hC⟩
set_option maxRecDepth 100000 in
set_option maxHeartbeats 4000000 in
theorem w_ArriveAt (lo : Nat) (A B C : Option Addr) (nn ca cb cc : Nat) (ns : List Node) (rs : List Arc) (bs : List Ban) (fr to_ : ByteArray) (at_ : Int) (w : World) (hV : ValR w lo A B C nn ca cb cc ns rs bs) (hfr : 0 ≤ nodeI ns fr) (hto : 0 ≤ nodeI ns to_) (hat : 0 ≤ at_ ∧ at_ ≤ 345686399999) :
    Calls Tryz.prog 32 #[.agg #[.slice A nn ca, .slice B rs.length cb, .slice C bs.length cc], .string fr, .string to_, .int .i64 at_] w fun e w' => e = .returned (.int .i64 (arrG (gphOf ns rs bs) (nodeN ns fr) (nodeN ns to_) at_)) ∧ Nx w w' := by
  have HG := hide (gph_ok (bs := bs) hV.hC)
  by_cases he : fr = to_
  · subst he
    have hE := arrG_self HG.out hat.1 (show nodeN ns fr < (gphOf ns rs bs).nn from nodeN_lt hfr)
    rw [hE]
    have te : (fr.toList == fr.toList) = true := by rw [eqS_iff]; exact decide_eq_true rfl
    clear hV hE
    go_enter Tryz.func32, Tryz.ntmps32
    go_wp2_with fail
    go_ret
    exact ⟨rfl, (Nx.refl _).alloc _⟩
  · have te : (fr.toList == to_.toList) = false := by rw [eqS_iff]; exact decide_eq_false he
    have hab : nodeN ns fr ≠ nodeN ns to_ := fun h => he ((node_iff hfr hto).1 h)
    obtain ⟨wa, hwa⟩ : ∃ wa, wa = w.alloc (.cells #[.slice A nn ca, .slice B rs.length cb, .slice C bs.length cc] 30) := ⟨_, rfl⟩
    have hna : Nx w wa := hwa ▸ (Nx.refl w).alloc _
    have hbx : wa.heap[w.heap.size]? = some (.cells #[.slice A nn ca, .slice B rs.length cb, .slice C bs.length cc] 30 (0, 0)) := by rw [hwa]; exact hnew rfl
    have HO := hide (w_outs lo A B C nn ca cb cc ns rs bs fr at_ wa (hV.hA.nx hna) hV.hal (hV.hB.nx hna) hV.hbl hV.hC hfr hat)
    have HBX := hide hbx
    have HA := hide (hV.hA.nx hna)
    have hal := hV.hal
    have HSOL := hide (fun o (h : OutSol (gphOf ns rs bs) (nodeN ns fr) at_ o) => arrG_sol HG.out hat.1 (show nodeN ns fr < (gphOf ns rs bs).nn from nodeN_lt hfr) (show nodeN ns to_ < (gphOf ns rs bs).nn from nodeN_lt hto) h hab)
    have HTO := hide (fun k (hk : k < rs.length) => (show (gphOf ns rs bs).to_ k = nodeN ns to_ ↔ (arcX rs k).to_ = to_ from node_iff (arc_right hV.hC hk).2.1 hto))
    have HGM := hide (show (gphOf ns rs bs).m = rs.length from rfl)
    have r0 : wa.cell? ⟨w.heap.size, 0, none⟩ = some (.slice A nn ca) := (cell_of_row wa _ 0 _ _ _ hbx).trans rfl
    have r1 : wa.cell? ⟨w.heap.size, 1, none⟩ = some (.slice B rs.length cb) := (cell_of_row wa _ 1 _ _ _ hbx).trans rfl
    have r2 : wa.cell? ⟨w.heap.size, 2, none⟩ = some (.slice C bs.length cc) := (cell_of_row wa _ 2 _ _ _ hbx).trans rfl
    clear hV hbx he hab
    generalize gphOf ns rs bs = G at *
    generalize nodeN ns fr = a at *
    generalize nodeN ns to_ = b at *
    generalize arrG G a b at_ = V at *
    generalize hm : rs.length = m at *
    have HM := hide hm
    clear hm hfr hto
    go_enter Tryz.func32, Tryz.ntmps32
    go_wp2_with fail
    rw [← hwa]
    have HWA := hide hwa
    clear hwa
    generalize w.heap.size = gb at *
    go_wp2_with fail
    refine HO.out.mono ?_
    rintro e w1 ⟨g, o, rfl, hsol, hrow, hn1⟩
    have HROW := hide hrow
    have HLE := hide hsol.len
    have HV := hide (HSOL.out o hsol)
    have HBX1 := hide ((hn1.block gb (lt_heapA HBX.out)).trans HBX.out)
    have hnw := hna.trans hn1
    have HA1 := hide (HA.out.nx hn1)
    clear hrow hsol r0 r1 r2 HO HA
    go_wp2_with fail
    go_loopw [9, 21] (fun v i wr => ∃ k : Nat, k ≤ m ∧ i = .int .i64 k ∧ v = .int .i64 (leastTo G o b k) ∧ w1 = wr) (fun _ i _ => m - (intOf i).toNat)
    case atStart => exact ⟨0, Nat.zero_le _, rfl, rfl, rfl⟩
    case round =>
      obtain ⟨k, hk, rfl, rfl, rfl⟩ := hrel
      by_cases hlt : k < m
      · have hkl : k < rs.length := by have := HM.out; omega
        have c0 := intRowO_cell (i := k) HROW.out (by rw [HLE.out, HGM.out]; exact hlt)
        obtain ⟨b', off, rfl, _, hb, hbr, hc⟩ := HA1.out.1.open_ (Nx.refl _) (by have := HM.out; omega)
        have a2 : w1.cell? ⟨b', off + k * 5 + 2, none⟩ = some (.string rs[k].to_) := hc k hkl 2 _ rfl
        have r1 : w1.cell? ⟨gb, 1, none⟩ = some (.slice (some ⟨b', off, none⟩) m cb) := (cell_of_row w1 _ 1 _ _ _ HBX1.out).trans rfl
        have hT := HTO.out k hlt
        rw [arcX_get hkl] at hT
        have HT := hide hT
        have HST := hide (show leastTo G o b (k + 1) = if G.to_ k = b then (if gi o k < leastTo G o b k then gi o k else leastTo G o b k) else leastTo G o b k from rfl)
        have i1 : (0 : Int) ≤ (k : Int) := by omega
        have i2 : (k : Int) < (m : Int) := by omega
        clear hc hT
        generalize rs[k].to_ = kt at *
        generalize leastTo G o b k = L at *
        generalize gi o k = z at *
        by_cases hf : kt = to_
        · have te : (kt.toList == to_.toList) = true := by rw [eqS_iff]; exact decide_eq_true hf
          have hst := HST.out.trans (if_pos (HT.out.2 hf))
          have HS2 := hide hst
          clear hf hst
          go_wp2_with fail
          go_roundw
          case rel => exact ⟨k + 1, by omega, by go_num, by rw [HS2.out]; congr 1; omega, trivial⟩
          case measure => simp [intOf]; omega
        · have te : (kt.toList == to_.toList) = false := by rw [eqS_iff]; exact decide_eq_false hf
          have hst := HST.out.trans (if_neg (fun h => hf (HT.out.1 h)))
          have HS2 := hide hst
          clear hf hst
          go_wp2_with fail
          go_roundw
          case rel => exact ⟨k + 1, by omega, by go_num, by rw [HS2.out], trivial⟩
          case measure => simp [intOf]; omega
      · obtain rfl : m = k := by omega
        go_wp2_with fail
        go_ret
        exact ⟨ret_int (by rw [← HV.out, HGM.out]), hnw⟩
set_option maxRecDepth 100000 in
set_option maxHeartbeats 4000000 in
theorem w_LeaveAt (lo : Nat) (A B C : Option Addr) (nn ca cb cc : Nat) (ns : List Node) (rs : List Arc) (bs : List Ban) (fr to_ : ByteArray) (by_ : Int) (w : World) (hV : ValR w lo A B C nn ca cb cc ns rs bs) (hfr : 0 ≤ nodeI ns fr) (hto : 0 ≤ nodeI ns to_) (hat : 0 ≤ by_ ∧ by_ ≤ 345686399999) :
    Calls Tryz.prog 33 #[.agg #[.slice A nn ca, .slice B rs.length cb, .slice C bs.length cc], .string fr, .string to_, .int .i64 by_] w fun e w' => ∃ L : Int, e = .returned (.int .i64 L) ∧ LeaveOk (gphOf ns rs bs) (nodeN ns fr) (nodeN ns to_) by_ L ∧ Nx w w' := by
  obtain ⟨wa, hwa⟩ : ∃ wa, wa = w.alloc (.cells #[.slice A nn ca, .slice B rs.length cb, .slice C bs.length cc] 30) := ⟨_, rfl⟩
  have hna : Nx w wa := hwa ▸ (Nx.refl w).alloc _
  have hbx : wa.heap[w.heap.size]? = some (.cells #[.slice A nn ca, .slice B rs.length cb, .slice C bs.length cc] 30 (0, 0)) := by rw [hwa]; exact hnew rfl
  have HAR := hide (fun t W (hx : Nx wa W) ht => w_ArriveAt lo A B C nn ca cb cc ns rs bs fr to_ t W (hV.nx (hna.trans hx)) hfr hto ht)
  have HBX := hide hbx
  clear hV hbx hfr hto
  generalize gphOf ns rs bs = G at *
  generalize nodeN ns fr = a at *
  generalize nodeN ns to_ = b at *
  generalize rs.length = m at *
  generalize bs.length = nb at *
  go_enter Tryz.func33, Tryz.ntmps33
  go_wp2_with fail
  rw [← hwa]
  have HWA := hide hwa
  clear hwa
  generalize w.heap.size = gb at *
  go_loopw [9, 10] (fun v u wr => ∃ l h : Int, v = .int .i64 l ∧ u = .int .i64 h ∧ -1 ≤ l ∧ l ≤ h ∧ h ≤ by_ ∧ (0 ≤ l → arrG G a b l ≤ by_) ∧ (h < by_ → by_ < arrG G a b (h + 1)) ∧ Nx wa wr) (fun v u _ => (intOf u - intOf v).toNat)
  case atStart => exact ⟨-1, by_, rfl, rfl, by omega, by omega, by omega, fun h => absurd h (by omega), fun h => absurd h (by omega), Nx.refl _⟩
  case round =>
    obtain ⟨l, h, rfl, rfl, h1, h2, h3, hl, hh, hn⟩ := hrel
    have HL := hide hl
    have HH := hide hh
    clear hl hh
    by_cases hlt : l < h
    · obtain ⟨mid, hmid⟩ : ∃ mid, mid = l + (h - l + 1) / 2 := ⟨_, rfl⟩
      have hm1 : l < mid ∧ mid ≤ h := by omega
      have q1 : (h - l + 1) / 2 = mid - l := by omega
      have q2 : l + (mid - l) = mid := by omega
      have q3 : (h - l + 1).tdiv 2 = mid - l := by rw [Int.tdiv_eq_ediv_of_nonneg (by omega)]; exact q1
      have HC := hide (HAR.out mid wr hn (by omega))
      have hbw := HBX.out
      have r0 : wr.cell? ⟨gb, 0, none⟩ = some (.slice A nn ca) := (cell_of_row wr _ 0 _ _ _ ((hn.block gb (lt_heapA hbw)).trans hbw)).trans rfl
      have r1 : wr.cell? ⟨gb, 1, none⟩ = some (.slice B m cb) := (cell_of_row wr _ 1 _ _ _ ((hn.block gb (lt_heapA hbw)).trans hbw)).trans rfl
      have r2 : wr.cell? ⟨gb, 2, none⟩ = some (.slice C nb cc) := (cell_of_row wr _ 2 _ _ _ ((hn.block gb (lt_heapA hbw)).trans hbw)).trans rfl
      have HV := hide (show arrG G a b mid = arrG G a b mid from rfl)
      obtain ⟨V, hV⟩ : ∃ V, V = arrG G a b mid := ⟨_, rfl⟩
      rw [← hV] at HC
      have HVV := hide hV
      clear hmid hbw hV
      by_cases hle : V ≤ by_
      · have tl : decide (V ≤ by_) = true := decide_eq_true hle
        have hle2 := hide hle
        clear hle
        go_wp2_with fail
        refine HC.out.mono ?_
        rintro e w2 ⟨rfl, hn2⟩
        go_wp2_with fail
        go_roundw
        case rel => exact ⟨mid, h, rfl, rfl, by omega, by omega, h3, fun _ => by rw [← HVV.out]; exact hle2.out, HH.out, hn.trans hn2⟩
        case measure => simp [intOf]; omega
      · have tl : decide (V ≤ by_) = false := decide_eq_false hle
        have hle2 := hide hle
        clear hle
        go_wp2_with fail
        refine HC.out.mono ?_
        rintro e w2 ⟨rfl, hn2⟩
        go_wp2_with fail
        go_roundw
        case rel => exact ⟨l, mid - 1, rfl, rfl, h1, by omega, by omega, HL.out, fun _ => by rw [show mid - 1 + 1 = mid by omega, ← HVV.out]; first | exact hle2.out | exact Int.not_le.1 hle2.out, hn.trans hn2⟩
        case measure => simp [intOf]; omega
    · obtain rfl : l = h := by omega
      go_wp2_with fail
      go_ret
      exact ⟨l, rfl, ⟨h1, h3, HL.out, fun h => Int.not_le.2 (HH.out h)⟩, hna.trans hn⟩
end Go.Proofs.YtklgknepamebdaaGreatDoor
/- Plain: what Fastest and Latest answer; a way that is right. -/
namespace Go.Proofs.YtklgknepamebdaaGreatDoor

/-- What is wrong with right roads' ends and a moment. -/
def endsF (ns : List Node) (rs : List Arc) (bs : List Ban) (f t : ByteArray) (ad : Int) : Int :=
  if roadsF ns rs bs = 0 then (if nodeI ns f < 0 ∨ nodeI ns t < 0 then 8 else if momB ad then 0 else 1) else roadsF ns rs bs
theorem endsF_ok {ns : List Node} {rs : List Arc} {bs : List Ban} {f t : ByteArray} {ad : Int} (h : endsF ns rs bs f t ad = 0) : roadsF ns rs bs = 0 ∧ 0 ≤ nodeI ns f ∧ 0 ≤ nodeI ns t ∧ momB ad = true := by
  unfold endsF at h
  split at h
  · rename_i h0
    split at h
    · exact absurd h (by decide)
    · split at h
      · rename_i h2
        exact ⟨h0, by omega, by omega, h2⟩
      · exact absurd h (by decide)
  · rename_i h0; exact absurd h h0
structure WayA where
  keys : List ByteArray
  lv : Int
  ar : Int
  is : Bool
  fault : Int
/-- A way that is right. -/
structure WayOk (ns : List Node) (rs : List Arc) (bs : List Ban) (f t : ByteArray) (keys : List ByteArray) (lv ar : Int) : Prop where
  chain : chainF rs bs f none keys = 0
  len : keys.length ≤ 400
  here : (stOf rs f none keys).1 = t
  walk : ∃ ts, walkO rs lv keys = some ts ∧ (lv :: ts).getLastD lv = ar
inductive FastIs (ns : List Node) (rs : List Arc) (bs : List Ban) (f t : ByteArray) (ad : Int) : WayA → Prop
  | bad (h : endsF ns rs bs f t ad ≠ 0) : FastIs ns rs bs f t ad ⟨[], 0, 0, false, endsF ns rs bs f t ad⟩
  | none (h : endsF ns rs bs f t ad = 0) (h1 : gi (searchG (gphOf ns rs bs) (nodeN ns f) ad).first (nodeN ns t) < 0) : FastIs ns rs bs f t ad ⟨[], 0, 0, false, 0⟩
  | way (h : endsF ns rs bs f t ad = 0) (h1 : 0 ≤ gi (searchG (gphOf ns rs bs) (nodeN ns f) ad).first (nodeN ns t)) (l : List Nat)
      (hc : Chain rs.length (searchG (gphOf ns rs bs) (nodeN ns f) ad).prev (gi (searchG (gphOf ns rs bs) (nodeN ns f) ad).last (nodeN ns t)) l) (hl : l.length ≤ rs.length) :
      FastIs ns rs bs f t ad ⟨keysOf rs l.reverse, ad, gi (searchG (gphOf ns rs bs) (nodeN ns f) ad).first (nodeN ns t), true, 0⟩
inductive LateIs (ns : List Node) (rs : List Arc) (bs : List Ban) (f t : ByteArray) (by_ : Int) : WayA → Prop
  | bad (h : endsF ns rs bs f t by_ ≠ 0) : LateIs ns rs bs f t by_ ⟨[], 0, 0, false, endsF ns rs bs f t by_⟩
  | none (h : endsF ns rs bs f t by_ = 0) (h1 : ¬ arrG (gphOf ns rs bs) (nodeN ns f) (nodeN ns t) 0 ≤ by_) : LateIs ns rs bs f t by_ ⟨[], 0, 0, false, 0⟩
  | way (h : endsF ns rs bs f t by_ = 0) (L : Int) (h0 : 0 ≤ L) (hL : LeaveOk (gphOf ns rs bs) (nodeN ns f) (nodeN ns t) by_ L) (l : List Nat)
      (hc : Chain rs.length (searchG (gphOf ns rs bs) (nodeN ns f) L).prev (gi (searchG (gphOf ns rs bs) (nodeN ns f) L).last (nodeN ns t)) l) (hl : l.length ≤ rs.length) :
      LateIs ns rs bs f t by_ ⟨keysOf rs l.reverse, L, gi (searchG (gphOf ns rs bs) (nodeN ns f) L).first (nodeN ns t), true, 0⟩
section
variable {ns : List Node} {rs : List Arc} {bs : List Ban} {f t : ByteArray} {ad : Int}
theorem firstV_lt {g : Gph} {a b : Nat} {at_ : Int} : firstV (searchG g a at_) b = arrG g a b at_ := rfl
/-- There is a way back for every node that is reached, and it is right. -/
theorem way_of (h2 : chk (arcF ns) none rs = 0) (hal : rs.length ≤ 400) (hf : 0 ≤ nodeI ns f) (ht : 0 ≤ nodeI ns t) (h0 : 0 ≤ ad) (hz : 0 ≤ gi (searchG (gphOf ns rs bs) (nodeN ns f) ad).first (nodeN ns t)) :
    ∃ l, Chain rs.length (searchG (gphOf ns rs bs) (nodeN ns f) ad).prev (gi (searchG (gphOf ns rs bs) (nodeN ns f) ad).last (nodeN ns t)) l ∧ l.length ≤ rs.length ∧ WayOk ns rs bs f t (keysOf rs l.reverse) ad (gi (searchG (gphOf ns rs bs) (nodeN ns f) ad).first (nodeN ns t)) := by
  have hg := gph_ok (bs := bs) h2
  have hF := search_found hg h0 (show nodeN ns f < (gphOf ns rs bs).nn from nodeN_lt hf)
  obtain ⟨l, w1, w2, w3, w4⟩ := hF.wayTo hg h0 (b := nodeN ns t) (nodeN_lt ht) hz
  refine ⟨l, w1, w2, ?_⟩
  have hll : (keysOf rs l.reverse).length ≤ 400 := by
    unfold keysOf
    rw [List.length_map, List.length_reverse]
    have : l.length ≤ rs.length := w2
    omega
  rcases w4 with ⟨rfl, e1, e2⟩ | ⟨k, l', rfl, e1, e2⟩
  · refine ⟨rfl, hll, (node_iff hf ht).1 e1, [], rfl, ?_⟩
    rw [e2]; rfl
  · obtain ⟨c1, ts, c2, _, c4, c5⟩ := trail_keys h2 hf e2
    have hk : k < rs.length := w3 k (by simp)
    refine ⟨c1, hll, ?_, ts, c2, c4⟩
    rw [c5 k l' rfl]
    exact (node_iff (arc_right h2 hk).2.1 ht).1 e1
theorem chain_uniq_keys {x y : WayA} (h : FastIs ns rs bs f t ad x) (h' : FastIs ns rs bs f t ad y) : x = y := by
  cases h with
  | bad h =>
    cases h' with
    | bad h' => rfl
    | none h' _ => exact absurd h' h
    | way h' _ => exact absurd h' h
  | none h h1 =>
    cases h' with
    | bad h' => exact absurd h h'
    | none h' _ => rfl
    | way h' h2 => exact absurd h1 (Int.not_lt.2 h2)
  | way h h1 l hc hl =>
    cases h' with
    | bad h' => exact absurd h h'
    | none h' h2 => exact absurd h2 (Int.not_lt.2 h1)
    | way h' h2 l' hc' hl' => rw [hc.uniq hc']
theorem arr_le (h2 : chk (arcF ns) none rs = 0) (hf : 0 ≤ nodeI ns f) (ht : 0 ≤ nodeI ns t) (h0 : 0 ≤ ad) (he : ad < endT) :
    (gi (searchG (gphOf ns rs bs) (nodeN ns f) ad).first (nodeN ns t) < 0 ∧ arrG (gphOf ns rs bs) (nodeN ns f) (nodeN ns t) ad = endT) ∨
    (0 ≤ gi (searchG (gphOf ns rs bs) (nodeN ns f) ad).first (nodeN ns t) ∧ arrG (gphOf ns rs bs) (nodeN ns f) (nodeN ns t) ad = gi (searchG (gphOf ns rs bs) (nodeN ns f) ad).first (nodeN ns t) ∧ gi (searchG (gphOf ns rs bs) (nodeN ns f) ad).first (nodeN ns t) < endT) := by
  have hg := gph_ok (bs := bs) h2
  have hF := search_found hg h0 (show nodeN ns f < (gphOf ns rs bs).nn from nodeN_lt hf)
  by_cases hz : gi (searchG (gphOf ns rs bs) (nodeN ns f) ad).first (nodeN ns t) < 0
  · exact .inl ⟨hz, if_pos hz⟩
  · refine .inr ⟨by omega, if_neg hz, ?_⟩
    by_cases e : nodeN ns t = nodeN ns f
    · rw [e, hF.f0.1]; exact he
    · rcases hF.f1 (nodeN ns t) (nodeN_lt ht) e with ⟨h1, _⟩ | ⟨k, h1, h2, h3, h4, h5, h6⟩
      · omega
      · rw [h5]
        exact ((hF.rch k h1 h2).ge hg h0).2
/-- What the law asks of a fastest way. -/
theorem FastIs.law {x : WayA} (h : FastIs ns rs bs f t ad x) (hal : rs.length ≤ 400) :
    x.fault = endsF ns rs bs f t ad ∧ (endsF ns rs bs f t ad ≠ 0 → x.is = false ∧ x.keys = []) ∧
    (endsF ns rs bs f t ad = 0 → x.is = decide (arrG (gphOf ns rs bs) (nodeN ns f) (nodeN ns t) ad < endT) ∧ (x.is = true → x.lv = ad ∧ x.ar = arrG (gphOf ns rs bs) (nodeN ns f) (nodeN ns t) ad ∧ WayOk ns rs bs f t x.keys ad x.ar)) := by
  cases h with
  | bad h => exact ⟨rfl, fun _ => ⟨rfl, rfl⟩, fun h' => absurd h' h⟩
  | none h h1 =>
    refine ⟨h.symm, fun h' => absurd h h', fun _ => ⟨?_, fun e => by cases e⟩⟩
    obtain ⟨o1, o2, o3, o4⟩ := endsF_ok h
    have hb := momB_true.1 o4
    rcases arr_le (bs := bs) (roads_ok o1).2.1 o2 o3 hb.1 (by unfold endT; omega) with ⟨_, e⟩ | ⟨e, _⟩
    · rw [e]; exact (decide_eq_false (by omega)).symm
    · omega
  | way h h1 l hc hl =>
    refine ⟨h.symm, fun h' => absurd h h', fun _ => ?_⟩
    obtain ⟨o1, o2, o3, o4⟩ := endsF_ok h
    have hb := momB_true.1 o4
    obtain ⟨l', w1, w2, w3⟩ := way_of (bs := bs) (roads_ok o1).2.1 hal o2 o3 hb.1 h1
    have el := hc.uniq w1
    subst el
    rcases arr_le (bs := bs) (roads_ok o1).2.1 o2 o3 hb.1 (by unfold endT; omega) with ⟨e, _⟩ | ⟨_, e, e2⟩
    · omega
    · exact ⟨(decide_eq_true (by rw [e]; exact e2)).symm, fun _ => ⟨rfl, e.symm, w3⟩⟩
theorem LateIs.law {x : WayA} (h : LateIs ns rs bs f t ad x) (hal : rs.length ≤ 400) (L : Int) (hL : endsF ns rs bs f t ad = 0 → LeaveOk (gphOf ns rs bs) (nodeN ns f) (nodeN ns t) ad L) :
    x.fault = endsF ns rs bs f t ad ∧ (endsF ns rs bs f t ad ≠ 0 → x.is = false ∧ x.keys = []) ∧
    (endsF ns rs bs f t ad = 0 → x.is = decide (0 ≤ L) ∧ (x.is = true → x.lv = L ∧ 0 ≤ L ∧ L ≤ ad ∧ x.ar = arrG (gphOf ns rs bs) (nodeN ns f) (nodeN ns t) L ∧ WayOk ns rs bs f t x.keys L x.ar)) := by
  cases h with
  | bad h => exact ⟨rfl, fun _ => ⟨rfl, rfl⟩, fun h' => absurd h' h⟩
  | none h h1 =>
    refine ⟨h.symm, fun h' => absurd h h', fun _ => ⟨?_, fun e => by cases e⟩⟩
    obtain ⟨o1, o2, o3, o4⟩ := endsF_ok h
    have hb := momB_true.1 o4
    have hK := hL h
    refine (decide_eq_false fun h0 => h1 ?_).symm
    have h3 := hK.high
    exact Int.le_trans (arrG_mono (gph_ok (bs := bs) (roads_ok o1).2.1) (Int.le_refl 0) h0 (by unfold endT; omega) (nodeN_lt o2) (nodeN_lt o3)) (hK.ok h0)
  | way h L' h0 hL' l hc hl =>
    refine ⟨h.symm, fun h' => absurd h h', fun _ => ?_⟩
    obtain ⟨o1, o2, o3, o4⟩ := endsF_ok h
    have hb := momB_true.1 o4
    have hK := hL h
    have hg := gph_ok (bs := bs) (roads_ok o1).2.1
    have hbb : ad < endT := by unfold endT; omega
    have e : L' = L := hL'.uniq hg (nodeN_lt o2) (nodeN_lt o3) hbb hK
    subst e
    have h3 := hK.high
    rcases arr_le (bs := bs) (roads_ok o1).2.1 o2 o3 h0 (show L' < endT by omega) with ⟨_, e⟩ | ⟨e1, e, e2⟩
    · have := hK.ok h0; omega
    · obtain ⟨l', w1, w2, w3⟩ := way_of (bs := bs) (roads_ok o1).2.1 hal o2 o3 h0 e1
      have el := hc.uniq w1
      subst el
      exact ⟨(decide_eq_true h0).symm, fun _ => ⟨rfl, h0, h3, e.symm, w3⟩⟩
end
end Go.Proofs.YtklgknepamebdaaGreatDoor
