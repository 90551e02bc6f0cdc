/- When one arrives at the earliest, and leaves at the latest: the reference. -/
import Derived.Test.YtklgknepamebdaaGreatDoorQOutL
import Derived.Test.YtklgknepamebdaaGreatDoorQG25
import Derived.Test.YtklgknepamebdaaGreatDoorQG26
import Derived.Test.YtklgknepamebdaaGreatDoorQG19
import Derived.Test.YtklgknepamebdaaGreatDoorQG30
import Derived.Test.YtklgknepamebdaaGreatDoorQArcT
import Derived.Deep.RegionHeld3
import Derived.Test.YtklgknepamebdaaGreatDoorQG28
import Derived.Test.YtklgknepamebdaaGreatDoorQG2
import Derived.Test.YtklgknepamebdaaGreatDoorQG7
import Derived.Below
import Derived.Deep.DeepCutAuto
namespace Go.Proofs.YtklgknepamebdaaGreatDoor
open Go.RowKit

theorem lt_heapA {w : World} {k : Nat} {o : Obj} (h : w.heap[k]? = some o) : k < w.heap.size := (Array.getElem?_eq_some_iff.1 h).1
/-- Right roads that are handed in by value, read. -/
structure ValR (w : World) (lo : Nat) (A B C : Option Addr) (nn ca cb cc : Nat) (ns : List Node) (rs : List Arc) (bs : List Ban) : Prop where
  hA : RdArcs w lo B rs
  hal : rs.length ≤ 400
  hB : Rd w lo C 2 encBan bs
  hbl : bs.length ≤ 400
  hC : chk (arcF ns) none rs = 0
theorem ValR.nx {w w' : World} {lo : Nat} {A B C : Option Addr} {nn ca cb cc : Nat} {ns : List Node} {rs : List Arc} {bs : List Ban} (h : ValR w lo A B C nn ca cb cc ns rs bs) (hn : Nx w w') : ValR w' lo A B C nn ca cb cc ns rs bs := ⟨h.hA.nx hn, h.hal, h.hB.nx hn, h.hbl, h.hC⟩
set_option maxRecDepth 100000 in
set_option maxHeartbeats 4000000 in
theorem w_ArriveAt (lo : Nat) (A B C : Option Addr) (nn ca cb cc : Nat) (ns : List Node) (rs : List Arc) (bs : List Ban) (fr to_ : ByteArray) (at_ : Int) (w : World) (hV : ValR w lo A B C nn ca cb cc ns rs bs) (hfr : 0 ≤ nodeI ns fr) (hto : 0 ≤ nodeI ns to_) (hat : 0 ≤ at_ ∧ at_ ≤ 345686399999) :
    Calls Tryz.prog 32 #[.agg #[.slice A nn ca, .slice B rs.length cb, .slice C bs.length cc], .string fr, .string to_, .int .i64 at_] w fun e w' => e = .returned (.int .i64 (arrG (gphOf ns rs bs) (nodeN ns fr) (nodeN ns to_) at_)) ∧ Nx w w' := by
  have HG := hide (gph_ok (bs := bs) hV.hC)
  by_cases he : fr = to_
  · subst he
    have hE := arrG_self HG.out hat.1 (show nodeN ns fr < (gphOf ns rs bs).nn from nodeN_lt hfr)
    rw [hE]
    have te : (fr.toList == fr.toList) = true := by rw [eqS_iff]; exact decide_eq_true rfl
    clear hV hE
    go_enter Tryz.func32, Tryz.ntmps32
    go_wp2_with fail
    go_ret
    exact ⟨rfl, (Nx.refl _).alloc _⟩
  · have te : (fr.toList == to_.toList) = false := by rw [eqS_iff]; exact decide_eq_false he
    have hab : nodeN ns fr ≠ nodeN ns to_ := fun h => he ((node_iff hfr hto).1 h)
    obtain ⟨wa, hwa⟩ : ∃ wa, wa = w.alloc (.cells #[.slice A nn ca, .slice B rs.length cb, .slice C bs.length cc] 30) := ⟨_, rfl⟩
    have hna : Nx w wa := hwa ▸ (Nx.refl w).alloc _
    have hbx : wa.heap[w.heap.size]? = some (.cells #[.slice A nn ca, .slice B rs.length cb, .slice C bs.length cc] 30 (0, 0)) := by rw [hwa]; exact hnew rfl
    have HO := hide (w_outs lo A B C nn ca cb cc ns rs bs fr at_ wa (hV.hA.nx hna) hV.hal (hV.hB.nx hna) hV.hbl hV.hC hfr hat)
    have HBX := hide hbx
    have HA := hide (hV.hA.nx hna)
    have hal := hV.hal
    have HSOL := hide (fun o (h : OutSol (gphOf ns rs bs) (nodeN ns fr) at_ o) => arrG_sol HG.out hat.1 (show nodeN ns fr < (gphOf ns rs bs).nn from nodeN_lt hfr) (show nodeN ns to_ < (gphOf ns rs bs).nn from nodeN_lt hto) h hab)
    have HTO := hide (fun k (hk : k < rs.length) => (show (gphOf ns rs bs).to_ k = nodeN ns to_ ↔ (arcX rs k).to_ = to_ from node_iff (arc_right hV.hC hk).2.1 hto))
    have HGM := hide (show (gphOf ns rs bs).m = rs.length from rfl)
    have r0 : wa.cell? ⟨w.heap.size, 0, none⟩ = some (.slice A nn ca) := (cell_of_row wa _ 0 _ _ _ hbx).trans rfl
    have r1 : wa.cell? ⟨w.heap.size, 1, none⟩ = some (.slice B rs.length cb) := (cell_of_row wa _ 1 _ _ _ hbx).trans rfl
    have r2 : wa.cell? ⟨w.heap.size, 2, none⟩ = some (.slice C bs.length cc) := (cell_of_row wa _ 2 _ _ _ hbx).trans rfl
    clear hV hbx he hab
    generalize gphOf ns rs bs = G at *
    generalize nodeN ns fr = a at *
    generalize nodeN ns to_ = b at *
    generalize arrG G a b at_ = V at *
    generalize hm : rs.length = m at *
    have HM := hide hm
    clear hm hfr hto
    go_enter Tryz.func32, Tryz.ntmps32
    go_wp2_with fail
    rw [← hwa]
    have HWA := hide hwa
    clear hwa
    generalize w.heap.size = gb at *
    go_wp2_with fail
    refine HO.out.mono ?_
    rintro e w1 ⟨g, o, rfl, hsol, hrow, hn1⟩
    have HROW := hide hrow
    have HLE := hide hsol.len
    have HV := hide (HSOL.out o hsol)
    have HBX1 := hide ((hn1.block gb (lt_heapA HBX.out)).trans HBX.out)
    have hnw := hna.trans hn1
    have HA1 := hide (HA.out.nx hn1)
    clear hrow hsol r0 r1 r2 HO HA
    go_wp2_with fail
    go_loopw [9, 21] (fun v i wr => ∃ k : Nat, k ≤ m ∧ i = .int .i64 k ∧ v = .int .i64 (leastTo G o b k) ∧ w1 = wr) (fun _ i _ => m - (intOf i).toNat)
    case atStart => exact ⟨0, Nat.zero_le _, rfl, rfl, rfl⟩
    case round =>
      obtain ⟨k, hk, rfl, rfl, rfl⟩ := hrel
      by_cases hlt : k < m
      · have hkl : k < rs.length := by have := HM.out; omega
        have c0 := intRowO_cell (i := k) HROW.out (by rw [HLE.out, HGM.out]; exact hlt)
        obtain ⟨b', off, rfl, _, hb, hbr, hc⟩ := HA1.out.1.open_ (Nx.refl _) (by have := HM.out; omega)
        have a2 : w1.cell? ⟨b', off + k * 5 + 2, none⟩ = some (.string rs[k].to_) := hc k hkl 2 _ rfl
        have r1 : w1.cell? ⟨gb, 1, none⟩ = some (.slice (some ⟨b', off, none⟩) m cb) := (cell_of_row w1 _ 1 _ _ _ HBX1.out).trans rfl
        have hT := HTO.out k hlt
        rw [arcX_get hkl] at hT
        have HT := hide hT
        have HST := hide (show leastTo G o b (k + 1) = if G.to_ k = b then (if gi o k < leastTo G o b k then gi o k else leastTo G o b k) else leastTo G o b k from rfl)
        have i1 : (0 : Int) ≤ (k : Int) := by omega
        have i2 : (k : Int) < (m : Int) := by omega
        clear hc hT
        generalize rs[k].to_ = kt at *
        generalize leastTo G o b k = L at *
        generalize gi o k = z at *
        by_cases hf : kt = to_
        · have te : (kt.toList == to_.toList) = true := by rw [eqS_iff]; exact decide_eq_true hf
          have hst := HST.out.trans (if_pos (HT.out.2 hf))
          have HS2 := hide hst
          clear hf hst
          go_wp2_with fail
          go_roundw
          case rel => exact ⟨k + 1, by omega, by go_num, by rw [HS2.out]; congr 1; omega, trivial⟩
          case measure => simp [intOf]; omega
        · have te : (kt.toList == to_.toList) = false := by rw [eqS_iff]; exact decide_eq_false hf
          have hst := HST.out.trans (if_neg (fun h => hf (HT.out.1 h)))
          have HS2 := hide hst
          clear hf hst
          go_wp2_with fail
          go_roundw
          case rel => exact ⟨k + 1, by omega, by go_num, by rw [HS2.out], trivial⟩
          case measure => simp [intOf]; omega
      · obtain rfl : m = k := by omega
        go_wp2_with fail
        go_ret
        exact ⟨ret_int (by rw [← HV.out, HGM.out]), hnw⟩
set_option maxRecDepth 100000 in
set_option maxHeartbeats 4000000 in
theorem w_LeaveAt (lo : Nat) (A B C : Option Addr) (nn ca cb cc : Nat) (ns : List Node) (rs : List Arc) (bs : List Ban) (fr to_ : ByteArray) (by_ : Int) (w : World) (hV : ValR w lo A B C nn ca cb cc ns rs bs) (hfr : 0 ≤ nodeI ns fr) (hto : 0 ≤ nodeI ns to_) (hat : 0 ≤ by_ ∧ by_ ≤ 345686399999) :
    Calls Tryz.prog 33 #[.agg #[.slice A nn ca, .slice B rs.length cb, .slice C bs.length cc], .string fr, .string to_, .int .i64 by_] w fun e w' => ∃ L : Int, e = .returned (.int .i64 L) ∧ LeaveOk (gphOf ns rs bs) (nodeN ns fr) (nodeN ns to_) by_ L ∧ Nx w w' := by
  obtain ⟨wa, hwa⟩ : ∃ wa, wa = w.alloc (.cells #[.slice A nn ca, .slice B rs.length cb, .slice C bs.length cc] 30) := ⟨_, rfl⟩
  have hna : Nx w wa := hwa ▸ (Nx.refl w).alloc _
  have hbx : wa.heap[w.heap.size]? = some (.cells #[.slice A nn ca, .slice B rs.length cb, .slice C bs.length cc] 30 (0, 0)) := by rw [hwa]; exact hnew rfl
  have HAR := hide (fun t W (hx : Nx wa W) ht => w_ArriveAt lo A B C nn ca cb cc ns rs bs fr to_ t W (hV.nx (hna.trans hx)) hfr hto ht)
  have HBX := hide hbx
  clear hV hbx hfr hto
  generalize gphOf ns rs bs = G at *
  generalize nodeN ns fr = a at *
  generalize nodeN ns to_ = b at *
  generalize rs.length = m at *
  generalize bs.length = nb at *
  go_enter Tryz.func33, Tryz.ntmps33
  go_wp2_with fail
  rw [← hwa]
  have HWA := hide hwa
  clear hwa
  generalize w.heap.size = gb at *
  go_loopw [9, 10] (fun v u wr => ∃ l h : Int, v = .int .i64 l ∧ u = .int .i64 h ∧ -1 ≤ l ∧ l ≤ h ∧ h ≤ by_ ∧ (0 ≤ l → arrG G a b l ≤ by_) ∧ (h < by_ → by_ < arrG G a b (h + 1)) ∧ Nx wa wr) (fun v u _ => (intOf u - intOf v).toNat)
  case atStart => exact ⟨-1, by_, rfl, rfl, by omega, by omega, by omega, fun h => absurd h (by omega), fun h => absurd h (by omega), Nx.refl _⟩
  case round =>
    obtain ⟨l, h, rfl, rfl, h1, h2, h3, hl, hh, hn⟩ := hrel
    have HL := hide hl
    have HH := hide hh
    clear hl hh
    by_cases hlt : l < h
    · obtain ⟨mid, hmid⟩ : ∃ mid, mid = l + (h - l + 1) / 2 := ⟨_, rfl⟩
      have hm1 : l < mid ∧ mid ≤ h := by omega
      have q1 : (h - l + 1) / 2 = mid - l := by omega
      have q2 : l + (mid - l) = mid := by omega
      have q3 : (h - l + 1).tdiv 2 = mid - l := by rw [Int.tdiv_eq_ediv_of_nonneg (by omega)]; exact q1
      have HC := hide (HAR.out mid wr hn (by omega))
      have hbw := HBX.out
      have r0 : wr.cell? ⟨gb, 0, none⟩ = some (.slice A nn ca) := (cell_of_row wr _ 0 _ _ _ ((hn.block gb (lt_heapA hbw)).trans hbw)).trans rfl
      have r1 : wr.cell? ⟨gb, 1, none⟩ = some (.slice B m cb) := (cell_of_row wr _ 1 _ _ _ ((hn.block gb (lt_heapA hbw)).trans hbw)).trans rfl
      have r2 : wr.cell? ⟨gb, 2, none⟩ = some (.slice C nb cc) := (cell_of_row wr _ 2 _ _ _ ((hn.block gb (lt_heapA hbw)).trans hbw)).trans rfl
      have HV := hide (show arrG G a b mid = arrG G a b mid from rfl)
      obtain ⟨V, hV⟩ : ∃ V, V = arrG G a b mid := ⟨_, rfl⟩
      rw [← hV] at HC
      have HVV := hide hV
      clear hmid hbw hV
      by_cases hle : V ≤ by_
      · have tl : decide (V ≤ by_) = true := decide_eq_true hle
        have hle2 := hide hle
        clear hle
        go_wp2_with fail
        refine HC.out.mono ?_
        rintro e w2 ⟨rfl, hn2⟩
        go_wp2_with fail
        go_roundw
        case rel => exact ⟨mid, h, rfl, rfl, by omega, by omega, h3, fun _ => by rw [← HVV.out]; exact hle2.out, HH.out, hn.trans hn2⟩
        case measure => simp [intOf]; omega
      · have tl : decide (V ≤ by_) = false := decide_eq_false hle
        have hle2 := hide hle
        clear hle
        go_wp2_with fail
        refine HC.out.mono ?_
        rintro e w2 ⟨rfl, hn2⟩
        go_wp2_with fail
        go_roundw
        case rel => exact ⟨l, mid - 1, rfl, rfl, h1, by omega, by omega, HL.out, fun _ => by rw [show mid - 1 + 1 = mid by omega, ← HVV.out]; first | exact hle2.out | exact Int.not_le.1 hle2.out, hn.trans hn2⟩
        case measure => simp [intOf]; omega
    · obtain rfl : l = h := by omega
      go_wp2_with fail
      go_ret
      exact ⟨l, rfl, ⟨h1, h3, HL.out, fun h => Int.not_le.2 (HH.out h)⟩, hna.trans hn⟩
end Go.Proofs.YtklgknepamebdaaGreatDoor
/- Plain: what Fastest and Latest answer; a way that is right. -/
namespace Go.Proofs.YtklgknepamebdaaGreatDoor

/-- What is wrong with right roads' ends and a moment. -/
def endsF (ns : List Node) (rs : List Arc) (bs : List Ban) (f t : ByteArray) (ad : Int) : Int :=
  if roadsF ns rs bs = 0 then (if nodeI ns f < 0 ∨ nodeI ns t < 0 then 8 else if momB ad then 0 else 1) else roadsF ns rs bs
theorem endsF_ok {ns : List Node} {rs : List Arc} {bs : List Ban} {f t : ByteArray} {ad : Int} (h : endsF ns rs bs f t ad = 0) : roadsF ns rs bs = 0 ∧ 0 ≤ nodeI ns f ∧ 0 ≤ nodeI ns t ∧ momB ad = true := by
  unfold endsF at h
  split at h
  · rename_i h0
    split at h
    · exact absurd h (by decide)
    · split at h
      · rename_i h2
        exact ⟨h0, by omega, by omega, h2⟩
      · exact absurd h (by decide)
  · rename_i h0; exact absurd h h0
structure WayA where
  keys : List ByteArray
  lv : Int
  ar : Int
  is : Bool
  fault : Int
/-- A way that is right. -/
structure WayOk (ns : List Node) (rs : List Arc) (bs : List Ban) (f t : ByteArray) (keys : List ByteArray) (lv ar : Int) : Prop where
  chain : chainF rs bs f none keys = 0
  len : keys.length ≤ 400
  here : (stOf rs f none keys).1 = t
  walk : ∃ ts, walkO rs lv keys = some ts ∧ (lv :: ts).getLastD lv = ar
inductive FastIs (ns : List Node) (rs : List Arc) (bs : List Ban) (f t : ByteArray) (ad : Int) : WayA → Prop
  | bad (h : endsF ns rs bs f t ad ≠ 0) : FastIs ns rs bs f t ad ⟨[], 0, 0, false, endsF ns rs bs f t ad⟩
  | none (h : endsF ns rs bs f t ad = 0) (h1 : gi (searchG (gphOf ns rs bs) (nodeN ns f) ad).first (nodeN ns t) < 0) : FastIs ns rs bs f t ad ⟨[], 0, 0, false, 0⟩
  | way (h : endsF ns rs bs f t ad = 0) (h1 : 0 ≤ gi (searchG (gphOf ns rs bs) (nodeN ns f) ad).first (nodeN ns t)) (l : List Nat)
      (hc : Chain rs.length (searchG (gphOf ns rs bs) (nodeN ns f) ad).prev (gi (searchG (gphOf ns rs bs) (nodeN ns f) ad).last (nodeN ns t)) l) (hl : l.length ≤ rs.length) :
      FastIs ns rs bs f t ad ⟨keysOf rs l.reverse, ad, gi (searchG (gphOf ns rs bs) (nodeN ns f) ad).first (nodeN ns t), true, 0⟩
inductive LateIs (ns : List Node) (rs : List Arc) (bs : List Ban) (f t : ByteArray) (by_ : Int) : WayA → Prop
  | bad (h : endsF ns rs bs f t by_ ≠ 0) : LateIs ns rs bs f t by_ ⟨[], 0, 0, false, endsF ns rs bs f t by_⟩
  | none (h : endsF ns rs bs f t by_ = 0) (h1 : ¬ arrG (gphOf ns rs bs) (nodeN ns f) (nodeN ns t) 0 ≤ by_) : LateIs ns rs bs f t by_ ⟨[], 0, 0, false, 0⟩
  | way (h : endsF ns rs bs f t by_ = 0) (L : Int) (h0 : 0 ≤ L) (hL : LeaveOk (gphOf ns rs bs) (nodeN ns f) (nodeN ns t) by_ L) (l : List Nat)
      (hc : Chain rs.length (searchG (gphOf ns rs bs) (nodeN ns f) L).prev (gi (searchG (gphOf ns rs bs) (nodeN ns f) L).last (nodeN ns t)) l) (hl : l.length ≤ rs.length) :
      LateIs ns rs bs f t by_ ⟨keysOf rs l.reverse, L, gi (searchG (gphOf ns rs bs) (nodeN ns f) L).first (nodeN ns t), true, 0⟩
section
variable {ns : List Node} {rs : List Arc} {bs : List Ban} {f t : ByteArray} {ad : Int}
theorem firstV_lt {g : Gph} {a b : Nat} {at_ : Int} : firstV (searchG g a at_) b = arrG g a b at_ := rfl
/-- There is a way back for every node that is reached, and it is right. -/
theorem way_of (h2 : chk (arcF ns) none rs = 0) (hal : rs.length ≤ 400) (hf : 0 ≤ nodeI ns f) (ht : 0 ≤ nodeI ns t) (h0 : 0 ≤ ad) (hz : 0 ≤ gi (searchG (gphOf ns rs bs) (nodeN ns f) ad).first (nodeN ns t)) :
    ∃ l, Chain rs.length (searchG (gphOf ns rs bs) (nodeN ns f) ad).prev (gi (searchG (gphOf ns rs bs) (nodeN ns f) ad).last (nodeN ns t)) l ∧ l.length ≤ rs.length ∧ WayOk ns rs bs f t (keysOf rs l.reverse) ad (gi (searchG (gphOf ns rs bs) (nodeN ns f) ad).first (nodeN ns t)) := by
  have hg := gph_ok (bs := bs) h2
  have hF := search_found hg h0 (show nodeN ns f < (gphOf ns rs bs).nn from nodeN_lt hf)
  obtain ⟨l, w1, w2, w3, w4⟩ := hF.wayTo hg h0 (b := nodeN ns t) (nodeN_lt ht) hz
  refine ⟨l, w1, w2, ?_⟩
  have hll : (keysOf rs l.reverse).length ≤ 400 := by
    unfold keysOf
    rw [List.length_map, List.length_reverse]
    have : l.length ≤ rs.length := w2
    omega
  rcases w4 with ⟨rfl, e1, e2⟩ | ⟨k, l', rfl, e1, e2⟩
  · refine ⟨rfl, hll, (node_iff hf ht).1 e1, [], rfl, ?_⟩
    rw [e2]; rfl
  · obtain ⟨c1, ts, c2, _, c4, c5⟩ := trail_keys h2 hf e2
    have hk : k < rs.length := w3 k (by simp)
    refine ⟨c1, hll, ?_, ts, c2, c4⟩
    rw [c5 k l' rfl]
    exact (node_iff (arc_right h2 hk).2.1 ht).1 e1
theorem chain_uniq_keys {x y : WayA} (h : FastIs ns rs bs f t ad x) (h' : FastIs ns rs bs f t ad y) : x = y := by
  cases h with
  | bad h =>
    cases h' with
    | bad h' => rfl
    | none h' _ => exact absurd h' h
    | way h' _ => exact absurd h' h
  | none h h1 =>
    cases h' with
    | bad h' => exact absurd h h'
    | none h' _ => rfl
    | way h' h2 => exact absurd h1 (Int.not_lt.2 h2)
  | way h h1 l hc hl =>
    cases h' with
    | bad h' => exact absurd h h'
    | none h' h2 => exact absurd h2 (Int.not_lt.2 h1)
    | way h' h2 l' hc' hl' => rw [hc.uniq hc']
theorem arr_le (h2 : chk (arcF ns) none rs = 0) (hf : 0 ≤ nodeI ns f) (ht : 0 ≤ nodeI ns t) (h0 : 0 ≤ ad) (he : ad < endT) :
    (gi (searchG (gphOf ns rs bs) (nodeN ns f) ad).first (nodeN ns t) < 0 ∧ arrG (gphOf ns rs bs) (nodeN ns f) (nodeN ns t) ad = endT) ∨
    (0 ≤ gi (searchG (gphOf ns rs bs) (nodeN ns f) ad).first (nodeN ns t) ∧ arrG (gphOf ns rs bs) (nodeN ns f) (nodeN ns t) ad = gi (searchG (gphOf ns rs bs) (nodeN ns f) ad).first (nodeN ns t) ∧ gi (searchG (gphOf ns rs bs) (nodeN ns f) ad).first (nodeN ns t) < endT) := by
  have hg := gph_ok (bs := bs) h2
  have hF := search_found hg h0 (show nodeN ns f < (gphOf ns rs bs).nn from nodeN_lt hf)
  by_cases hz : gi (searchG (gphOf ns rs bs) (nodeN ns f) ad).first (nodeN ns t) < 0
  · exact .inl ⟨hz, if_pos hz⟩
  · refine .inr ⟨by omega, if_neg hz, ?_⟩
    by_cases e : nodeN ns t = nodeN ns f
    · rw [e, hF.f0.1]; exact he
    · rcases hF.f1 (nodeN ns t) (nodeN_lt ht) e with ⟨h1, _⟩ | ⟨k, h1, h2, h3, h4, h5, h6⟩
      · omega
      · rw [h5]
        exact ((hF.rch k h1 h2).ge hg h0).2
/-- What the law asks of a fastest way. -/
theorem FastIs.law {x : WayA} (h : FastIs ns rs bs f t ad x) (hal : rs.length ≤ 400) :
    x.fault = endsF ns rs bs f t ad ∧ (endsF ns rs bs f t ad ≠ 0 → x.is = false ∧ x.keys = []) ∧
    (endsF ns rs bs f t ad = 0 → x.is = decide (arrG (gphOf ns rs bs) (nodeN ns f) (nodeN ns t) ad < endT) ∧ (x.is = true → x.lv = ad ∧ x.ar = arrG (gphOf ns rs bs) (nodeN ns f) (nodeN ns t) ad ∧ WayOk ns rs bs f t x.keys ad x.ar)) := by
  cases h with
  | bad h => exact ⟨rfl, fun _ => ⟨rfl, rfl⟩, fun h' => absurd h' h⟩
  | none h h1 =>
    refine ⟨h.symm, fun h' => absurd h h', fun _ => ⟨?_, fun e => by cases e⟩⟩
    obtain ⟨o1, o2, o3, o4⟩ := endsF_ok h
    have hb := momB_true.1 o4
    rcases arr_le (bs := bs) (roads_ok o1).2.1 o2 o3 hb.1 (by unfold endT; omega) with ⟨_, e⟩ | ⟨e, _⟩
    · rw [e]; exact (decide_eq_false (by omega)).symm
    · omega
  | way h h1 l hc hl =>
    refine ⟨h.symm, fun h' => absurd h h', fun _ => ?_⟩
    obtain ⟨o1, o2, o3, o4⟩ := endsF_ok h
    have hb := momB_true.1 o4
    obtain ⟨l', w1, w2, w3⟩ := way_of (bs := bs) (roads_ok o1).2.1 hal o2 o3 hb.1 h1
    have el := hc.uniq w1
    subst el
    rcases arr_le (bs := bs) (roads_ok o1).2.1 o2 o3 hb.1 (by unfold endT; omega) with ⟨e, _⟩ | ⟨_, e, e2⟩
    · omega
    · exact ⟨(decide_eq_true (by rw [e]; exact e2)).symm, fun _ => ⟨rfl, e.symm, w3⟩⟩
theorem LateIs.law {x : WayA} (h : LateIs ns rs bs f t ad x) (hal : rs.length ≤ 400) (L : Int) (hL : endsF ns rs bs f t ad = 0 → LeaveOk (gphOf ns rs bs) (nodeN ns f) (nodeN ns t) ad L) :
    x.fault = endsF ns rs bs f t ad ∧ (endsF ns rs bs f t ad ≠ 0 → x.is = false ∧ x.keys = []) ∧
    (endsF ns rs bs f t ad = 0 → x.is = decide (0 ≤ L) ∧ (x.is = true → x.lv = L ∧ 0 ≤ L ∧ L ≤ ad ∧ x.ar = arrG (gphOf ns rs bs) (nodeN ns f) (nodeN ns t) L ∧ WayOk ns rs bs f t x.keys L x.ar)) := by
  cases h with
  | bad h => exact ⟨rfl, fun _ => ⟨rfl, rfl⟩, fun h' => absurd h' h⟩
  | none h h1 =>
    refine ⟨h.symm, fun h' => absurd h h', fun _ => ⟨?_, fun e => by cases e⟩⟩
    obtain ⟨o1, o2, o3, o4⟩ := endsF_ok h
    have hb := momB_true.1 o4
    have hK := hL h
    refine (decide_eq_false fun h0 => h1 ?_).symm
    have h3 := hK.high
    exact Int.le_trans (arrG_mono (gph_ok (bs := bs) (roads_ok o1).2.1) (Int.le_refl 0) h0 (by unfold endT; omega) (nodeN_lt o2) (nodeN_lt o3)) (hK.ok h0)
  | way h L' h0 hL' l hc hl =>
    refine ⟨h.symm, fun h' => absurd h h', fun _ => ?_⟩
    obtain ⟨o1, o2, o3, o4⟩ := endsF_ok h
    have hb := momB_true.1 o4
    have hK := hL h
    have hg := gph_ok (bs := bs) (roads_ok o1).2.1
    have hbb : ad < endT := by unfold endT; omega
    have e : L' = L := hL'.uniq hg (nodeN_lt o2) (nodeN_lt o3) hbb hK
    subst e
    have h3 := hK.high
    rcases arr_le (bs := bs) (roads_ok o1).2.1 o2 o3 h0 (show L' < endT by omega) with ⟨_, e⟩ | ⟨e1, e, e2⟩
    · have := hK.ok h0; omega
    · obtain ⟨l', w1, w2, w3⟩ := way_of (bs := bs) (roads_ok o1).2.1 hal o2 o3 h0 e1
      have el := hc.uniq w1
      subst el
      exact ⟨(decide_eq_true h0).symm, fun _ => ⟨rfl, h0, h3, e.symm, w3⟩⟩
end
end Go.Proofs.YtklgknepamebdaaGreatDoor
/- When one comes out of each of some arcs: the reference. -/
namespace Go.Proofs.YtklgknepamebdaaGreatDoor
open Go.RowKit

def walkU (rs : List Arc) (at_ : Int) (l : List ByteArray) : List Int := match walkO rs at_ l with | some r => at_ :: r | none => []
set_option maxRecDepth 100000 in
set_option maxHeartbeats 8000000 in
theorem w_WalkOf (lo : Nat) (A B C : Option Addr) (nn nb ca cb cc : Nat) (rs : List Arc) (lo2 : Nat) (D : Option Addr) (cd : Nat) (l : List ByteArray) (at_ : Int) (w : World)
    (hA : RdArcs w lo B rs) (hal : rs.length ≤ 400) (hKO : ∀ x ∈ rs, KOk x.knots) (hR : Rd w lo2 D 1 encS l) (hl : l.length ≤ 1000) (hOK : ∀ k ∈ l, 0 ≤ arcI rs k) (hab : 0 ≤ at_ ∧ at_ ≤ 345686399999) :
    Calls Tryz.prog 91 #[.agg #[.slice A nn ca, .slice B rs.length cb, .slice C nb cc], .slice D l.length cd, .int .i64 at_] w fun e w' => ∃ (Z : Option Addr) (cz : Nat), e = .returned (.tuple #[.slice Z (walkU rs at_ l).length cz, .bool (walkO rs at_ l).isSome]) ∧ Rd w' 0 Z 1 encI (walkU rs at_ l) ∧ Nx w w' := by
  obtain ⟨wa, hwa⟩ : ∃ wa, wa = w.alloc (.cells #[.slice A nn ca, .slice B rs.length cb, .slice C nb cc] 30) := ⟨_, rfl⟩
  have hna : Nx w wa := hwa ▸ (Nx.refl w).alloc _
  have hgw : w.heap.size < wa.heap.size := by rw [hwa]; simp
  have b0 : wa.cell? ⟨w.heap.size, 0, none⟩ = some (.slice A nn ca) := by rw [hwa]; go_simp
  have b1 : wa.cell? ⟨w.heap.size, 1, none⟩ = some (.slice B rs.length cb) := by rw [hwa]; go_simp
  have b2 : wa.cell? ⟨w.heap.size, 2, none⟩ = some (.slice C nb cc) := by rw [hwa]; go_simp
  have HAR := hide (fun s W (hx : Nx wa W) => w_ArcAt lo A B C nn nb ca cb cc rs s W ((hA.1.nx hna).nx hx) (by omega))
  have HRA := hide (hA.nx hna)
  have HRL := hide (hR.nx hna)
  have HKO := hide hKO
  have HOK2 := hide hOK
  have HU := hide (show walkU rs at_ l = match walkO rs at_ l with | some r => at_ :: r | none => [] from rfl)
  clear hA hR hKO hOK
  generalize walkU rs at_ l = U at *
  obtain ⟨O, hO⟩ : ∃ O, O = walkO rs at_ l := ⟨_, rfl⟩
  rw [← hO]
  rw [← hO] at HU
  have HO := hide hO
  clear hO
  generalize hn : l.length = n at *
  generalize hm : rs.length = m at *
  have HN := hide hn
  have HM := hide hm
  clear hn hm
  go_enter Tryz.func91, Tryz.ntmps91
  go_wp2_with fail
  rw [← hwa]
  have HWA := hide hwa
  clear hwa
  have HGW := hide (show w.heap.size ≤ wa.heap.size by omega)
  have hsz : wa.heap.size = w.heap.size + 1 := by rw [HWA.out]; simp
  have hown0 : ∀ q, wa.heap.size = q → (wa.alloc (.cells #[.int .i64 at_] 3)).ownsRow wa.heap.size 3 1 (.slice (some ⟨q, 0, none⟩) 1 1) ([at_] : List Int).length (([at_] : List Int).flatMap encI) := fun q e => e ▸ own_lit (xs := [at_]) encI_len (hnew rfl) (Nat.le_refl _) rfl rfl (Nat.le_refl _) (by unfold maxLen; omega)
  have HO0 := hide (hown0 _ hsz)
  clear hown0 hsz
  generalize hgg : w.heap.size = g at *
  have HGG := hide hgg
  clear hgg
  go_loopw [2, 8, 15] (fun va vo i wr => ∃ (k : Nat) (a : Int) (zs : List Int), k ≤ n ∧ va = .int .i64 a ∧ i = .int .i64 k ∧ zs.length ≤ k + 1 ∧ wr.ownsRow wa.heap.size 3 1 vo zs.length (zs.flatMap encI) ∧ Nx wa wr ∧ 0 ≤ a ∧ a ≤ 345686399999 ∧ O.map (at_ :: ·) = (walkO rs a (l.drop k)).map (zs ++ ·)) (fun _ _ i _ => n - (intOf i).toNat)
  case atStart => exact ⟨0, at_, [at_], Nat.zero_le _, rfl, rfl, Nat.le_refl _, HO0.out, (Nx.refl wa).alloc _, hab.1, hab.2, by rw [HO.out]; rfl⟩
  case round =>
    obtain ⟨k, a, zs, hk, rfl, rfl, hzl, hown, hbw, ha1, ha2, hq⟩ := hrel
    have HQ := hide hq
    have HOW := hide hown
    clear hq
    by_cases hlt : k < n
    · have hlt' : k < l.length := by have := HN.out; omega
      have HD := hide (walk_drop rs l k hlt' a)
      obtain ⟨b, off, rfl, _, hb, hbr, hc⟩ := HRL.out.open_ hbw (by have := HN.out; omega)
      have c0 : wr.cell? ⟨b, off + k, none⟩ = some (.string l[k]) := by have := hc k hlt' 0 _ rfl; simpa using this
      obtain ⟨i, hi, ei, hai⟩ := arc_found (HOK2.out l[k] (List.getElem_mem hlt'))
      have hao : outAt rs a l[k] = a + timeI rs[i].knots a := by unfold outAt; rw [hai hi]
      have hARs := fun W hx => HAR.out l[k] W hx
      rw [ei] at hARs
      have HARs := hide hARs
      rw [hao] at HD
      clear hc hai hao ei hARs
      generalize l[k] = s at *
      have him : i < m := by have := HM.out; omega
      have gg0 := nx_cell hbw hgw b0
      have gg1 := nx_cell hbw hgw b1
      have gg2 := nx_cell hbw hgw b2
      have hgr := Nat.lt_of_lt_of_le hgw hbw.sz
      obtain ⟨hKx, hLx, _⟩ := HRA.out.2 rs[i] (List.getElem_mem hi)
      have hko := HKO.out rs[i] (List.getElem_mem hi)
      obtain ⟨ba, offa, rfl, _, hba, hbar, hca⟩ := HRA.out.1.open_ hbw (by omega)
      have a0 : wr.cell? ⟨ba, offa + i * 5, none⟩ = some (.string rs[i].key) := hca i hi 0 _ rfl
      have a1 : wr.cell? ⟨ba, offa + i * 5 + 1, none⟩ = some (.string rs[i].from_) := hca i hi 1 _ rfl
      have a2 : wr.cell? ⟨ba, offa + i * 5 + 2, none⟩ = some (.string rs[i].to_) := hca i hi 2 _ rfl
      have a3 : wr.cell? ⟨ba, offa + i * 5 + 3, none⟩ = some (.int .i64 rs[i].long) := hca i hi 3 _ rfl
      have a4 : wr.cell? ⟨ba, offa + i * 5 + 4, none⟩ = some (.slice rs[i].ka rs[i].knots.length rs[i].kc) := hca i hi 4 _ rfl
      have htb := time_bd hko a
      have HTI := hide (fun W (hx : Nx wr W) => w_ArcTime lo rs[i] a W ((hKx.nx hbw).nx hx) hko ⟨ha1, ha2⟩)
      clear hca hKx hLx hko
      generalize timeI rs[i].knots a = z at *
      generalize rs[i].key = x0 at *
      generalize rs[i].from_ = x1 at *
      generalize rs[i].to_ = x2 at *
      generalize rs[i].long = x3 at *
      generalize rs[i].knots.length = x4 at *
      generalize rs[i].ka = x5 at *
      generalize rs[i].kc = x6 at *
      have i1 : (0 : Int) ≤ (i : Int) := by omega
      have i2 : (i : Int) < (m : Int) := by omega
      have q1 : IntKind.i64.wrap (a + z) = a + z := IntWalk.i64_in _ (by omega)
      obtain ⟨Zo, co, eo, _, _⟩ := Rd.of_own encI_len rfl hown
      subst eo
      clear hown
      go_upto_region 5 with fail
      go_cut [2] (fun v wx => v = .int .i64 (a + z) ∧ Nx wr wx)
      case first =>
        go_region_held3 (fun w' => w'.cell? ⟨g, 0, none⟩ = some (.slice A nn ca) ∧ w'.cell? ⟨g, 1, none⟩ = some (.slice (some ⟨ba, offa, none⟩) m cb) ∧ w'.cell? ⟨g, 2, none⟩ = some (.slice C nb cc) ∧ w'.cell? ⟨ba, offa + i * 5, none⟩ = some (.string x0) ∧ w'.cell? ⟨ba, offa + i * 5 + 1, none⟩ = some (.string x1) ∧ w'.cell? ⟨ba, offa + i * 5 + 2, none⟩ = some (.string x2) ∧ w'.cell? ⟨ba, offa + i * 5 + 3, none⟩ = some (.int .i64 x3) ∧ w'.cell? ⟨ba, offa + i * 5 + 4, none⟩ = some (.slice x5 x4 x6))
          (first | (go_split_ands; exact ⟨nx_cell hn5 (Nat.lt_of_lt_of_le hgr hn4.sz) ‹_›, nx_cell hn5 (Nat.lt_of_lt_of_le hgr hn4.sz) ‹_›, nx_cell hn5 (Nat.lt_of_lt_of_le hgr hn4.sz) ‹_›, nx_cell hn5 (Nat.lt_of_lt_of_le hbar hn4.sz) ‹_›, nx_cell hn5 (Nat.lt_of_lt_of_le hbar hn4.sz) ‹_›, nx_cell hn5 (Nat.lt_of_lt_of_le hbar hn4.sz) ‹_›, nx_cell hn5 (Nat.lt_of_lt_of_le hbar hn4.sz) ‹_›, nx_cell hn5 (Nat.lt_of_lt_of_le hbar hn4.sz) ‹_›⟩) | (go_split_ands; exact ⟨nx_cell hn4 hgr ‹_›, nx_cell hn4 hgr ‹_›, nx_cell hn4 hgr ‹_›, nx_cell hn4 hbar ‹_›, nx_cell hn4 hbar ‹_›, nx_cell hn4 hbar ‹_›, nx_cell hn4 hbar ‹_›, nx_cell hn4 hbar ‹_›⟩) | go_keep)
          (first
            | (go_at_call 151; refine (HTI.out _ ((Nx.refl wr).drew.trans hn4)).mono ?_; rintro e w5 ⟨rfl, hn5⟩)
            | (go_at_call 90; refine (HARs.out _ hbw.drew).mono ?_; rintro e w4 ⟨rfl, hn4⟩))
        go_wp2
        go_meet
        exact ⟨rfl, ((Nx.refl wr).drew.trans hn4).trans hn5⟩
      case rest =>
        obtain ⟨rfl, hx⟩ := hcut
        clear a0 a1 a2 a3 a4
        by_cases hend : 345686400000 ≤ a + z
        · have te : decide (345686400000 ≤ a + z) = true := decide_eq_true hend
          have hON : O = none := by
            have h1 := HQ.out
            rw [HD.out, if_pos hend] at h1
            cases h : O with
            | none => rfl
            | some r => rw [h] at h1; cases h1
          clear hend
          go_wp2_with fail
          go_ret2
          have hU := HU.out
          rw [hON] at hU
          refine ⟨none, 0, ?_, ?_, hna.trans (hbw.trans hx)⟩
          · rw [hU, hON]; rfl
          · rw [hU]; exact Rd.nil
        · have te : decide (345686400000 ≤ a + z) = false := decide_eq_false hend
          have hD2 := HD.out.trans (if_neg hend)
          have HOX := hide (own_nx HOW.out hx)
          have hsz := (hbw.trans hx).sz
          go_wp2_with (at_builtin; refine wpApp rfl _ _ _ rfl el_Int encI encI_len encI_one (by omega) (by omega) wa.heap.size _ zs rfl (HOX.out.alloc _) _ (a + z) _ rfl (hnew rfl) rfl (by omega) (by simp; omega) ?_; intro v5 w5 hown5 hg5)
          go_roundw
          case rel =>
            refine ⟨k + 1, a + z, zs ++ [a + z], by omega, rfl, by go_num, by rw [List.length_append]; show zs.length + 1 ≤ _; omega, hown5, ((hbw.trans hx).alloc _).grown hg5 (own_blk_lt HOX.out), by omega, by omega, ?_⟩
            rw [HQ.out, hD2, Option.map_map]
            congr 1
            funext r
            show zs ++ ((a + z) :: r) = (zs ++ [a + z]) ++ r
            rw [List.append_assoc]; rfl
          case measure => simp [intOf]; omega
    · have hL : U = zs ∧ O.isSome = true := by
        have h1 := HQ.out
        rw [List.drop_of_length_le (by have := HN.out; omega)] at h1
        cases h : O with
        | none => rw [h] at h1; cases h1
        | some r =>
          rw [h] at h1
          have h2 : at_ :: r = zs := by
            have h3 : some (at_ :: r) = some (zs ++ []) := h1
            injection h3 with h3
            rw [h3, List.append_nil]
          have hU := HU.out
          rw [h] at hU
          exact ⟨hU.trans h2, rfl⟩
      obtain ⟨Zo, co, eo, hRz, _⟩ := Rd.of_own encI_len rfl hown
      subst eo
      have HRZ := hide hRz
      clear hown hRz
      go_wp2_with fail
      go_ret2
      obtain ⟨rfl, hF0⟩ := hL
      exact ⟨Zo, co, by rw [hF0]; rfl, HRZ.out.low (Nat.zero_le _), hna.trans hbw⟩
end Go.Proofs.YtklgknepamebdaaGreatDoor
/- Arcs one after the other: the reference. -/
namespace Go.Proofs.YtklgknepamebdaaGreatDoor
open Go.RowKit

set_option maxRecDepth 100000 in
set_option maxHeartbeats 4000000 in
theorem w_WalkFault (lo : Nat) (A B C : Option Addr) (nn ca cb cc : Nat) (rs : List Arc) (bs : List Ban) (fr : ByteArray) (lo2 : Nat) (D : Option Addr) (cd : Nat) (l : List ByteArray) (w : World)
    (hA : RdArcs w lo B rs) (hal : rs.length ≤ 400) (hB : Rd w lo C 2 encBan bs) (hbl : bs.length ≤ 400) (hR : Rd w lo2 D 1 encS l) (hl : l.length ≤ 1000) :
    Calls Tryz.prog 89 #[.agg #[.slice A nn ca, .slice B rs.length cb, .slice C bs.length cc], .string fr, .slice D l.length cd] w fun e w' => e = .returned (.int .i64 (chainF rs bs fr none l)) ∧ Nx w w' := by
  obtain ⟨wa, hwa⟩ : ∃ wa, wa = w.alloc (.cells #[.slice A nn ca, .slice B rs.length cb, .slice C bs.length cc] 30) := ⟨_, rfl⟩
  have hna : Nx w wa := hwa ▸ (Nx.refl w).alloc _
  have hgw : w.heap.size < wa.heap.size := by rw [hwa]; simp
  have b0 : wa.cell? ⟨w.heap.size, 0, none⟩ = some (.slice A nn ca) := by rw [hwa]; go_simp
  have b1 : wa.cell? ⟨w.heap.size, 1, none⟩ = some (.slice B rs.length cb) := by rw [hwa]; go_simp
  have b2 : wa.cell? ⟨w.heap.size, 2, none⟩ = some (.slice C bs.length cc) := by rw [hwa]; go_simp
  have HAR := hide (fun s W (hx : Nx wa W) => w_ArcAt lo A B C nn bs.length ca cb cc rs s W ((hA.1.nx hna).nx hx) (by omega))
  have HBN := hide (fun f t W (hx : Nx wa W) => w_bannedQ lo A B C nn rs.length ca cb cc bs f t W ((hB.nx hna).nx hx) (by omega))
  have HRA := hide (hA.nx hna).1
  have HR := hide (hR.nx hna)
  clear hA hB hR
  generalize hn : l.length = n at *
  generalize hm : rs.length = m at *
  have HN := hide hn
  have HM := hide hm
  clear hn hm
  obtain ⟨V, hV⟩ : ∃ V, V = chainF rs bs fr none l := ⟨_, rfl⟩
  rw [← hV]
  have HV := hide hV
  clear hV
  have tl : decide ((n : Int) > 2000) = false := decide_eq_false (by omega)
  have tl2 : decide ((2000 : Int) < (n : Int)) = false := decide_eq_false (by omega)
  go_enter Tryz.func89, Tryz.ntmps89
  go_wp2_with fail
  rw [← hwa]
  have HWA := hide hwa
  clear hwa
  generalize w.heap.size = g at *
  go_wp2_with fail
  go_loopw [7, 17] (fun vf i wr => ∃ (k : Nat) (f : ByteArray), k ≤ n ∧ vf = .string f ∧ i = .int .i64 k ∧ Nx wa wr ∧ V = chainF rs bs f (prevOf l k) (l.drop k)) (fun _ i _ => n - (intOf i).toNat)
  case atStart => exact ⟨0, fr, Nat.zero_le _, rfl, rfl, Nx.refl _, HV.out⟩
  case round =>
    obtain ⟨k, f, hk, rfl, rfl, hbw, hq⟩ := hrel
    have HQ := hide hq
    clear hq
    by_cases hlt : k < n
    · have hlt' : k < l.length := by have := HN.out; omega
      have HD := hide (chain_drop rs bs l f k hlt')
      obtain ⟨b, off, rfl, _, hb, hbr, hc⟩ := HR.out.open_ hbw (by have := HN.out; omega)
      have c0 : wr.cell? ⟨b, off + k, none⟩ = some (.string l[k]) := by have := hc k hlt' 0 _ rfl; simpa using this
      have HPC := hide (fun h0 : 0 < k => (show wr.cell? ⟨b, off + (k - 1), none⟩ = some (.string (l[k - 1]'(by omega))) by have := hc (k - 1) (by omega) 0 _ rfl; simpa using this))
      have HPV := hide (fun h0 : 0 < k => (show prevBan bs (prevOf l k) l[k] = bannedB bs (l[k - 1]'(by omega)) l[k] by rw [prevOf_pos _ k h0 (by omega)]; rfl))
      have HP0 := hide (fun h0 : k = 0 => (show prevBan bs (prevOf l k) l[k] = false by rw [show prevOf l k = none by subst h0; rfl]; rfl))
      have bb0 := nx_cell hbw hgw b0
      have bb1 := nx_cell hbw hgw b1
      have bb2 := nx_cell hbw hgw b2
      clear hc
      generalize l[k] = s at *
      generalize prevBan bs (prevOf l k) s = pb at *
      by_cases hf : arcI rs s < 0
      · have tf : decide (arcI rs s < 0) = true := decide_eq_true hf
        have HG := hide (HD.out.trans (if_pos hf))
        clear hf
        go_wp2_with (go_at_call 90; refine (HAR.out s _ hbw).mono ?_; rintro e w2 ⟨rfl, hn2⟩)
        go_ret
        exact ⟨ret_int (by rw [HQ.out, HG.out]), hna.trans (hbw.trans hn2)⟩
      obtain ⟨i, hi, ei, hai⟩ := arc_found (Int.not_lt.1 hf)
      have ha := hai hi
      have HG := hide (HD.out.trans (if_neg hf))
      rw [ha] at HG
      have HARs := hide (fun W hx => HAR.out s W hx)
      rw [ei] at HARs
      clear hf ei HD hai ha
      have him : i < m := by have := HM.out; omega
      have t0 : decide ((i : Int) < 0) = false := decide_eq_false (by omega)
      go_wp2_with fail
      refine (HARs.out _ hbw).mono ?_
      rintro e w2 ⟨rfl, hn2⟩
      have hnx2 := hbw.trans hn2
      have gg0 := nx_cell hnx2 hgw b0
      have gg1 := nx_cell hnx2 hgw b1
      have gg2 := nx_cell hnx2 hgw b2
      obtain ⟨ba, offa, rfl, _, hba, hbar, hca⟩ := HRA.out.open_ hnx2 (by omega)
      have a1 : w2.cell? ⟨ba, offa + i * 5 + 1, none⟩ = some (.string rs[i].from_) := hca i hi 1 _ rfl
      have a2 : w2.cell? ⟨ba, offa + i * 5 + 2, none⟩ = some (.string rs[i].to_) := hca i hi 2 _ rfl
      have HPC2 := hide (fun h0 : 0 < k => nx_cell hn2 hbr (HPC.out h0))
      have hb2 := Nat.lt_of_lt_of_le hbr hn2.sz
      have hg2 := Nat.lt_of_lt_of_le hgw hnx2.sz
      clear hca c0 HPC bb0 bb1 bb2
      generalize rs[i].from_ = xf at *
      generalize rs[i].to_ = xt at *
      have i1 : (0 : Int) ≤ (i : Int) := by omega
      have i2 : (i : Int) < (m : Int) := by omega
      go_upto_region 10 with fail
      go_cut [28] (fun v wx => ∃ bb : Bool, v = .bool bb ∧ bb = decide (f ≠ ByteArray.empty ∧ xf ≠ f) ∧ w2 = wx)
      case first =>
        by_cases hc1 : f = ByteArray.empty
        · have e1 : f.toList = [] := (emptyL f).2 hc1
          have HC := hide hc1
          clear hc1
          go_wp2_with fail
          go_meet
          exact ⟨_, rfl, by rw [decide_eq_false (fun h => h.1 HC.out)], rfl⟩
        · have e1 : ¬ f.toList = [] := fun h => hc1 ((emptyL f).1 h)
          have HC := hide hc1
          clear hc1
          by_cases hc2 : xf = f
          · have e2 : (xf.toList == f.toList) = true := by rw [eqS_iff]; exact decide_eq_true hc2
            have HC2 := hide hc2
            clear hc2
            go_wp2_with fail
            go_meet
            exact ⟨_, rfl, by rw [decide_eq_false (fun h => h.2 HC2.out)], rfl⟩
          · have e2 : (xf.toList == f.toList) = false := by rw [eqS_iff]; exact decide_eq_false hc2
            have HC2 := hide hc2
            clear hc2
            go_wp2_with fail
            go_meet
            exact ⟨_, rfl, by rw [decide_eq_true ⟨HC.out, HC2.out⟩]; first | rfl | simp [e1], rfl⟩
      case rest =>
        obtain ⟨bb, rfl, hbb, rfl⟩ := hcut
        have HBB := hide hbb
        clear hbb
        rcases Bool.eq_false_or_eq_true bb with rfl | rfl
        · have HG2 := hide (HG.out.trans (if_pos (of_decide_eq_true HBB.out.symm)))
          go_wp2_with fail
          go_ret
          exact ⟨ret_int (by rw [HQ.out, HG2.out]), hna.trans hnx2⟩
        · have HG2 := hide (HG.out.trans (if_neg (of_decide_eq_false HBB.out.symm)))
          clear HG HBB
          go_upto_region 12 with fail
          go_cut [41] (fun v wx => v = .bool pb ∧ Nx w2 wx)
          case first =>
            clear a1 a2
            by_cases hk0 : 0 < k
            · have hp := HPC2.out hk0
              have hpv := HPV.out hk0
              generalize (l[k - 1]'(by omega)) = p0 at *
              have k1 : IntKind.i64.wrap ((k : Int) - 1) = (k : Int) - 1 := IntWalk.i64_in _ (by omega)
              have k2 : (1 : Int) ≤ (k : Int) := by omega
              have k3 : ((k : Int) - 1).toNat = k - 1 := by omega
              have k4 : (k : Int) - 1 < (n : Int) := by omega
              have kp : decide ((k : Int) > 0) = true := decide_eq_true (by omega)
              have kp2 : decide ((0 : Int) < (k : Int)) = true := decide_eq_true (by omega)
              have hB2 := HBN.out p0 s _ hnx2.drew
              rw [← hpv] at hB2
              have HB2 := hide hB2
              clear hB2 hpv
              go_region_held3 (fun w' => w'.cell? ⟨g, 0, none⟩ = some (.slice A nn ca) ∧ w'.cell? ⟨g, 1, none⟩ = some (.slice (some ⟨ba, offa, none⟩) m cb) ∧ w'.cell? ⟨g, 2, none⟩ = some (.slice C bs.length cc) ∧ w'.cell? ⟨b, off + (k - 1), none⟩ = some (.string p0))
                (first | (go_split_ands; exact ⟨nx_cell hn4 hg2 ‹_›, nx_cell hn4 hg2 ‹_›, nx_cell hn4 hg2 ‹_›, nx_cell hn4 hb2 ‹_›⟩) | go_keep)
                (first | (go_at_call 152; refine HB2.out.mono ?_; rintro e w4 ⟨rfl, hn4⟩))
              go_wp2
              go_meet
              exact ⟨rfl, (Nx.refl w2).drew.trans hn4⟩
            · have kp : decide ((k : Int) > 0) = false := decide_eq_false (by omega)
              have kp2 : decide ((0 : Int) < (k : Int)) = false := decide_eq_false (by omega)
              have hb0 := HP0.out (by omega)
              go_quiet (fail)
              go_wp2
              go_meet
              exact ⟨by rw [hb0], (Nx.refl _).drewN _⟩
          case rest =>
            obtain ⟨rfl, hx⟩ := hcut
            have e2 := nx_cell hx hbar a2
            have h1 := nx_cell hx hg2 gg1
            clear a1 a2 gg0 gg1 gg2
            cases hpb : pb
            · rw [hpb, if_neg (by simp)] at HG2
              go_wp2_with fail
              go_roundw
              case rel => exact ⟨k + 1, xt, by omega, rfl, by go_num, hnx2.trans hx, by rw [HQ.out, HG2.out]⟩
              case measure => simp [intOf]; omega
            · rw [hpb, if_pos rfl] at HG2
              go_wp2_with fail
              go_ret
              exact ⟨ret_int (by rw [HQ.out, HG2.out]), hna.trans (hnx2.trans hx)⟩
    · go_wp2
      go_ret
      exact ⟨ret_int (by rw [HQ.out, List.drop_of_length_le (by have := HN.out; omega)]; rfl), hna.trans hbw⟩
end Go.Proofs.YtklgknepamebdaaGreatDoor
/- What the laws share: the end, the stream, cmp.Or of two or three. -/
namespace Go.Proofs.YtklgknepamebdaaGreatDoor
open Go.RowKit

/-- The law's world: what was there stays. -/
def TrueNx (w : World) (e : Ending) (w' : World) : Prop := e = .returned (.bool true) ∧ Nx w w'

theorem w_Or2 (a b : Int) (g c : Nat) (w : World) (hg : w.heap[g]? = some (.cells #[.int .i64 a, .int .i64 b] 42 (0, 0))) :
    Calls Tryz.prog 18 #[.slice (some ⟨g, 0, none⟩) 2 c] w fun e w' => e = .returned (.int .i64 (orI [a, b])) ∧ w = w' := by
  have hR : Rd w 0 (some ⟨g, 0, none⟩) 1 encI [a, b] := Rd.lit hg (Nat.zero_le _) (fun _ => rfl) rfl
  exact w_OrE 0 _ c [a, b] w hR (by simp)

theorem str_new (A : Option Addr) (n c : Nat) (w : World) (hn : n ≤ 9223372036854775807)
    (hL : 0 < n → ∃ b off, A = some ⟨b, off, none⟩ ∧ b < w.heap.size ∧ ∀ j, j < n → ∃ z : Int, w.cell? ⟨b, off + j, none⟩ = some (.int .i64 z) ∧ -9223372036854775808 ≤ z ∧ z ≤ 9223372036854775807) :
    Str (w.alloc (.cells #[.slice A n c, .int .i64 0] 25)) w.heap.size 0 := by
  refine ⟨A, n, c, 0, Nat.le_refl _, hn, hnew rfl, fun hp => ?_⟩
  obtain ⟨b, off, e, hb, hz⟩ := hL hp
  refine ⟨b, off, e, hb, fun j hj => ?_⟩
  obtain ⟨z, h1, h2⟩ := hz j hj
  exact ⟨z, (Below.cell ((Nx.refl w).alloc _) (p := ⟨b, _, none⟩) hb).trans h1, h2⟩
end Go.Proofs.YtklgknepamebdaaGreatDoor
/- A way that is right: the law's own test. -/
namespace Go.Proofs.YtklgknepamebdaaGreatDoor
open Go.RowKit

theorem walkO_len2 (rs : List Arc) : ∀ (l : List ByteArray) (a : Int) (r : List Int), walkO rs a l = some r → r.length = l.length
  | [], _, r, h => by injection h with h; subst h; rfl
  | k :: l, a, r, h => by
    rw [walkO] at h
    split at h
    · cases h
    · cases h2 : walkO rs (outAt rs a k) l with
      | none => rw [h2] at h; cases h
      | some r2 =>
        rw [h2] at h
        injection h with h
        subst h
        rw [List.length_cons, List.length_cons, walkO_len2 rs l _ r2 h2]
theorem last_at {a x : Int} {ts : List Int} {d : Int} (h : (a :: ts).getLastD d = x) : (a :: ts)[ts.length]'(by simp) = x := by
  rw [← h, List.getLastD_eq_getLast?, List.getLast?_eq_getElem?]
  simp
set_option maxRecDepth 100000 in
set_option maxHeartbeats 4000000 in
theorem w_wayRight (lo : Nat) (A B C : Option Addr) (nn ca cb cc : Nat) (ns : List Node) (rs : List Arc) (bs : List Ban) (f t : ByteArray) (lo2 : Nat) (Z : Option Addr) (c : Nat) (keys : List ByteArray) (lv ar : Int) (w : World)
    (hA : RdArcs w lo B rs) (hal : rs.length ≤ 400) (hB : Rd w lo C 2 encBan bs) (hbl : bs.length ≤ 400) (hC : chk (arcF ns) none rs = 0) (hR : Rd w lo2 Z 1 encS keys) (hW : WayOk ns rs bs f t keys lv ar) (h0 : 0 ≤ lv ∧ lv ≤ 345686399999) :
    Calls Tryz.prog 34 #[.agg #[.slice A nn ca, .slice B rs.length cb, .slice C bs.length cc], .string f, .string t, .agg #[.slice Z keys.length c, .int .i64 lv, .int .i64 ar]] w fun e w' => e = .returned (.bool true) ∧ Nx w w' := by
  obtain ⟨wa, hwa⟩ : ∃ wa, wa = w.alloc (.cells #[.slice A nn ca, .slice B rs.length cb, .slice C bs.length cc] 30) := ⟨_, rfl⟩
  obtain ⟨wb, hwb⟩ : ∃ wb, wb = wa.alloc (.cells #[.slice Z keys.length c, .int .i64 lv, .int .i64 ar] 62) := ⟨_, rfl⟩
  have hna : Nx w wa := hwa ▸ (Nx.refl w).alloc _
  have hnb : Nx wa wb := hwb ▸ (Nx.refl wa).alloc _
  have hab := hna.trans hnb
  have hgw : w.heap.size < wa.heap.size := by rw [hwa]; simp
  have hgb : wa.heap.size < wb.heap.size := by rw [hwb]; simp
  have b0 : wa.cell? ⟨w.heap.size, 0, none⟩ = some (.slice A nn ca) := by rw [hwa]; go_simp
  have b1 : wa.cell? ⟨w.heap.size, 1, none⟩ = some (.slice B rs.length cb) := by rw [hwa]; go_simp
  have b2 : wa.cell? ⟨w.heap.size, 2, none⟩ = some (.slice C bs.length cc) := by rw [hwa]; go_simp
  have y0 : wb.cell? ⟨wa.heap.size, 0, none⟩ = some (.slice Z keys.length c) := by rw [hwb]; go_simp
  have y1 : wb.cell? ⟨wa.heap.size, 1, none⟩ = some (.int .i64 lv) := by rw [hwb]; go_simp
  have y2 : wb.cell? ⟨wa.heap.size, 2, none⟩ = some (.int .i64 ar) := by rw [hwb]; go_simp
  have HBX := hide (fun W (hx : Nx wb W) => (⟨nx_cell (hnb.trans hx) hgw b0, nx_cell (hnb.trans hx) hgw b1, nx_cell (hnb.trans hx) hgw b2⟩ : W.cell? ⟨w.heap.size, 0, none⟩ = some (.slice A nn ca) ∧ W.cell? ⟨w.heap.size, 1, none⟩ = some (.slice B rs.length cb) ∧ W.cell? ⟨w.heap.size, 2, none⟩ = some (.slice C bs.length cc)))
  have HWX := hide (fun W (hx : Nx wb W) => (⟨nx_cell hx hgb y0, nx_cell hx hgb y1, nx_cell hx hgb y2⟩ : W.cell? ⟨wa.heap.size, 0, none⟩ = some (.slice Z keys.length c) ∧ W.cell? ⟨wa.heap.size, 1, none⟩ = some (.int .i64 lv) ∧ W.cell? ⟨wa.heap.size, 2, none⟩ = some (.int .i64 ar)))
  have hl := hW.len
  have hok : ∀ k ∈ keys, 0 ≤ arcI rs k := chain_ok rs bs keys f none hW.chain
  have HWF := hide (fun W (hx : Nx wb W) => w_WalkFault lo A B C nn ca cb cc rs bs f lo2 Z c keys W (hA.nx (hab.trans hx)) hal (hB.nx (hab.trans hx)) hbl (hR.nx (hab.trans hx)) (by omega))
  rw [hW.chain] at HWF
  have HAT := hide (fun s W (hx : Nx wb W) => w_ArcAt lo A B C nn bs.length ca cb cc rs s W (hA.nx (hab.trans hx)).1 (by omega))
  have HWO := hide (fun W (hx : Nx wb W) => w_WalkOf lo A B C nn bs.length ca cb cc rs lo2 Z c keys lv W (hA.nx (hab.trans hx)) hal (knots_ok hC) (hR.nx (hab.trans hx)) (by omega) hok h0)
  obtain ⟨ts, hts, hlast⟩ := hW.walk
  have hU : walkU rs lv keys = lv :: ts := by unfold walkU; rw [hts]
  have hI : (walkO rs lv keys).isSome = true := by rw [hts]; rfl
  rw [hU, hI] at HWO
  have hUl := last_at hlast
  have HTL := hide (show ts.length ≤ 400 by rw [walkO_len2 rs keys lv ts hts]; exact hl)
  have hHere := hW.here
  have HR := hide (hR.nx hab)
  have HRA := hide (hA.nx hab).1
  have HOK := hide hok
  have HAB := hide hab
  clear hW hA hB hR hC hU hI hts hlast hok y0 y1 y2 b0 b1 b2 hna hnb hab
  have HHE := hide hHere
  have HUL := hide hUl
  clear hHere hUl
  have E1 := hide (show w.heap.size + 1 = wa.heap.size by rw [hwa]; simp)
  have HW1 := hide hwa
  have HW2 := hide hwb
  clear hwa hwb
  go_enter Tryz.func34, Tryz.ntmps34
  go_upto_region 1 with fail
  rw [E1.out]
  rw [← HW1.out]
  rw [← HW2.out]
  generalize hg : w.heap.size = g at *
  generalize hy : wa.heap.size = y at *
  obtain ⟨b0, b1, b2⟩ := HBX.out wb (Nx.refl _)
  obtain ⟨y0, y1, y2⟩ := HWX.out wb (Nx.refl _)
  have hgl : g < wb.heap.size := by omega
  generalize hkn : keys.length = n at *
  generalize hm : rs.length = m at *
  have HKN := hide hkn
  have HM := hide hm
  clear hkn hm
  go_wp2_with fail
  refine (HWF.out wb (Nx.refl _)).mono ?_
  rintro e w1 ⟨rfl, hn1⟩
  clear b0 b1 b2 y0 y1 y2 HWF
  obtain ⟨b0, b1, b2⟩ := HBX.out w1 hn1
  obtain ⟨y0, y1, y2⟩ := HWX.out w1 hn1
  go_upto_if 24 with fail
  go_cut [9] (fun v wx => v = .string t ∧ Nx w1 wx)
  case first =>
    by_cases hk : n = 0
    · have e : keys = [] := List.eq_nil_of_length_eq_zero (HKN.out.trans hk)
      have h1 := HHE.out
      rw [e] at h1
      have h1 : f = t := h1
      subst h1
      have tk : decide ((n : Int) > 0) = false := decide_eq_false (by omega)
      have tk2 : decide (0 < (n : Int)) = false := decide_eq_false (by omega)
      clear e
      go_wp2_with fail
      go_meet
      exact ⟨rfl, Nx.refl _⟩
    · have hlt : n - 1 < keys.length := by have := HKN.out; omega
      obtain ⟨by_, boff, rfl, _, hyb, hyb1, hyc⟩ := HR.out.open_ hn1 (by omega)
      have c0 : w1.cell? ⟨by_, boff + (n - 1), none⟩ = some (.string (keys[n - 1])) := by have := hyc (n - 1) hlt 0 _ rfl; simpa using this
      obtain ⟨x, hx, ex, hax⟩ := arc_found (HOK.out _ (List.getElem_mem hlt))
      have hat := hax hx
      have hlast : (arcAt rs (keys[n - 1])).to_ = t := by
        have h1 := HHE.out
        have e : keys = keys.take (n - 1) ++ [keys[n - 1]] := by
          conv => lhs; rw [← List.take_append_drop (n - 1) keys]
          congr 1
          rw [List.drop_eq_getElem_cons hlt, List.drop_of_length_le (by have := HKN.out; omega)]
        rw [e, stOf_app] at h1
        exact h1
      rw [hat] at hlast
      have hAT := HAT.out keys[n - 1] _ (hn1.trans (Nx.refl w1).drew)
      rw [ex] at hAT
      have HATT := hide hAT
      obtain ⟨ba, offa, rfl, _, hba, hbar, hca⟩ := HRA.out.open_ hn1 (by omega)
      have a2 : w1.cell? ⟨ba, offa + x * 5 + 2, none⟩ = some (.string rs[x].to_) := hca x hx 2 _ rfl
      rw [hlast] at a2
      have hxm : x < m := by have := HM.out; omega
      have hg1 : g < w1.heap.size := Nat.lt_of_lt_of_le hgl hn1.sz
      have hy1 : y < w1.heap.size := Nat.lt_of_lt_of_le hgb hn1.sz
      clear hyc hca hat hax ex hAT hlast
      generalize (keys[n - 1]) = k at *
      clear hlt
      have tk : decide ((n : Int) > 0) = true := decide_eq_true (by omega)
      have tk2 : decide (0 < (n : Int)) = true := decide_eq_true (by omega)
      have k1 : IntKind.i64.wrap ((n : Int) - 1) = (n : Int) - 1 := IntWalk.i64_in _ (by have := HKN.out; omega)
      have k2 : (1 : Int) ≤ (n : Int) := by omega
      have k3 : ((n : Int) - 1).toNat = n - 1 := by omega
      have k4 : (n : Int) - 1 < (n : Int) := by omega
      have i1 : (0 : Int) ≤ (x : Int) := by omega
      have i2 : (x : Int) < (m : Int) := by omega
      go_wp2_with fail
      go_region_held3 (fun w' => w'.cell? ⟨g, 0, none⟩ = some (.slice A nn ca) ∧ w'.cell? ⟨g, 1, none⟩ = some (.slice (some ⟨ba, offa, none⟩) m cb) ∧ w'.cell? ⟨g, 2, none⟩ = some (.slice C bs.length cc) ∧ w'.cell? ⟨y, 0, none⟩ = some (.slice (some ⟨by_, boff, none⟩) n c) ∧ w'.cell? ⟨by_, boff + (n - 1), none⟩ = some (.string k) ∧ w'.cell? ⟨ba, offa + x * 5 + 2, none⟩ = some (.string t))
        (first | (go_split_ands; exact ⟨nx_cell hn4 hg1 ‹_›, nx_cell hn4 hg1 ‹_›, nx_cell hn4 hg1 ‹_›, nx_cell hn4 hy1 ‹_›, nx_cell hn4 hyb1 ‹_›, nx_cell hn4 hbar ‹_›⟩) | go_keep)
        (first | (go_at_call 90; refine HATT.out.mono ?_; rintro e w4 ⟨rfl, hn4⟩))
      go_wp2
      go_meet
      exact ⟨rfl, (Nx.refl w1).drew.trans hn4⟩
  case rest =>
    obtain ⟨rfl, hx⟩ := hcut
    have hn2 := hn1.trans hx
    clear b0 b1 b2 y0 y1 y2
    obtain ⟨b0, b1, b2⟩ := HBX.out wc hn2
    obtain ⟨y0, y1, y2⟩ := HWX.out wc hn2
    go_wp2_with fail
    refine (HWO.out wc hn2).mono ?_
    rintro e w5 ⟨Y, cy, rfl, hRY, hn5⟩
    obtain ⟨bz, ofz, rfl, _, hbz, hbz1, hzc⟩ := hRY.open_ (Nx.refl _) (by simp)
    have z0 : w5.cell? ⟨bz, ofz + ts.length, none⟩ = some (.int .i64 ar) := by
      have := hzc ts.length (by simp) 0 _ rfl
      rw [HUL.out] at this
      simpa using this
    have hyw := nx_cell (hn2.trans hn5) hgb (HWX.out wb (Nx.refl _)).2.2
    clear b0 b1 b2 y0 y1 y2 hzc hRY
    have hNN := hide (HAB.out.trans (hn2.trans hn5))
    have te : (t.toList == t.toList) = true := by rw [eqS_iff]; exact decide_eq_true rfl
    have tr : ((ar : Int) == ar) = true := by simp
    have hlen : (lv :: ts).length = ts.length + 1 := rfl
    rw [hlen]
    clear hlen HUL HWO
    have hql := HTL.out
    generalize ts.length = q at *
    have k0 : ((q + 1 : Nat) : Int) = (q : Int) + 1 := by omega
    have k1 : IntKind.i64.wrap ((q : Int) + 1 - 1) = (q : Int) := by rw [show (q : Int) + 1 - 1 = (q : Int) by omega]; exact IntWalk.i64_in _ (by omega)
    have k2 : (0 : Int) ≤ (q : Int) := by omega
    have k3 : (q : Int) < (q : Int) + 1 := by omega
    go_wp2_with fail
    go_quiet (fail)
    go_wp2
    go_ret
    exact ⟨rfl, hNN.out.drewN _⟩
end Go.Proofs.YtklgknepamebdaaGreatDoor
