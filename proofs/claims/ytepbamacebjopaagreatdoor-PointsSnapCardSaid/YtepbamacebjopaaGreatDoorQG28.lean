/- When one arrives at the earliest, and leaves at the latest: the reference. -/
import Derived.Test.YtepbamacebjopaaGreatDoorQOutL
import Derived.Test.YtepbamacebjopaaGreatDoorQG23
import Derived.Test.YtepbamacebjopaaGreatDoorQG19
import Derived.Test.YtepbamacebjopaaGreatDoorQG8
import Derived.Test.YtepbamacebjopaaGreatDoorQG15
import Derived.Test.YtepbamacebjopaaGreatDoorQG25
import Derived.Test.YtepbamacebjopaaGreatDoorQG12
import Derived.Test.YtepbamacebjopaaGreatDoorQG2
import Derived.Test.YtepbamacebjopaaGreatDoorQCheckR
import Derived.Test.YtepbamacebjopaaGreatDoorQG5
import Derived.Laws.StructEq
import Derived.Deep.DeepMust
namespace Go.Proofs.YtepbamacebjopaaGreatDoor
open Go.RowKit

theorem lt_heapA {w : World} {k : Nat} {o : Obj} (h : w.heap[k]? = some o) : k < w.heap.size := (Array.getElem?_eq_some_iff.1 h).1
/-- Right roads that are handed in by value, read. -/
structure ValR (w : World) (lo : Nat) (A B C : Option Addr) (nn ca cb cc : Nat) (ns : List Node) (rs : List Arc) (bs : List Ban) : Prop where
  hA : RdArcs w lo B rs
  hal : rs.length ≤ 400
  hB : Rd w lo C 2 encBan bs
  hbl : bs.length ≤ 400
  hC : chk (arcF ns) none rs = 0
theorem ValR.nx {w w' : World} {lo : Nat} {A B C : Option Addr} {nn ca cb cc : Nat} {ns : List Node} {rs : List Arc} {bs : List Ban} (h : ValR w lo A B C nn ca cb cc ns rs bs) (hn : Nx w w') : ValR w' lo A B C nn ca cb cc ns rs bs := ⟨h.hA.nx hn, h.hal, h.hB.nx hn, h.hbl, h.hC⟩
set_option maxRecDepth 100000 in
set_option maxHeartbeats 4000000 in
theorem w_ArriveAt (lo : Nat) (A B C : Option Addr) (nn ca cb cc : Nat) (ns : List Node) (rs : List Arc) (bs : List Ban) (fr to_ : ByteArray) (at_ : Int) (w : World) (hV : ValR w lo A B C nn ca cb cc ns rs bs) (hfr : 0 ≤ nodeI ns fr) (hto : 0 ≤ nodeI ns to_) (hat : 0 ≤ at_ ∧ at_ ≤ 345686399999) :
    Calls Tryz.prog 65 #[.agg #[.slice A nn ca, .slice B rs.length cb, .slice C bs.length cc], .string fr, .string to_, .int .i64 at_] w fun e w' => e = .returned (.int .i64 (arrG (gphOf ns rs bs) (nodeN ns fr) (nodeN ns to_) at_)) ∧ Nx w w' := by
  have HG := hide (gph_ok (bs := bs) hV.hC)
  by_cases he : fr = to_
  · subst he
    have hE := arrG_self HG.out hat.1 (show nodeN ns fr < (gphOf ns rs bs).nn from nodeN_lt hfr)
    rw [hE]
    have te : (fr.toList == fr.toList) = true := by rw [eqS_iff]; exact decide_eq_true rfl
    clear hV hE
    go_enter Tryz.func65, Tryz.ntmps65
    go_wp2_with fail
    go_ret
    exact ⟨rfl, (Nx.refl _).alloc _⟩
  · have te : (fr.toList == to_.toList) = false := by rw [eqS_iff]; exact decide_eq_false he
    have hab : nodeN ns fr ≠ nodeN ns to_ := fun h => he ((node_iff hfr hto).1 h)
    obtain ⟨wa, hwa⟩ : ∃ wa, wa = w.alloc (.cells #[.slice A nn ca, .slice B rs.length cb, .slice C bs.length cc] 30) := ⟨_, rfl⟩
    have hna : Nx w wa := hwa ▸ (Nx.refl w).alloc _
    have hbx : wa.heap[w.heap.size]? = some (.cells #[.slice A nn ca, .slice B rs.length cb, .slice C bs.length cc] 30 (0, 0)) := by rw [hwa]; exact hnew rfl
    have HO := hide (w_outs lo A B C nn ca cb cc ns rs bs fr at_ wa (hV.hA.nx hna) hV.hal (hV.hB.nx hna) hV.hbl hV.hC hfr hat)
    have HBX := hide hbx
    have HA := hide (hV.hA.nx hna)
    have hal := hV.hal
    have HSOL := hide (fun o (h : OutSol (gphOf ns rs bs) (nodeN ns fr) at_ o) => arrG_sol HG.out hat.1 (show nodeN ns fr < (gphOf ns rs bs).nn from nodeN_lt hfr) (show nodeN ns to_ < (gphOf ns rs bs).nn from nodeN_lt hto) h hab)
    have HTO := hide (fun k (hk : k < rs.length) => (show (gphOf ns rs bs).to_ k = nodeN ns to_ ↔ (arcX rs k).to_ = to_ from node_iff (arc_right hV.hC hk).2.1 hto))
    have HGM := hide (show (gphOf ns rs bs).m = rs.length from rfl)
    have r0 : wa.cell? ⟨w.heap.size, 0, none⟩ = some (.slice A nn ca) := (cell_of_row wa _ 0 _ _ _ hbx).trans rfl
    have r1 : wa.cell? ⟨w.heap.size, 1, none⟩ = some (.slice B rs.length cb) := (cell_of_row wa _ 1 _ _ _ hbx).trans rfl
    have r2 : wa.cell? ⟨w.heap.size, 2, none⟩ = some (.slice C bs.length cc) := (cell_of_row wa _ 2 _ _ _ hbx).trans rfl
    clear hV hbx he hab
    generalize gphOf ns rs bs = G at *
    generalize nodeN ns fr = a at *
    generalize nodeN ns to_ = b at *
    generalize arrG G a b at_ = V at *
    generalize hm : rs.length = m at *
    have HM := hide hm
    clear hm hfr hto
    go_enter Tryz.func65, Tryz.ntmps65
    go_wp2_with fail
    rw [← hwa]
    have HWA := hide hwa
    clear hwa
    generalize w.heap.size = gb at *
    go_wp2_with fail
    refine HO.out.mono ?_
    rintro e w1 ⟨g, o, rfl, hsol, hrow, hn1⟩
    have HROW := hide hrow
    have HLE := hide hsol.len
    have HV := hide (HSOL.out o hsol)
    have HBX1 := hide ((hn1.block gb (lt_heapA HBX.out)).trans HBX.out)
    have hnw := hna.trans hn1
    have HA1 := hide (HA.out.nx hn1)
    clear hrow hsol r0 r1 r2 HO HA
    go_wp2_with fail
    go_loopw [9, 21] (fun v i wr => ∃ k : Nat, k ≤ m ∧ i = .int .i64 k ∧ v = .int .i64 (leastTo G o b k) ∧ w1 = wr) (fun _ i _ => m - (intOf i).toNat)
    case atStart => exact ⟨0, Nat.zero_le _, rfl, rfl, rfl⟩
    case round =>
      obtain ⟨k, hk, rfl, rfl, rfl⟩ := hrel
      by_cases hlt : k < m
      · have hkl : k < rs.length := by have := HM.out; omega
        have c0 := intRowO_cell (i := k) HROW.out (by rw [HLE.out, HGM.out]; exact hlt)
        obtain ⟨b', off, rfl, _, hb, hbr, hc⟩ := HA1.out.1.open_ (Nx.refl _) (by have := HM.out; omega)
        have a2 : w1.cell? ⟨b', off + k * 5 + 2, none⟩ = some (.string rs[k].to_) := hc k hkl 2 _ rfl
        have r1 : w1.cell? ⟨gb, 1, none⟩ = some (.slice (some ⟨b', off, none⟩) m cb) := (cell_of_row w1 _ 1 _ _ _ HBX1.out).trans rfl
        have hT := HTO.out k hlt
        rw [arcX_get hkl] at hT
        have HT := hide hT
        have HST := hide (show leastTo G o b (k + 1) = if G.to_ k = b then (if gi o k < leastTo G o b k then gi o k else leastTo G o b k) else leastTo G o b k from rfl)
        have i1 : (0 : Int) ≤ (k : Int) := by omega
        have i2 : (k : Int) < (m : Int) := by omega
        clear hc hT
        generalize rs[k].to_ = kt at *
        generalize leastTo G o b k = L at *
        generalize gi o k = z at *
        by_cases hf : kt = to_
        · have te : (kt.toList == to_.toList) = true := by rw [eqS_iff]; exact decide_eq_true hf
          have hst := HST.out.trans (if_pos (HT.out.2 hf))
          have HS2 := hide hst
          clear hf hst
          go_wp2_with fail
          go_roundw
          case rel => exact ⟨k + 1, by omega, by go_num, by rw [HS2.out]; congr 1; omega, trivial⟩
          case measure => simp [intOf]; omega
        · have te : (kt.toList == to_.toList) = false := by rw [eqS_iff]; exact decide_eq_false hf
          have hst := HST.out.trans (if_neg (fun h => hf (HT.out.1 h)))
          have HS2 := hide hst
          clear hf hst
          go_wp2_with fail
          go_roundw
          case rel => exact ⟨k + 1, by omega, by go_num, by rw [HS2.out], trivial⟩
          case measure => simp [intOf]; omega
      · obtain rfl : m = k := by omega
        go_wp2_with fail
        go_ret
        exact ⟨ret_int (by rw [← HV.out, HGM.out]), hnw⟩
end Go.Proofs.YtepbamacebjopaaGreatDoor
/- Plain: which nodes one comes to, and islands, the reference's way. -/
namespace Go.Proofs.YtepbamacebjopaaGreatDoor
open Go.RowKit

theorem ltS_trans2 {x y z : ByteArray} (h : ltS x y) (k : ltS y z) : ltS x z := List.lt_trans h k
theorem sortS_uniq : ∀ {l m : List ByteArray}, l.Pairwise ltS → m.Pairwise ltS → (∀ x, x ∈ l ↔ x ∈ m) → l = m
  | [], [], _, _, _ => rfl
  | [], y :: m, _, _, h => absurd ((h y).2 (by simp)) (by simp)
  | x :: l, [], _, _, h => absurd ((h x).1 (by simp)) (by simp)
  | x :: l, y :: m, hl, hm, h => by
    rw [List.pairwise_cons] at hl hm
    have e : x = y := by
      rcases List.mem_cons.1 ((h x).1 (by simp)) with e | e
      · exact e
      rcases List.mem_cons.1 ((h y).2 (by simp)) with e2 | e2
      · exact e2.symm
      exact absurd (ltS_trans2 (hm.1 x e) (hl.1 y e2)) (ltS_irrefl _)
    subst e
    rw [sortS_uniq hl.2 hm.2 (fun z => ?_)]
    constructor
    · intro hz
      rcases List.mem_cons.1 ((h z).1 (List.mem_cons_of_mem _ hz)) with e | e
      · subst e; exact absurd (hl.1 _ hz) (ltS_irrefl _)
      · exact e
    · intro hz
      rcases List.mem_cons.1 ((h z).2 (List.mem_cons_of_mem _ hz)) with e | e
      · subst e; exact absurd (hm.1 _ hz) (ltS_irrefl _)
      · exact e
theorem ReachE.then {E : List (ByteArray × ByteArray)} {a b c : ByteArray} (h1 : ReachE E a b) (h2 : ReachE E b c) : ReachE E a c := by
  induction h2 with
  | refl => exact h1
  | step _ hE ih => exact .step ih hE
theorem edges_back {rs : List Arc} {x y : ByteArray} : (x, y) ∈ edgesB true rs ↔ (y, x) ∈ edgesB false rs := by
  unfold edgesB
  simp only [List.mem_map, if_true, Bool.false_eq_true, if_false, Prod.mk.injEq]
  constructor
  · rintro ⟨a, h1, h2, h3⟩; exact ⟨a, h1, h3, h2⟩
  · rintro ⟨a, h1, h2, h3⟩; exact ⟨a, h1, h3, h2⟩
theorem reach_back {rs : List Arc} {a b : ByteArray} : ReachE (edgesB true rs) a b ↔ ReachE (edgesB false rs) b a := by
  constructor
  · intro h
    induction h with
    | refl => exact .refl
    | step _ hE ih => exact ReachE.then (.step .refl (edges_back.1 hE)) ih
  · intro h
    induction h with
    | refl => exact .refl
    | step _ hE ih => exact ReachE.then (.step .refl (edges_back.2 hE)) ih
/-- While one looks: vs are found, the arcs of the first i are done, and of the next one's those ahead of k. -/
structure Com (E : List (ByteArray × ByteArray)) (a : ByteArray) (vs : List ByteArray) (i k : Nat) : Prop where
  nodup : vs.Nodup
  start : a ∈ vs
  rch : ∀ x ∈ vs, ReachE E a x
  shut : ∀ p, p < i → p < vs.length ∧ ∀ y, (vs.getD p default, y) ∈ E → y ∈ vs
  part : ∀ q (h : q < E.length), q < k → E[q].1 = vs.getD i default → E[q].2 ∈ vs
section
variable {E : List (ByteArray × ByteArray)} {a : ByteArray} {vs : List ByteArray} {i k : Nat}
theorem Com.first (E : List (ByteArray × ByteArray)) (a : ByteArray) : Com E a [a] 0 0 :=
  ⟨by simp, by simp, fun x hx => by rw [List.mem_singleton.1 hx]; exact .refl, fun p h => absurd h (Nat.not_lt_zero _), fun q _ h => absurd h (Nat.not_lt_zero _)⟩
theorem Com.skip (h : Com E a vs i k) (hk : k < E.length) (hs : E[k].1 ≠ vs.getD i default ∨ E[k].2 ∈ vs) : Com E a vs i (k + 1) :=
  ⟨h.nodup, h.start, h.rch, h.shut, fun q hq hqk e => by
    by_cases e2 : q = k
    · subst e2
      exact hs.elim (fun hn => absurd e hn) id
    · exact h.part q hq (by omega) e⟩
theorem getD_snoc {l : List ByteArray} {x : ByteArray} {p : Nat} (hp : p < l.length) : (l ++ [x]).getD p default = l.getD p default := by
  rw [List.getD_eq_getElem?_getD, List.getD_eq_getElem?_getD, List.getElem?_append_left hp]
theorem Com.add (h : Com E a vs i k) (hk : k < E.length) (hi : i < vs.length) (h1 : E[k].1 = vs.getD i default) (h2 : E[k].2 ∉ vs) : Com E a (vs ++ [E[k].2]) i (k + 1) :=
  ⟨by
    rw [List.nodup_append]
    refine ⟨h.nodup, by simp, fun x hx y hy e => ?_⟩
    rw [List.mem_singleton.1 hy] at e
    exact h2 (e ▸ hx),
   List.mem_append_left _ h.start, fun x hx => by
    rcases List.mem_append.1 hx with h3 | h3
    · exact h.rch x h3
    · rw [List.mem_singleton.1 h3]
      have hm : vs.getD i default ∈ vs := by rw [List.getD_eq_getElem?_getD, List.getElem?_eq_getElem hi]; exact List.getElem_mem hi
      refine .step (h.rch _ hm) (?_ : (vs.getD i default, E[k].2) ∈ E)
      rw [← h1]
      exact List.getElem_mem hk,
   fun p hp => by
    obtain ⟨h3, h4⟩ := h.shut p hp
    refine ⟨by rw [List.length_append]; omega, fun y hy => ?_⟩
    rw [getD_snoc h3] at hy
    exact List.mem_append_left _ (h4 y hy),
   fun q hq hqk e => by
    rw [getD_snoc hi] at e
    by_cases e2 : q = k
    · subst e2; simp
    · exact List.mem_append_left _ (h.part q hq (by omega) e)⟩
theorem Com.next (h : Com E a vs i E.length) (hi : i < vs.length) : Com E a vs (i + 1) 0 :=
  ⟨h.nodup, h.start, h.rch, fun p hp => by
    by_cases e : p = i
    · subst e
      refine ⟨hi, fun y hy => ?_⟩
      obtain ⟨q, hq, e3⟩ := List.mem_iff_getElem.1 hy
      have := h.part q hq hq (by rw [e3])
      rw [e3] at this
      exact this
    · exact h.shut p (by omega), fun q _ h => absurd h (Nat.not_lt_zero _)⟩
theorem Com.done (h : Com E a vs vs.length 0) (x : ByteArray) : x ∈ vs ↔ ReachE E a x := by
  refine ⟨h.rch x, fun hr => ?_⟩
  induction hr with
  | refl => exact h.start
  | step _ h2 ih =>
    rename_i y z _
    obtain ⟨p, hp, e⟩ := List.mem_iff_getElem.1 ih
    have hg : vs.getD p default = y := by rw [List.getD_eq_getElem?_getD, List.getElem?_eq_getElem hp]; exact e
    exact (h.shut p hp).2 z (by rw [hg]; exact h2)
theorem Com.len (h : Com E a vs i k) : vs.length ≤ E.length + 1 := by
  have := nodupS_len _ _ h.nodup (fun x hx => reachE_in x (h.rch x hx))
  simpa using this
end
theorem edges_len (b : Bool) (rs : List Arc) : (edgesB b rs).length = rs.length := by unfold edgesB; rw [List.length_map]
theorem edges_at {rs : List Arc} {k : Nat} (hk : k < rs.length) : (edgesB false rs)[k]'(by rw [edges_len]; exact hk) = (rs[k].from_, rs[k].to_) := by
  unfold edgesB; simp
/-- Whom one comes to are nodes. -/
theorem reach_node {ns : List Node} {rs : List Arc} (hC : chk (arcF ns) none rs = 0) {a s : ByteArray} (ha : 0 ≤ nodeI ns a) (h : ReachE (edgesB false rs) a s) : 0 ≤ nodeI ns s := by
  cases h with
  | refl => exact ha
  | step _ hE =>
    unfold edgesB at hE
    obtain ⟨x, hx, e⟩ := List.mem_map.1 hE
    simp only [Bool.false_eq_true, if_false, Prod.mk.injEq] at e
    obtain ⟨k, hk, e2⟩ := List.mem_iff_getElem.1 hx
    have := (arc_right hC hk).2.1
    unfold arcX at this
    rw [List.getD_eq_getElem?_getD, List.getElem?_eq_getElem hk, Option.getD_some, e2, e.2] at this
    exact this
theorem node_mem {ns : List Node} {x : Node} (h : x ∈ ns) : 0 ≤ nodeI ns x.key := idxP_mem (fun n : Node => decide (n.key = x.key)) ns 0 ⟨x, h, by simp⟩
theorem rowI_sort {P : ByteArray → Prop} {ns : List Node} (hS : SortN ns) : (rowI P ns).Pairwise ltS := by
  unfold rowI
  rw [List.pairwise_map]
  exact List.Pairwise.filter _ hS
theorem rowI_mem {P : ByteArray → Prop} {ns : List Node} {s : ByteArray} : s ∈ rowI P ns ↔ 0 ≤ nodeI ns s ∧ P s := by
  unfold rowI
  constructor
  · intro h
    obtain ⟨x, hx, e⟩ := List.mem_map.1 h
    obtain ⟨h1, h2⟩ := List.mem_filter.1 hx
    subst e
    refine ⟨?_, by simpa using h2⟩
    exact node_mem h1
  · rintro ⟨h1, h2⟩
    obtain ⟨i, hi, _, e⟩ := node_found h1
    refine List.mem_map.2 ⟨ns.getD i default, List.mem_filter.2 ⟨?_, ?_⟩, e⟩
    · rw [List.getD_eq_getElem?_getD, List.getElem?_eq_getElem hi]; exact List.getElem_mem hi
    · rw [e]; simpa using h2
/-- The reference's island is the program's. -/
theorem row_eq {ns : List Node} {rs : List Arc} (hS : SortN ns) (hC : chk (arcF ns) none rs = 0) {a : ByteArray} (ha : 0 ≤ nodeI ns a) {l : List ByteArray} (hl : l.Pairwise ltS) (hm : ∀ s, s ∈ l ↔ ReachE (edgesB false rs) a s ∧ ReachE (edgesB false rs) s a) : l = rowI (Both rs a) ns := by
  refine sortS_uniq hl (rowI_sort hS) (fun x => ?_)
  rw [hm, rowI_mem]
  unfold Both
  rw [reach_back]
  exact ⟨fun h => ⟨reach_node hC ha h.1, h⟩, fun h => h.2⟩
theorem seen_any (es : List (List ByteArray)) (k : ByteArray) : (seenF es.flatten k).isSome = es.any (fun l => memS l k) := by
  cases h : es.any (fun l => memS l k) with
  | true =>
    obtain ⟨l, hl, hm⟩ := List.any_eq_true.1 h
    rw [seenF_in (List.mem_flatten.2 ⟨l, hl, memS_iff.1 hm⟩)]
    rfl
  | false =>
    have : k ∉ es.flatten := fun hk => by
      obtain ⟨l, hl, hm⟩ := List.mem_flatten.1 hk
      have := List.any_eq_false.1 h l hl
      exact this (memS_iff.2 hm)
    rw [seenF_out this]
    rfl
end Go.Proofs.YtepbamacebjopaaGreatDoor
/- The arcs that each way has: the reference's NeededOf; it answers as the program does. -/
namespace Go.Proofs.YtepbamacebjopaaGreatDoor
open Go.RowKit Go.Sort

theorem el_NR : ElemOf Tryz.prog 34 9 1 16 := ElemOf.mk' (z := .string ByteArray.empty) Tryz.underlying34 (by kernel_rfl) rfl
section
variable (ns : List Node) (rs : List Arc) (bs : List Ban) (i j : Nat)
def lateB (a : Arc) : Bool := decide (345686400000 ≤ arrG (gphOf ns (lessA rs (memS [a.key])) (lessB bs (memS [a.key]))) i j 0)
def needR (l : List Arc) : List ByteArray := (l.filter (lateB ns rs bs i j)).map (·.key)
end
section
variable {ns : List Node} {rs : List Arc} {bs : List Ban} {i j : Nat}
theorem needR_take {k : Nat} (hk : k < rs.length) : needR ns rs bs i j (rs.take (k + 1)) = needR ns rs bs i j (rs.take k) ++ (if lateB ns rs bs i j rs[k] = true then [rs[k].key] else []) := by
  unfold needR
  rw [List.take_succ_eq_append_getElem hk, List.filter_append, List.map_append]
  congr 1
  cases h : lateB ns rs bs i j rs[k] <;> simp [h]
theorem needR_len (k : Nat) : (needR ns rs bs i j (rs.take k)).length ≤ k := by
  unfold needR
  rw [List.length_map]
  exact Nat.le_trans (List.length_filter_le _ _) (by rw [List.length_take]; omega)
/-- What NeededOf tells is what Needed tells. -/
theorem need_same {L : List ByteArray} (hR : roadsF ns rs bs = 0) (hal : rs.length ≤ 400) (ha : i < ns.length) (hb : j < ns.length) (hs : L.Pairwise ltS)
    (h : (i = j ∧ L = []) ∨ (i ≠ j ∧ ∀ s, s ∈ L ↔ ∃ k, k < rs.length ∧ (arcX rs k).key = s ∧ ¬ connP ns rs bs i j k)) : needR ns rs bs i j rs = L := by
  have hC := (roads_ok hR).2.1
  have hSA := sortA_of hC
  have hnr : (needR ns rs bs i j rs).Pairwise ltS := by
    unfold needR
    rw [List.pairwise_map]
    exact List.Pairwise.filter _ hSA
  have hiff : ∀ k (hk : k < rs.length), lateB ns rs bs i j rs[k] = true ↔ ¬ (i = j ∨ connP ns rs bs i j k) := fun k hk => by
    have e : arcX rs k = rs[k] := arcX_get hk
    have h1 := less_conn (bs := bs) hC hal ha hb hk (g := memS [rs[k].key]) (fun s => by
      unfold memS
      rw [List.any_cons, List.any_nil, Bool.or_false, decide_eq_decide, e]
      exact ⟨Eq.symm, Eq.symm⟩)
    unfold lateB
    rw [decide_eq_true_iff, ← h1]
    unfold endT
    omega
  refine sortS_uniq hnr hs (fun s => ?_)
  have hmem : s ∈ needR ns rs bs i j rs ↔ ∃ k, ∃ hk : k < rs.length, rs[k].key = s ∧ ¬ (i = j ∨ connP ns rs bs i j k) := by
    unfold needR
    rw [List.mem_map]
    constructor
    · rintro ⟨a, ha, e⟩
      obtain ⟨h1, h2⟩ := List.mem_filter.1 ha
      obtain ⟨k, hk, e2⟩ := List.mem_iff_getElem.1 h1
      subst e2
      exact ⟨k, hk, e, (hiff k hk).1 h2⟩
    · rintro ⟨k, hk, e, hn⟩
      exact ⟨rs[k], List.mem_filter.2 ⟨List.getElem_mem hk, (hiff k hk).2 hn⟩, e⟩
  rw [hmem]
  rcases h with ⟨e, rfl⟩ | ⟨hne, hL⟩
  · constructor
    · rintro ⟨k, hk, _, hn⟩
      exact absurd (.inl e) hn
    · intro h; exact absurd h (by simp)
  · rw [hL]
    constructor
    · rintro ⟨k, hk, e, hn⟩
      exact ⟨k, hk, by rw [arcX_get hk]; exact e, fun h => hn (.inr h)⟩
    · rintro ⟨k, hk, e, hn⟩
      exact ⟨k, hk, by rw [← arcX_get hk]; exact e, fun h => h.elim hne hn⟩
end
set_option maxRecDepth 100000 in
set_option maxHeartbeats 8000000 in
theorem w_NeededOf (lo : Nat) (A B C : Option Addr) (nn ca cb cc : Nat) (ns : List Node) (rs : List Arc) (bs : List Ban) (f t : ByteArray) (w : World) (hA : RdArcs w lo B rs) (hB : Rd w lo C 2 encBan bs) (hal : rs.length ≤ 400) (hbl : bs.length ≤ 400) (hC : chk (arcF ns) none rs = 0) (hf : 0 ≤ nodeI ns f) (ht : 0 ≤ nodeI ns t) :
    Calls Tryz.prog 23 #[.agg #[.slice A nn ca, .slice B rs.length cb, .slice C bs.length cc], .string f, .string t] w fun e w' =>
      (arrG (gphOf ns rs bs) (nodeN ns f) (nodeN ns t) 0 < 345686400000 ∧ ∃ (Z : Option Addr) (c : Nat), e = .returned (.tuple #[.slice Z (needR ns rs bs (nodeN ns f) (nodeN ns t) rs).length c, .bool true]) ∧ Rd w' 0 Z 1 encS (needR ns rs bs (nodeN ns f) (nodeN ns t) rs) ∧ Nx w w') ∨
      (345686400000 ≤ arrG (gphOf ns rs bs) (nodeN ns f) (nodeN ns t) 0 ∧ e = .returned (.tuple #[.slice none 0 0, .bool false]) ∧ Nx w w') := by
  obtain ⟨wb, hwb⟩ : ∃ wb, wb = w.alloc (.cells #[.slice A nn ca, .slice B rs.length cb, .slice C bs.length cc] 30) := ⟨_, rfl⟩
  have hnb : Nx w wb := hwb ▸ (Nx.refl w).alloc _
  have hsz : wb.heap.size = w.heap.size + 1 := by rw [hwb]; simp
  have b0 : wb.cell? ⟨w.heap.size, 0, none⟩ = some (.slice A nn ca) := by rw [hwb]; go_simp
  have b1 : wb.cell? ⟨w.heap.size, 1, none⟩ = some (.slice B rs.length cb) := by rw [hwb]; go_simp
  have b2 : wb.cell? ⟨w.heap.size, 2, none⟩ = some (.slice C bs.length cc) := by rw [hwb]; go_simp
  have HBX := hide (fun W (hx : Nx wb W) => (⟨nx_cell hx (by omega) b0, nx_cell hx (by omega) b1, nx_cell hx (by omega) b2⟩ : W.cell? ⟨w.heap.size, 0, none⟩ = some (.slice A nn ca) ∧ W.cell? ⟨w.heap.size, 1, none⟩ = some (.slice B rs.length cb) ∧ W.cell? ⟨w.heap.size, 2, none⟩ = some (.slice C bs.length cc)))
  obtain ⟨i, hi⟩ : ∃ i, i = nodeN ns f := ⟨_, rfl⟩
  obtain ⟨j, hj⟩ : ∃ j, j = nodeN ns t := ⟨_, rfl⟩
  rw [← hi, ← hj]
  have HAV := hide (show Calls Tryz.prog 65 #[.agg #[.slice A nn ca, .slice B rs.length cb, .slice C bs.length cc], .string f, .string t, .int .i64 0] wb fun e w' => e = .returned (.int .i64 (arrG (gphOf ns rs bs) i j 0)) ∧ Nx wb w' from hi ▸ hj ▸ w_ArriveAt lo A B C nn ca cb cc ns rs bs f t 0 wb ⟨hA.nx hnb, hal, hB.nx hnb, hbl, hC⟩ hf ht ⟨by omega, by omega⟩)
  have HRA := hide (fun W (hx : Nx wb W) => hA.nx (hnb.trans hx))
  have HWO := hide (fun (k : ByteArray) (D : Option Addr) (cd : Nat) W (hx : Nx wb W) (hD : Rd W 0 D 1 encS [k]) => w_WithoutOf lo A B C nn ca cb cc rs bs 0 D cd [k] W (hA.1.nx (hnb.trans hx)) (hB.nx (hnb.trans hx)) hal hbl hD (by simp))
  have HAW := hide (fun (g : ByteArray → Bool) (A1 B1 : Option Addr) (c1 c2 : Nat) W W' (hx : Nx wb W) (hx2 : Nx W W') (h1 : Rd W' 0 A1 5 encArc (lessA rs g)) (h2 : Rd W' 0 B1 2 encBan (lessB bs g)) => (show Calls Tryz.prog 65 #[.agg #[.slice A nn ca, .slice A1 (lessA rs g).length c1, .slice B1 (lessB bs g).length c2], .string f, .string t, .int .i64 0] W' fun e w' => e = .returned (.int .i64 (arrG (gphOf ns (lessA rs g) (lessB bs g)) i j 0)) ∧ Nx W' w' from
    hi ▸ hj ▸ w_ArriveAt 0 A A1 B1 nn ca c1 c2 ns (lessA rs g) (lessB bs g) f t 0 W' ⟨⟨h1, fun a ha => by
      have h := (hA.nx ((hnb.trans hx).trans hx2)).2 a (lessA_mem.1 ha).1
      exact ⟨h.1.low (Nat.zero_le _), h.2⟩⟩, Nat.le_trans lessA_len hal, h2, Nat.le_trans lessB_len hbl, less_chkA hC⟩ hf ht ⟨by omega, by omega⟩))
  have HTK := hide (fun k (hk : k < rs.length) => needR_take (ns := ns) (bs := bs) (i := i) (j := j) hk)
  have HLB := hide (fun (a : Arc) => (show lateB ns rs bs i j a = decide (345686400000 ≤ arrG (gphOf ns (lessA rs (memS [a.key])) (lessB bs (memS [a.key]))) i j 0) from rfl))
  have HNL := hide (fun k => needR_len (ns := ns) (rs := rs) (bs := bs) (i := i) (j := j) k)
  have HWB := hide hwb
  have HNB := hide hnb
  have HSZ := hide hsz
  clear hnb hwb hsz b0 b1 b2 hA hB hC hf ht hi hj
  obtain ⟨m, hm⟩ : ∃ m, m = rs.length := ⟨_, rfl⟩
  rw [← hm] at HBX HAV HWO HWB hal
  rw [← hm]
  have HM := hide hm
  clear hm
  generalize bs.length = nb at *
  by_cases hz : arrG (gphOf ns rs bs) i j 0 < 345686400000
  · have tz : decide (arrG (gphOf ns rs bs) i j 0 ≥ 345686400000) = false := decide_eq_false (by omega)
    have HZ := hide hz
    generalize hzz : arrG (gphOf ns rs bs) i j 0 = z0 at *
    clear hz hzz
    go_enter Tryz.func23, Tryz.ntmps23
    go_upto_region 1 with fail
    rw [← HWB.out]
    obtain ⟨c0, c1, c2⟩ := HBX.out wb (Nx.refl _)
    go_wp2_with fail
    refine HAV.out.mono ?_
    rintro e w1 ⟨rfl, hn1⟩
    clear c0 c1 c2
    obtain ⟨c0, c1, c2⟩ := HBX.out w1 hn1
    go_wp2_with fail
    clear c0 c1 c2 tz
    go_loopw [8, 19] (fun v u wr => ∃ k : Nat, k ≤ m ∧ u = .int .i64 k ∧ Nx wb wr ∧ wr.ownsRow wb.heap.size 9 1 v (needR ns rs bs i j (rs.take k)).length ((needR ns rs bs i j (rs.take k)).flatMap encS)) (fun _ u _ => m - (intOf u).toNat)
    case atStart => exact ⟨0, Nat.zero_le _, rfl, hn1, World.ownsRow_nil _ _ _ _⟩
    case round =>
      clear hn1
      obtain ⟨k, hk, rfl, hbw, hown⟩ := hrel
      have HO := hide hown
      have HBW := hide hbw
      clear hown
      by_cases hlt : k < m
      · have hlt' : k < rs.length := by have := HM.out; omega
        obtain ⟨ab, aoff, eA, _, _, hab, hac⟩ := (HRA.out wr hbw).1.open_ (Nx.refl _) (by have := HM.out; omega)
        have k0 : wr.cell? ⟨ab, aoff + k * 5, none⟩ = some (.string rs[k].key) := hac k hlt' 0 _ rfl
        have k1 : wr.cell? ⟨ab, aoff + k * 5 + 1, none⟩ = some (.string rs[k].from_) := hac k hlt' 1 _ rfl
        have k2 : wr.cell? ⟨ab, aoff + k * 5 + 2, none⟩ = some (.string rs[k].to_) := hac k hlt' 2 _ rfl
        have k3 : wr.cell? ⟨ab, aoff + k * 5 + 3, none⟩ = some (.int .i64 rs[k].long) := hac k hlt' 3 _ rfl
        have k4 : wr.cell? ⟨ab, aoff + k * 5 + 4, none⟩ = some (.slice rs[k].ka rs[k].knots.length rs[k].kc) := hac k hlt' 4 _ rfl
        have HTK2 := hide (HTK.out k hlt')
        have HLB2 := hide (HLB.out rs[k])
        have HNL2 := hide (HNL.out k)
        clear hac hab hbw
        subst eA
        generalize rs[k] = x at *
        obtain ⟨P, hP⟩ : ∃ P, P = wr.heap.size := ⟨_, rfl⟩
        obtain ⟨w3, hw3⟩ : ∃ w3, w3 = wr.alloc (.cells #[.string x.key, .string x.from_, .string x.to_, .int .i64 x.long, .slice x.ka x.knots.length x.kc] 37) := ⟨_, rfl⟩
        have hn3 : Nx wr w3 := hw3 ▸ (Nx.refl wr).alloc _
        have hPb : w3.heap[P]? = some (.cells #[.string x.key, .string x.from_, .string x.to_, .int .i64 x.long, .slice x.ka x.knots.length x.kc] 37 (0, 0)) := by rw [hw3]; exact hnew hP
        have HPX := hide (fun W (hx : Nx w3 W) => (show W.cell? ⟨P, 0, none⟩ = some (.string x.key) from (cell_of_row W _ 0 _ _ _ ((hx.block P (lt_of_heap2 hPb)).trans hPb)).trans rfl))
        have HW3 := hide hw3
        have HN3 := hide hn3
        have HPN := hide hP
        have p0 := HPX.out w3 (Nx.refl _)
        have i1 : (0 : Int) ≤ (k : Int) := by omega
        have i2 : (k : Int) < (m : Int) := by omega
        obtain ⟨c0, c1, c2⟩ := HBX.out w3 (HBW.out.trans hn3)
        clear hPb hw3 hn3 hP
        go_upto_region 7 with fail
        rw [← HW3.out, ← HPN.out]
        clear k0 k1 k2 k3 k4 HW3
        obtain ⟨w4, hw4⟩ : ∃ w4, w4 = w3.alloc (.cells #[.string x.key] 9) := ⟨_, rfl⟩
        have hn4 : Nx w3 w4 := hw4 ▸ (Nx.refl w3).alloc _
        have hR4 : Rd w4 0 (some ⟨w3.heap.size, 0, none⟩) 1 encS [x.key] := Rd.lit (by rw [hw4]; exact hnew rfl) (Nat.zero_le _) (fun _ => rfl) rfl
        have HW := hide (HWO.out x.key _ 1 w4 ((HBW.out.trans HN3.out).trans hn4) hR4)
        have HN4 := hide ((HBW.out.trans HN3.out).trans hn4)
        have HX4 := hide hn4
        have HW4 := hide hw4
        clear hn4 hw4 hR4
        go_wp2_with fail
        rw [← HW4.out]
        refine HW.out.mono ?_
        rintro e w5 ⟨vA, vB, rfl, hoA, hoB, hn5⟩
        obtain ⟨A1, c1', rfl, hRA, _⟩ := Rd.of_own encArc_len rfl hoA
        obtain ⟨B1, c2', rfl, hRB, _⟩ := Rd.of_own encBan_len rfl hoB
        have HA5 := hide (HAW.out (memS [x.key]) A1 B1 c1' c2' w4 w5 HN4.out hn5 (hRA.low (Nat.zero_le _)) (hRB.low (Nat.zero_le _)))
        have HN5 := hide (HX4.out.trans hn5)
        clear c0 c1 c2 p0 hoA hoB hRA hRB hn5
        generalize (lessA rs (memS [x.key])).length = l1 at *
        generalize (lessB bs (memS [x.key])).length = l2 at *
        generalize arrG (gphOf ns (lessA rs (memS [x.key])) (lessB bs (memS [x.key]))) i j 0 = z at *
        go_wp2_with fail
        refine HA5.out.mono ?_
        rintro e w6 ⟨rfl, hn6⟩
        have hx36 := HN5.out.trans hn6
        have HN6 := hide ((HBW.out.trans HN3.out).trans hx36)
        have p6 := HPX.out w6 hx36
        have HO6 := hide (own_nx HO.out (HN3.out.trans hx36))
        clear hn6 hx36
        by_cases hzl : 345686400000 ≤ z
        · have tz : decide (z ≥ 345686400000) = true := decide_eq_true hzl
          have HTK3 := hide (HTK2.out.trans (by rw [HLB2.out, decide_eq_true hzl, if_pos rfl] : _ = needR ns rs bs i j (rs.take k) ++ [x.key]))
          have hsz6 : wb.heap.size ≤ w6.heap.size := HN6.out.sz
          clear hzl
          obtain ⟨L, hL⟩ : ∃ L, L = needR ns rs bs i j (rs.take k) := ⟨_, rfl⟩
          rw [← hL] at HO6 HTK3 HNL2
          clear hL
          go_wp2_with (at_builtin; go_must (refine wpApp2 rfl _ _ _ rfl el_NR encS encS_len encS_one (by omega) (by omega) wb.heap.size _ L rfl (HO6.out.alloc _) _ x.key _ rfl (hnew rfl) rfl (by have := HNL2.out; omega) (by simp; omega) ?_); intro v9 w9 hown9 hg9 _; (have HO9 := hide hown9); (have HG9 := hide hg9); clear hown9 hg9)
          go_roundw
          case rel => exact ⟨k + 1, by omega, by go_num, (HN6.out.alloc _).grown HG9.out (fun y hy => own_blk_lt HO6.out y hy), by rw [HTK3.out]; exact HO9.out⟩
          case measure => simp [intOf]; omega
        · have tz : decide (z ≥ 345686400000) = false := decide_eq_false hzl
          have HTK3 := hide (HTK2.out.trans (by rw [HLB2.out, decide_eq_false hzl, if_neg (by simp), List.append_nil] : _ = needR ns rs bs i j (rs.take k)))
          clear hzl
          go_wp2_with fail
          go_roundw
          case rel => exact ⟨k + 1, by omega, by go_num, HN6.out, by rw [HTK3.out]; exact HO6.out⟩
          case measure => simp [intOf]; omega
      · obtain rfl : m = k := by omega
        have hown := HO.out
        rw [HM.out, List.take_length] at hown
        obtain ⟨Z, cz, rfl, hRd, _⟩ := Rd.of_own encS_len rfl hown
        have HRd := hide hRd
        obtain ⟨nL, hnL⟩ : ∃ nL, nL = (needR ns rs bs i j rs).length := ⟨_, rfl⟩
        clear hRd hown HO
        have HNN := hide hnL
        rw [← hnL]
        clear hnL
        go_wp2_with fail
        go_ret2
        exact .inl ⟨HZ.out, Z, cz, by rw [← HNN.out]; rfl, HRd.out.low (Nat.zero_le _), HNB.out.trans HBW.out⟩
  · have tz : decide (arrG (gphOf ns rs bs) i j 0 ≥ 345686400000) = true := decide_eq_true (by omega)
    have HZ := hide (show 345686400000 ≤ arrG (gphOf ns rs bs) i j 0 by omega)
    generalize hzz : arrG (gphOf ns rs bs) i j 0 = z0 at *
    clear hz hzz
    go_enter Tryz.func23, Tryz.ntmps23
    go_upto_region 1 with fail
    rw [← HWB.out]
    obtain ⟨c0, c1, c2⟩ := HBX.out wb (Nx.refl _)
    go_wp2_with fail
    refine HAV.out.mono ?_
    rintro e w1 ⟨rfl, hn1⟩
    go_wp2_with fail
    go_ret2
    exact .inr ⟨HZ.out, rfl, HNB.out.trans hn1⟩
end Go.Proofs.YtepbamacebjopaaGreatDoor
/- slices.Equal of two rows of strings that are the same. -/
namespace Go.Proofs.YtepbamacebjopaaGreatDoor
open Go.RowKit

set_option maxRecDepth 100000 in
set_option maxHeartbeats 1000000 in
theorem w_EqualSS (lo lo' : Nat) (A B : Option Addr) (c d : Nat) (l : List ByteArray) (w : World) (hA : Rd w lo A 1 encS l) (hB : Rd w lo' B 1 encS l) (hl : l.length ≤ 65536) :
    Calls Tryz.prog 20 #[.slice A l.length c, .slice B l.length d] w fun e w' => e = .returned (.bool true) ∧ Nx w w' := by
  generalize hn : l.length = n at *
  have HA := hide hA
  have HB := hide hB
  have HN := hide hn
  clear hA hB hn
  go_enter Tryz.func20, Tryz.ntmps20
  go_wp2
  go_loopw [5, 13] (fun _ i wr => ∃ k : Nat, k ≤ n ∧ i = .int .i64 k ∧ Nx w wr) (fun _ i _ => n - (intOf i).toNat)
  case atStart => exact ⟨0, Nat.zero_le _, rfl, Nx.refl _⟩
  case round =>
    obtain ⟨k, hk, rfl, hbw⟩ := hrel
    by_cases hlt : k < n
    · have hlt' : k < l.length := by have := HN.out; omega
      obtain ⟨b, off, rfl, _, hb, hbr, hc⟩ := HA.out.open_ hbw (by omega)
      obtain ⟨b', off', rfl, _, hb', hbr', hc'⟩ := HB.out.open_ hbw (by omega)
      have c0 : wr.cell? ⟨b, off + k, none⟩ = some (.string l[k]) := by have := hc k hlt' 0 _ rfl; simpa using this
      have d0 : wr.cell? ⟨b', off' + k, none⟩ = some (.string l[k]) := by have := hc' k hlt' 0 _ rfl; simpa using this
      clear hc hc'
      generalize l[k] = s at *
      have te : (s.toList == s.toList) = true := by rw [eqS_iff]; exact decide_eq_true rfl
      have q1 : (0 : Int) ≤ (k : Int) := by omega
      have q2 : (k : Int) < (n : Int) := by omega
      go_wp2_with fail
      go_quiet (fail)
      go_wp2
      go_roundw
      case rel => exact ⟨k + 1, by omega, by go_num, hbw.drewN _⟩
      case measure => simp [intOf]; omega
    · go_wp2
      go_ret
      exact ⟨rfl, hbw⟩
end Go.Proofs.YtepbamacebjopaaGreatDoor
/- Roads that are the same: the reference's SameRoads, slices.Equal and slices.EqualFunc beneath it. -/
namespace Go.Proofs.YtepbamacebjopaaGreatDoor
open Go.RowKit Go.Sort

theorem sin_NodeR2 (d : Nat) (x0 : ByteArray) (x1 : Int) (x2 : Int) (w : World) : (Op.equalIn (d + 2) 74 (.agg #[.string x0, .int .i64 x1, .int .i64 x2]) (.agg #[.string x0, .int .i64 x1, .int .i64 x2])).run Tryz.prog w = .ok true w := by
  have hus := Tryz.underlying9
  have has := Tryz.isAgg9
  have hzs := Tryz.sizeOf9
  have hui := Tryz.underlying3
  have hai := Tryz.isAgg3
  have hzi := Tryz.sizeOf3
  have hS : Tryz.prog.underlying 74 = some (.struct (Tryz.prog.fieldsOf 74)) := by kernel_rfl
  have hp : Tryz.prog.stoodInHeld 74 = false := by kernel_rfl
  rw [run_equalIn_agg w (d + 1) 74 _ _ hS hp]
  simp only [Program.fieldsOf, Tryz.underlying74]
  go_simp
  try simp
theorem neq_NodeR2 (x0 : ByteArray) (x1 : Int) (x2 : Int) (w : World) : (binOp .neq 74 (.agg #[.string x0, .int .i64 x1, .int .i64 x2]) (.agg #[.string x0, .int .i64 x1, .int .i64 x2])).run Tryz.prog w = .ok (.bool false) w := by
  rw [run_neq_struct, show (10000 : Nat) = 9998 + 2 from rfl, sin_NodeR2]; rfl
section
attribute [local go_sem ↓] neq_NodeR2
set_option maxRecDepth 100000 in
set_option maxHeartbeats 1000000 in
theorem w_EqualNodeR (lo lo' : Nat) (A B : Option Addr) (c d : Nat) (l : List Node) (w : World) (hA : Rd w lo A 3 encNode l) (hB : Rd w lo' B 3 encNode l) (hl : l.length ≤ 65536) :
    Calls Tryz.prog 52 #[.slice A l.length c, .slice B l.length d] w fun e w' => e = .returned (.bool true) ∧ Nx w w' := by
  generalize hn : l.length = n at *
  have HA := hide hA
  have HB := hide hB
  have HN := hide hn
  clear hA hB hn
  go_enter Tryz.func52, Tryz.ntmps52
  go_wp2
  go_loopw [5, 13] (fun _ i wr => ∃ k : Nat, k ≤ n ∧ i = .int .i64 k ∧ Nx w wr) (fun _ i _ => n - (intOf i).toNat)
  case atStart => exact ⟨0, Nat.zero_le _, rfl, Nx.refl _⟩
  case round =>
    obtain ⟨k, hk, rfl, hbw⟩ := hrel
    by_cases hlt : k < n
    · have hlt' : k < l.length := by have := HN.out; omega
      obtain ⟨b, off, rfl, _, hb, hbr, hc⟩ := HA.out.open_ hbw (by omega)
      obtain ⟨b', off', rfl, _, hb', hbr', hc'⟩ := HB.out.open_ hbw (by omega)
      have c0 : wr.cell? ⟨b, off + k * 3, none⟩ = some (.string l[k].key) := hc k hlt' 0 _ rfl
      have d0 : wr.cell? ⟨b', off' + k * 3, none⟩ = some (.string l[k].key) := hc' k hlt' 0 _ rfl
      have c1 : wr.cell? ⟨b, off + k * 3 + 1, none⟩ = some (.int .i64 l[k].x) := hc k hlt' 1 _ rfl
      have d1 : wr.cell? ⟨b', off' + k * 3 + 1, none⟩ = some (.int .i64 l[k].x) := hc' k hlt' 1 _ rfl
      have c2 : wr.cell? ⟨b, off + k * 3 + 2, none⟩ = some (.int .i64 l[k].y) := hc k hlt' 2 _ rfl
      have d2 : wr.cell? ⟨b', off' + k * 3 + 2, none⟩ = some (.int .i64 l[k].y) := hc' k hlt' 2 _ rfl
      clear hc hc'
      generalize l[k].key = f0 at *
      generalize l[k].x = f1 at *
      generalize l[k].y = f2 at *
      have q1 : (0 : Int) ≤ (k : Int) := by omega
      have q2 : (k : Int) < (n : Int) := by omega
      go_wp2_with fail
      go_quiet (fail)
      go_wp2
      go_roundw
      case rel => exact ⟨k + 1, by omega, by go_num, hbw.drewN _⟩
      case measure => simp [intOf]; omega
    · go_wp2
      go_ret
      exact ⟨rfl, hbw⟩
end
theorem sin_BanR2 (d : Nat) (x0 : ByteArray) (x1 : ByteArray) (w : World) : (Op.equalIn (d + 2) 80 (.agg #[.string x0, .string x1]) (.agg #[.string x0, .string x1])).run Tryz.prog w = .ok true w := by
  have hus := Tryz.underlying9
  have has := Tryz.isAgg9
  have hzs := Tryz.sizeOf9
  have hS : Tryz.prog.underlying 80 = some (.struct (Tryz.prog.fieldsOf 80)) := by kernel_rfl
  have hp : Tryz.prog.stoodInHeld 80 = false := by kernel_rfl
  rw [run_equalIn_agg w (d + 1) 80 _ _ hS hp]
  simp only [Program.fieldsOf, Tryz.underlying80]
  go_simp
  try simp
theorem neq_BanR2 (x0 : ByteArray) (x1 : ByteArray) (w : World) : (binOp .neq 80 (.agg #[.string x0, .string x1]) (.agg #[.string x0, .string x1])).run Tryz.prog w = .ok (.bool false) w := by
  rw [run_neq_struct, show (10000 : Nat) = 9998 + 2 from rfl, sin_BanR2]; rfl
section
attribute [local go_sem ↓] neq_BanR2
set_option maxRecDepth 100000 in
set_option maxHeartbeats 1000000 in
theorem w_EqualBanR (lo lo' : Nat) (A B : Option Addr) (c d : Nat) (l : List Ban) (w : World) (hA : Rd w lo A 2 encBan l) (hB : Rd w lo' B 2 encBan l) (hl : l.length ≤ 65536) :
    Calls Tryz.prog 53 #[.slice A l.length c, .slice B l.length d] w fun e w' => e = .returned (.bool true) ∧ Nx w w' := by
  generalize hn : l.length = n at *
  have HA := hide hA
  have HB := hide hB
  have HN := hide hn
  clear hA hB hn
  go_enter Tryz.func53, Tryz.ntmps53
  go_wp2
  go_loopw [5, 13] (fun _ i wr => ∃ k : Nat, k ≤ n ∧ i = .int .i64 k ∧ Nx w wr) (fun _ i _ => n - (intOf i).toNat)
  case atStart => exact ⟨0, Nat.zero_le _, rfl, Nx.refl _⟩
  case round =>
    obtain ⟨k, hk, rfl, hbw⟩ := hrel
    by_cases hlt : k < n
    · have hlt' : k < l.length := by have := HN.out; omega
      obtain ⟨b, off, rfl, _, hb, hbr, hc⟩ := HA.out.open_ hbw (by omega)
      obtain ⟨b', off', rfl, _, hb', hbr', hc'⟩ := HB.out.open_ hbw (by omega)
      have c0 : wr.cell? ⟨b, off + k * 2, none⟩ = some (.string l[k].from_) := hc k hlt' 0 _ rfl
      have d0 : wr.cell? ⟨b', off' + k * 2, none⟩ = some (.string l[k].from_) := hc' k hlt' 0 _ rfl
      have c1 : wr.cell? ⟨b, off + k * 2 + 1, none⟩ = some (.string l[k].to_) := hc k hlt' 1 _ rfl
      have d1 : wr.cell? ⟨b', off' + k * 2 + 1, none⟩ = some (.string l[k].to_) := hc' k hlt' 1 _ rfl
      clear hc hc'
      generalize l[k].from_ = f0 at *
      generalize l[k].to_ = f1 at *
      have q1 : (0 : Int) ≤ (k : Int) := by omega
      have q2 : (k : Int) < (n : Int) := by omega
      go_wp2_with fail
      go_quiet (fail)
      go_wp2
      go_roundw
      case rel => exact ⟨k + 1, by omega, by go_num, hbw.drewN _⟩
      case measure => simp [intOf]; omega
    · go_wp2
      go_ret
      exact ⟨rfl, hbw⟩
end
theorem sin_KnotR2 (d : Nat) (x0 : Int) (x1 : Int) (w : World) : (Op.equalIn (d + 2) 78 (.agg #[.int .i64 x0, .int .i64 x1]) (.agg #[.int .i64 x0, .int .i64 x1])).run Tryz.prog w = .ok true w := by
  have hui := Tryz.underlying3
  have hai := Tryz.isAgg3
  have hzi := Tryz.sizeOf3
  have hS : Tryz.prog.underlying 78 = some (.struct (Tryz.prog.fieldsOf 78)) := by kernel_rfl
  have hp : Tryz.prog.stoodInHeld 78 = false := by kernel_rfl
  rw [run_equalIn_agg w (d + 1) 78 _ _ hS hp]
  simp only [Program.fieldsOf, Tryz.underlying78]
  go_simp
  try simp
theorem neq_KnotR2 (x0 : Int) (x1 : Int) (w : World) : (binOp .neq 78 (.agg #[.int .i64 x0, .int .i64 x1]) (.agg #[.int .i64 x0, .int .i64 x1])).run Tryz.prog w = .ok (.bool false) w := by
  rw [run_neq_struct, show (10000 : Nat) = 9998 + 2 from rfl, sin_KnotR2]; rfl
section
attribute [local go_sem ↓] neq_KnotR2
set_option maxRecDepth 100000 in
set_option maxHeartbeats 1000000 in
theorem w_EqualKnotR (lo lo' : Nat) (A B : Option Addr) (c d : Nat) (l : List Knot) (w : World) (hA : Rd w lo A 2 encKnot l) (hB : Rd w lo' B 2 encKnot l) (hl : l.length ≤ 65536) :
    Calls Tryz.prog 56 #[.slice A l.length c, .slice B l.length d] w fun e w' => e = .returned (.bool true) ∧ Nx w w' := by
  generalize hn : l.length = n at *
  have HA := hide hA
  have HB := hide hB
  have HN := hide hn
  clear hA hB hn
  go_enter Tryz.func56, Tryz.ntmps56
  go_wp2
  go_loopw [5, 13] (fun _ i wr => ∃ k : Nat, k ≤ n ∧ i = .int .i64 k ∧ Nx w wr) (fun _ i _ => n - (intOf i).toNat)
  case atStart => exact ⟨0, Nat.zero_le _, rfl, Nx.refl _⟩
  case round =>
    obtain ⟨k, hk, rfl, hbw⟩ := hrel
    by_cases hlt : k < n
    · have hlt' : k < l.length := by have := HN.out; omega
      obtain ⟨b, off, rfl, _, hb, hbr, hc⟩ := HA.out.open_ hbw (by omega)
      obtain ⟨b', off', rfl, _, hb', hbr', hc'⟩ := HB.out.open_ hbw (by omega)
      have c0 : wr.cell? ⟨b, off + k * 2, none⟩ = some (.int .i64 l[k].at_) := hc k hlt' 0 _ rfl
      have d0 : wr.cell? ⟨b', off' + k * 2, none⟩ = some (.int .i64 l[k].at_) := hc' k hlt' 0 _ rfl
      have c1 : wr.cell? ⟨b, off + k * 2 + 1, none⟩ = some (.int .i64 l[k].time) := hc k hlt' 1 _ rfl
      have d1 : wr.cell? ⟨b', off' + k * 2 + 1, none⟩ = some (.int .i64 l[k].time) := hc' k hlt' 1 _ rfl
      clear hc hc'
      generalize l[k].at_ = f0 at *
      generalize l[k].time = f1 at *
      have q1 : (0 : Int) ≤ (k : Int) := by omega
      have q2 : (k : Int) < (n : Int) := by omega
      go_wp2_with fail
      go_quiet (fail)
      go_wp2
      go_roundw
      case rel => exact ⟨k + 1, by omega, by go_num, hbw.drewN _⟩
      case measure => simp [intOf]; omega
    · go_wp2
      go_ret
      exact ⟨rfl, hbw⟩
end
end Go.Proofs.YtepbamacebjopaaGreatDoor
/- Roads that are the same: the reference's SameRoads; rows of rows that are the same. -/
namespace Go.Proofs.YtepbamacebjopaaGreatDoor
open Go.RowKit Go.Sort

theorem core_eq {x y : Arc} (h : coreA x = coreA y) : x.key = y.key ∧ x.from_ = y.from_ ∧ x.to_ = y.to_ ∧ x.long = y.long ∧ x.knots = y.knots := by
  unfold coreA at h
  obtain ⟨k1, f1, t1, l1, a1, c1, n1⟩ := x
  obtain ⟨k2, f2, t2, l2, a2, c2, n2⟩ := y
  simp only [Arc.mk.injEq] at h
  exact ⟨h.1, h.2.1, h.2.2.1, h.2.2.2.1, h.2.2.2.2.2.2⟩
set_option maxRecDepth 100000 in
set_option maxHeartbeats 2000000 in
theorem w_same1 (x y : Arc) (w : World) (h : coreA x = coreA y) (hx : Rd w 0 x.ka 2 encKnot x.knots) (hy : Rd w 0 y.ka 2 encKnot y.knots) (hl : x.knots.length ≤ 65536) :
    Calls Tryz.prog 55 #[.agg #[.string x.key, .string x.from_, .string x.to_, .int .i64 x.long, .slice x.ka x.knots.length x.kc], .agg #[.string y.key, .string y.from_, .string y.to_, .int .i64 y.long, .slice y.ka y.knots.length y.kc]] w fun e w' => e = .returned (.bool true) ∧ Nx w w' := by
  obtain ⟨e1, e2, e3, e4, e5⟩ := core_eq h
  rw [← e5] at hy
  rw [← e1, ← e2, ← e3, ← e4, ← e5]
  have HE := hide (fun W (hn : Nx w W) => w_EqualKnotR 0 0 x.ka y.ka x.kc y.kc x.knots W (hx.nx hn) (hy.nx hn) hl)
  clear h e1 e2 e3 e4 e5 hx hy
  have t1 : (x.key.toList == x.key.toList) = true := by rw [eqS_iff]; exact decide_eq_true rfl
  have t2 : (x.from_.toList == x.from_.toList) = true := by rw [eqS_iff]; exact decide_eq_true rfl
  have t3 : (x.to_.toList == x.to_.toList) = true := by rw [eqS_iff]; exact decide_eq_true rfl
  generalize x.knots.length = n at *
  generalize x.key = k at *
  generalize x.from_ = f at *
  generalize x.to_ = t at *
  generalize x.long = lg at *
  go_enter Tryz.func55, Tryz.ntmps55
  go_wp2_with (go_at_call 56; refine (HE.out _ (((Nx.refl _).alloc _).alloc _)).mono ?_; rintro e w2 ⟨rfl, hn2⟩)
  go_ret
  exact ⟨rfl, (((Nx.refl _).alloc _).alloc _).trans hn2⟩
theorem eg_same1 : Enters 55 := enters_of Tryz.func55 (by kernel_rfl) rfl
set_option maxRecDepth 100000 in
set_option maxHeartbeats 2000000 in
theorem w_EqualFA (g : Nat) (eg : Enters g) (hg : ∀ (x y : Arc) (w : World), coreA x = coreA y → Rd w 0 x.ka 2 encKnot x.knots → Rd w 0 y.ka 2 encKnot y.knots → x.knots.length ≤ 65536 → Calls Tryz.prog g #[.agg #[.string x.key, .string x.from_, .string x.to_, .int .i64 x.long, .slice x.ka x.knots.length x.kc], .agg #[.string y.key, .string y.from_, .string y.to_, .int .i64 y.long, .slice y.ka y.knots.length y.kc]] w fun e w' => e = .returned (.bool true) ∧ Nx w w')
    (lo lo' : Nat) (A B : Option Addr) (c d : Nat) (l m : List Arc) (w : World) (hA : RdArcs w lo A l) (hB : RdArcs w lo' B m) (hl : l.length ≤ 65536) (hc : l.map coreA = m.map coreA) :
    Calls Tryz.prog 54 #[.slice A l.length c, .slice B m.length d, .func (.func g) #[] #[]] w fun e w' => e = .returned (.bool true) ∧ Nx w w' := by
  have hlm : m.length = l.length := by have := congrArg List.length hc; simpa using this.symm
  have HC := hide (fun k (hk : k < l.length) (hk' : k < m.length) => (show coreA l[k] = coreA m[k] from by
    have h1 : (l.map coreA)[k]? = (m.map coreA)[k]? := by rw [hc]
    rw [List.getElem?_map, List.getElem?_map, List.getElem?_eq_getElem hk, List.getElem?_eq_getElem hk'] at h1
    simpa using h1))
  rw [hlm]
  unfold Enters at eg
  obtain ⟨n, hn⟩ : ∃ n, n = l.length := ⟨_, rfl⟩
  rw [← hn] at hl hlm
  rw [← hn]
  have HA := hide hA
  have HB := hide hB
  have HN := hide hn
  have HM := hide hlm
  clear hA hB hn hc hlm
  go_enter Tryz.func54, Tryz.ntmps54
  go_wp2
  go_loopw [17] (fun i wr => ∃ k : Nat, k ≤ n ∧ i = .int .i64 k ∧ Nx w wr) (fun i _ => n - (intOf i).toNat)
  case atStart => exact ⟨0, Nat.zero_le _, rfl, Nx.refl _⟩
  case round =>
    obtain ⟨k, hk, rfl, hbw⟩ := hrel
    by_cases hlt : k < n
    · have hl1 : k < l.length := by have := HN.out; omega
      have hl2 : k < m.length := by have := HM.out; omega
      obtain ⟨b, off, rfl, _, hb, hbr, hc⟩ := (HA.out.nx hbw).1.open_ (Nx.refl _) (by omega)
      obtain ⟨b', off', rfl, _, hb', hbr', hc'⟩ := (HB.out.nx hbw).1.open_ (Nx.refl _) (by omega)
      have c0 : wr.cell? ⟨b, off + k * 5, none⟩ = some (.string l[k].key) := hc k hl1 0 _ rfl
      have c1 : wr.cell? ⟨b, off + k * 5 + 1, none⟩ = some (.string l[k].from_) := hc k hl1 1 _ rfl
      have c2 : wr.cell? ⟨b, off + k * 5 + 2, none⟩ = some (.string l[k].to_) := hc k hl1 2 _ rfl
      have c3 : wr.cell? ⟨b, off + k * 5 + 3, none⟩ = some (.int .i64 l[k].long) := hc k hl1 3 _ rfl
      have c4 : wr.cell? ⟨b, off + k * 5 + 4, none⟩ = some (.slice l[k].ka l[k].knots.length l[k].kc) := hc k hl1 4 _ rfl
      have d0 : wr.cell? ⟨b', off' + k * 5, none⟩ = some (.string m[k].key) := hc' k hl2 0 _ rfl
      have d1 : wr.cell? ⟨b', off' + k * 5 + 1, none⟩ = some (.string m[k].from_) := hc' k hl2 1 _ rfl
      have d2 : wr.cell? ⟨b', off' + k * 5 + 2, none⟩ = some (.string m[k].to_) := hc' k hl2 2 _ rfl
      have d3 : wr.cell? ⟨b', off' + k * 5 + 3, none⟩ = some (.int .i64 m[k].long) := hc' k hl2 3 _ rfl
      have d4 : wr.cell? ⟨b', off' + k * 5 + 4, none⟩ = some (.slice m[k].ka m[k].knots.length m[k].kc) := hc' k hl2 4 _ rfl
      have ra := (HA.out.nx hbw).2 l[k] (List.getElem_mem hl1)
      have rb := (HB.out.nx hbw).2 m[k] (List.getElem_mem hl2)
      have hco := HC.out k hl1 hl2
      have HS := hide (fun W (hx : Nx wr W) => hg l[k] m[k] W hco ((ra.1.low (Nat.zero_le _)).nx hx) ((rb.1.low (Nat.zero_le _)).nx hx) (by omega))
      clear hc hc' ra rb hco hg
      generalize l[k] = x at *
      generalize m[k] = y at *
      have e0 : ∀ o1, (wr.alloc o1).cell? ⟨b', off' + k * 5, none⟩ = some (.string y.key) := fun o1 => nx_cell ((Nx.refl _).alloc o1) hbr' d0
      have e1 : ∀ o1, (wr.alloc o1).cell? ⟨b', off' + k * 5 + 1, none⟩ = some (.string y.from_) := fun o1 => nx_cell ((Nx.refl _).alloc o1) hbr' d1
      have e2 : ∀ o1, (wr.alloc o1).cell? ⟨b', off' + k * 5 + 2, none⟩ = some (.string y.to_) := fun o1 => nx_cell ((Nx.refl _).alloc o1) hbr' d2
      have e3 : ∀ o1, (wr.alloc o1).cell? ⟨b', off' + k * 5 + 3, none⟩ = some (.int .i64 y.long) := fun o1 => nx_cell ((Nx.refl _).alloc o1) hbr' d3
      have e4 : ∀ o1, (wr.alloc o1).cell? ⟨b', off' + k * 5 + 4, none⟩ = some (.slice y.ka y.knots.length y.kc) := fun o1 => nx_cell ((Nx.refl _).alloc o1) hbr' d4
      have q1 : (0 : Int) ≤ (k : Int) := by omega
      have q2 : (k : Int) < (n : Int) := by omega
      go_wp2_with (go_at_fn g; refine (HS.out _ (((Nx.refl _).alloc _).alloc _)).mono ?_; rintro e w2 ⟨rfl, hn2⟩)
      go_roundw
      case rel => exact ⟨k + 1, by omega, by go_num, hbw.trans ((((Nx.refl _).alloc _).alloc _).trans hn2)⟩
      case measure => simp [intOf]; omega
    · go_wp2
      go_ret
      exact ⟨rfl, hbw⟩
set_option maxRecDepth 100000 in
set_option maxHeartbeats 2000000 in
theorem w_SameRoads (lo lo' : Nat) (A B C A' B' C' : Option Addr) (ca cb cc ca' cb' cc' : Nat) (ns : List Node) (rs rs' : List Arc) (bs : List Ban) (w : World) (hN : Rd w lo A 3 encNode ns) (hA : RdArcs w lo B rs) (hB : Rd w lo C 2 encBan bs) (hN' : Rd w lo' A' 3 encNode ns) (hA' : RdArcs w lo' B' rs') (hB' : Rd w lo' C' 2 encBan bs)
    (hnl : ns.length ≤ 65536) (hal : rs.length ≤ 65536) (hbl : bs.length ≤ 65536) (hc : rs.map coreA = rs'.map coreA) :
    Calls Tryz.prog 14 #[.agg #[.slice A ns.length ca, .slice B rs.length cb, .slice C bs.length cc], .agg #[.slice A' ns.length ca', .slice B' rs'.length cb', .slice C' bs.length cc']] w fun e w' => e = .returned (.bool true) ∧ Nx w w' := by
  have E1 := hide (fun W (hx : Nx w W) => w_EqualNodeR lo lo' A A' ca ca' ns W (hN.nx hx) (hN'.nx hx) hnl)
  have E2 := hide (fun W (hx : Nx w W) => w_EqualBanR lo lo' C C' cc cc' bs W (hB.nx hx) (hB'.nx hx) hbl)
  have E3 := hide (fun W (hx : Nx w W) => w_EqualFA 55 eg_same1 w_same1 lo lo' B B' cb cb' rs rs' W (hA.nx hx) (hA'.nx hx) hal hc)
  clear hN hA hB hN' hA' hB' hnl hal hbl hc
  generalize ns.length = n1 at *
  generalize bs.length = n2 at *
  generalize rs.length = n3 at *
  generalize rs'.length = n4 at *
  obtain ⟨wa, hwa⟩ : ∃ wa, wa = (w.alloc (.cells #[.slice A n1 ca, .slice B n3 cb, .slice C n2 cc] 30)).alloc (.cells #[.slice A' n1 ca', .slice B' n4 cb', .slice C' n2 cc'] 30) := ⟨_, rfl⟩
  have hna : Nx w wa := hwa ▸ ((Nx.refl w).alloc _).alloc _
  have hsz : wa.heap.size = w.heap.size + 2 := by rw [hwa]; simp
  have b0 : wa.cell? ⟨w.heap.size, 0, none⟩ = some (.slice A n1 ca) := by rw [hwa]; go_simp
  have b1 : wa.cell? ⟨w.heap.size, 1, none⟩ = some (.slice B n3 cb) := by rw [hwa]; go_simp
  have b2 : wa.cell? ⟨w.heap.size, 2, none⟩ = some (.slice C n2 cc) := by rw [hwa]; go_simp
  have c0 : wa.cell? ⟨w.heap.size + 1, 0, none⟩ = some (.slice A' n1 ca') := by rw [hwa]; go_simp
  have c1 : wa.cell? ⟨w.heap.size + 1, 1, none⟩ = some (.slice B' n4 cb') := by rw [hwa]; go_simp
  have c2 : wa.cell? ⟨w.heap.size + 1, 2, none⟩ = some (.slice C' n2 cc') := by rw [hwa]; go_simp
  have HBX := hide (fun W (hx : Nx wa W) => (⟨nx_cell hx (by omega) b0, nx_cell hx (by omega) b1, nx_cell hx (by omega) b2, nx_cell hx (by omega) c0, nx_cell hx (by omega) c1, nx_cell hx (by omega) c2⟩ : W.cell? ⟨w.heap.size, 0, none⟩ = some (.slice A n1 ca) ∧ W.cell? ⟨w.heap.size, 1, none⟩ = some (.slice B n3 cb) ∧ W.cell? ⟨w.heap.size, 2, none⟩ = some (.slice C n2 cc) ∧ W.cell? ⟨w.heap.size + 1, 0, none⟩ = some (.slice A' n1 ca') ∧ W.cell? ⟨w.heap.size + 1, 1, none⟩ = some (.slice B' n4 cb') ∧ W.cell? ⟨w.heap.size + 1, 2, none⟩ = some (.slice C' n2 cc')))
  have HWA := hide hwa
  have HNA := hide hna
  clear hwa hna hsz
  go_enter Tryz.func14, Tryz.ntmps14
  go_upto_region 1 with fail
  rw [← HWA.out]
  go_wp2_with (first
    | (go_at_call 52; refine (E1.out _ HNA.out).mono ?_; rintro e w2 ⟨rfl, hn2⟩; (obtain ⟨g0, g1, g2, g3, g4, g5⟩ := HBX.out w2 hn2))
    | (go_at_call 53; refine (E2.out _ (HNA.out.trans hn2)).mono ?_; rintro e w3 ⟨rfl, hn3⟩; (obtain ⟨g6, g7, g8, g9, g10, g11⟩ := HBX.out w3 (hn2.trans hn3)))
    | (go_at_call 54; refine (E3.out _ ((HNA.out.trans hn2).trans hn3)).mono ?_; rintro e w4 ⟨rfl, hn4⟩))
  go_ret
  exact ⟨rfl, ((HNA.out.trans hn2).trans hn3).trans hn4⟩
theorem eg_eqS : Enters 20 := enters_of Tryz.func20 (by kernel_rfl) rfl
/-- Rows of rows that tell the same. -/
def RdRows (w : World) (lo : Nat) (A : Option Addr) (es : List RowS) : Prop := Rd w lo A 1 encRS es ∧ ∀ r ∈ es, Rd w lo r.a 1 encS r.l
theorem RdRows.nx {w w' : World} {lo : Nat} {A : Option Addr} {es : List RowS} (h : RdRows w lo A es) (hn : Nx w w') : RdRows w' lo A es := ⟨h.1.nx hn, fun r hr => (h.2 r hr).nx hn⟩
set_option maxRecDepth 100000 in
set_option maxHeartbeats 2000000 in
theorem w_EqualFR (g : Nat) (eg : Enters g) (hg : ∀ (lo lo' : Nat) (A B : Option Addr) (c d : Nat) (l : List ByteArray) (w : World), Rd w lo A 1 encS l → Rd w lo' B 1 encS l → l.length ≤ 65536 → Calls Tryz.prog g #[.slice A l.length c, .slice B l.length d] w fun e w' => e = .returned (.bool true) ∧ Nx w w')
    (lo lo' : Nat) (A B : Option Addr) (c d : Nat) (l m : List RowS) (w : World) (hA : RdRows w lo A l) (hB : RdRows w lo' B m) (hl : l.length ≤ 65536) (hr : ∀ r ∈ l, r.l.length ≤ 65536) (hc : l.map (·.l) = m.map (·.l)) :
    Calls Tryz.prog 18 #[.slice A l.length c, .slice B m.length d, .func (.func g) #[] #[]] w fun e w' => e = .returned (.bool true) ∧ Nx w w' := by
  have hlm : m.length = l.length := by have := congrArg List.length hc; simpa using this.symm
  have HC := hide (fun k (hk : k < l.length) (hk' : k < m.length) => (show l[k].l = m[k].l from by
    have h1 : (l.map (·.l))[k]? = (m.map (·.l))[k]? := by rw [hc]
    rw [List.getElem?_map, List.getElem?_map, List.getElem?_eq_getElem hk, List.getElem?_eq_getElem hk'] at h1
    simpa using h1))
  rw [hlm]
  unfold Enters at eg
  have HR := hide (fun k (hk : k < l.length) => hr l[k] (List.getElem_mem hk))
  obtain ⟨n, hn⟩ : ∃ n, n = l.length := ⟨_, rfl⟩
  rw [← hn] at hl hlm
  rw [← hn]
  have HA := hide hA
  have HB := hide hB
  have HN := hide hn
  have HM := hide hlm
  clear hA hB hn hc hlm hr
  go_enter Tryz.func18, Tryz.ntmps18
  go_wp2
  go_loopw [17] (fun i wr => ∃ k : Nat, k ≤ n ∧ i = .int .i64 k ∧ Nx w wr) (fun i _ => n - (intOf i).toNat)
  case atStart => exact ⟨0, Nat.zero_le _, rfl, Nx.refl _⟩
  case round =>
    obtain ⟨k, hk, rfl, hbw⟩ := hrel
    by_cases hlt : k < n
    · have hl1 : k < l.length := by have := HN.out; omega
      have hl2 : k < m.length := by have := HM.out; omega
      obtain ⟨b, off, rfl, _, hb, hbr, hc⟩ := (HA.out.nx hbw).1.open_ (Nx.refl _) (by omega)
      obtain ⟨b', off', rfl, _, hb', hbr', hc'⟩ := (HB.out.nx hbw).1.open_ (Nx.refl _) (by omega)
      have c0 : wr.cell? ⟨b, off + k, none⟩ = some (.slice l[k].a l[k].l.length l[k].c) := by simpa using hc k hl1 0 _ rfl
      have d0 : wr.cell? ⟨b', off' + k, none⟩ = some (.slice m[k].a m[k].l.length m[k].c) := by simpa using hc' k hl2 0 _ rfl
      have ra := (HA.out.nx hbw).2 l[k] (List.getElem_mem hl1)
      have rb := (HB.out.nx hbw).2 m[k] (List.getElem_mem hl2)
      have hco := HC.out k hl1 hl2
      rw [← hco] at rb d0
      have HS := hide (hg lo lo' l[k].a m[k].a l[k].c m[k].c l[k].l wr ra rb (HR.out k hl1))
      clear hc hc' ra rb hco hg
      generalize l[k].l.length = nx at *
      generalize l[k].a = xa at *
      generalize l[k].c = xc at *
      generalize m[k].a = ya at *
      generalize m[k].c = yc at *
      have q1 : (0 : Int) ≤ (k : Int) := by omega
      have q2 : (k : Int) < (n : Int) := by omega
      go_wp2_with (go_at_fn g; refine HS.out.mono ?_; rintro e w2 ⟨rfl, hn2⟩)
      go_roundw
      case rel => exact ⟨k + 1, by omega, by go_num, hbw.trans hn2⟩
      case measure => simp [intOf]; omega
    · go_wp2
      go_ret
      exact ⟨rfl, hbw⟩
end Go.Proofs.YtepbamacebjopaaGreatDoor
