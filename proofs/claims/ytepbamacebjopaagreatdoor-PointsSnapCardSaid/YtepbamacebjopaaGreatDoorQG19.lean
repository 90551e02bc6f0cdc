/- Some way between two nodes, without an arc: the program's plainWay. -/
import Derived.Test.YtepbamacebjopaaGreatDoorQG18
import Derived.Deep.Onto
import Derived.Test.YtepbamacebjopaaGreatDoorQG17
import Derived.Test.YtepbamacebjopaaGreatDoorQG2
import Derived.Test.YtepbamacebjopaaGreatDoorQShelfN
import Derived.Sort.OwnSortedInts
import Derived.Sort.EveryDepth
import Derived.Lib.SlicesCompact
import Derived.Test.YtepbamacebjopaaGreatDoorQG7
import Derived.Test.YtepbamacebjopaaGreatDoorQG5
import Derived.Test.YtepbamacebjopaaGreatDoorQG15
import Derived.Test.YtepbamacebjopaaGreatDoorQG12
namespace Go.Proofs.YtepbamacebjopaaGreatDoor
open Go.RowKit Go.Maps

section
variable {g : Gph} {a b : Nat} {wo p : Int} {v : List Nat} {pos : Nat} {f : Nat → Option Int}
theorem Bef.more {x : List Nat} {k : Nat} (h : Bef g a v k p) : Bef g a (v ++ x) k p := by
  rcases h with h | ⟨j, hj, e, h1, h2⟩
  · exact .inl h
  · have e2 : (v ++ x).getD j 0 = v.getD j 0 := by rw [List.getD_eq_getElem?_getD, List.getElem?_append_left hj, ← List.getD_eq_getElem?_getD]
    exact .inr ⟨j, by rw [List.length_append]; omega, by rw [e2]; exact e, by rw [e2]; exact h1, by rw [e2]; exact h2⟩
/-- What one call of the closure finds. -/
theorem stepQ_bfs (_q : List Nat) : ∀ (l : List Nat) (v : List Nat) (q : List Nat) (f : Nat → Option Int), Bfs g a wo v f → (∀ k ∈ l, k < g.m ∧ Bef g a v k p) →
    ∃ new, (stepQ wo p l (f, q)).2 = q ++ new ∧ Bfs g a wo (v ++ new) (stepQ wo p l (f, q)).1 ∧ ∀ k ∈ l, (k : Int) ≠ wo → k ∈ v ++ new
  | [], v, q, f, h, _ => ⟨[], by simp [stepQ], by simpa [stepQ] using h, fun k hk => absurd hk (by simp)⟩
  | k :: l, v, q, f, h, hl => by
    have hk := hl k (by simp)
    unfold stepQ
    by_cases hc : f k = none ∧ (k : Int) ≠ wo
    · rw [if_pos hc]
      obtain ⟨new, h1, h2, h3⟩ := stepQ_bfs q l (v ++ [k]) (q ++ [k]) _ (h.add hk.1 hc.2 hc.1 hk.2) (fun y hy => ⟨(hl y (List.mem_cons_of_mem _ hy)).1, (hl y (List.mem_cons_of_mem _ hy)).2.more⟩)
      refine ⟨k :: new, by rw [h1]; simp, by simpa using h2, fun y hy hne => ?_⟩
      rcases List.mem_cons.1 hy with rfl | hy
      · simp
      · have := h3 y hy hne
        simpa using this
    · rw [if_neg hc]
      obtain ⟨new, h1, h2, h3⟩ := stepQ_bfs q l v q f h (fun y hy => hl y (List.mem_cons_of_mem _ hy))
      refine ⟨new, h1, h2, fun y hy hne => ?_⟩
      rcases List.mem_cons.1 hy with rfl | hy
      · have : f y ≠ none := fun e => hc ⟨e, hne⟩
        exact List.mem_append_left _ ((h.dom y).2 this)
      · exact h3 y hy hne
/-- What holds while one looks for a way. -/
structure PlI (g : Gph) (a b : Nat) (wo : Int) (v : List Nat) (pos : Nat) (f : Nat → Option Int) : Prop where
  bfs : Bfs g a wo v f
  le : pos ≤ v.length
  start : ∀ k, k < g.m → g.from_ k = a → (k : Int) ≠ wo → k ∈ v
  seen : ∀ i, i < pos → g.to_ (v.getD i 0) ≠ b ∧ ∀ k, k < g.m → g.from_ k = g.to_ (v.getD i 0) → g.ban (v.getD i 0) k = false → (k : Int) ≠ wo → k ∈ v
theorem outs_mem (hg : GOk g) {n k : Nat} (hn : n < g.nn) : k ∈ g.outs n ↔ k < g.m ∧ g.from_ k = n :=
  ⟨fun h => ⟨hg.outs_lt n k h, (hg.outs_iff n k hn (hg.outs_lt n k h)).1 h⟩, fun h => (hg.outs_iff n k hn h.1).2 h.2⟩
theorem PlI.first (hg : GOk g) (ha : a < g.nn) : ∃ q', (stepQ wo (-1) (g.outs a) ((fun _ => none), [])).2 = q' ∧ PlI g a b wo q' 0 (stepQ wo (-1) (g.outs a) ((fun _ => none), [])).1 := by
  obtain ⟨new, h1, h2, h3⟩ := stepQ_bfs (g := g) (a := a) (wo := wo) (p := -1) [] (g.outs a) [] [] (fun _ => none) Bfs.nil (fun k hk => ⟨hg.outs_lt a k hk, .inl ⟨rfl, ((outs_mem hg ha).1 hk).2⟩⟩)
  rw [List.nil_append] at h1
  refine ⟨new, h1, h2, Nat.zero_le _, fun k hk hf hw => ?_, fun i hi => absurd hi (by omega)⟩
  have := h3 k ((outs_mem hg ha).2 ⟨hk, hf⟩) hw
  simpa using this
theorem PlI.next (hg : GOk g) (h : PlI g a b wo v pos f) (hp : pos < v.length) (hb : g.to_ (v.getD pos 0) ≠ b) : ∃ new, (stepQ wo (v.getD pos 0 : Nat) ((g.outs (g.to_ (v.getD pos 0))).filter fun j => !g.ban (v.getD pos 0) j) (f, v.drop pos)).2 = v.drop pos ++ new ∧ PlI g a b wo (v ++ new) (pos + 1) (stepQ wo (v.getD pos 0 : Nat) ((g.outs (g.to_ (v.getD pos 0))).filter fun j => !g.ban (v.getD pos 0) j) (f, v.drop pos)).1 := by
  have hx := h.bfs.lt _ (getD_mem hp)
  have hto := hg.to_lt _ hx.1
  have hmem : ∀ k, k ∈ (g.outs (g.to_ (v.getD pos 0))).filter (fun j => !g.ban (v.getD pos 0) j) ↔ (k < g.m ∧ g.from_ k = g.to_ (v.getD pos 0)) ∧ g.ban (v.getD pos 0) k = false := fun k => by
    rw [List.mem_filter, outs_mem hg hto]
    simp
  obtain ⟨new, h1, h2, h3⟩ := stepQ_bfs (g := g) (a := a) (wo := wo) (p := ((v.getD pos 0 : Nat) : Int)) [] ((g.outs (g.to_ (v.getD pos 0))).filter fun j => !g.ban (v.getD pos 0) j) v (v.drop pos) f h.bfs (fun k hk => by
    have := (hmem k).1 hk
    exact ⟨this.1.1, .inr ⟨pos, hp, rfl, this.1.2, this.2⟩⟩)
  refine ⟨new, h1, h2, by rw [List.length_append]; omega, fun k hk hf hw => List.mem_append_left _ (h.start k hk hf hw), fun i hi => ?_⟩
  have e : ∀ i, i < v.length → (v ++ new).getD i 0 = v.getD i 0 := fun i hi => by rw [List.getD_eq_getElem?_getD, List.getElem?_append_left hi, ← List.getD_eq_getElem?_getD]
  rcases Nat.lt_or_ge i pos with h4 | h4
  · rw [e i (by omega)]
    obtain ⟨k1, k2⟩ := h.seen i h4
    exact ⟨k1, fun k a1 a2 a3 a4 => List.mem_append_left _ (k2 k a1 a2 a3 a4)⟩
  · obtain rfl : i = pos := by omega
    rw [e i hp]
    exact ⟨hb, fun k a1 a2 a3 a4 => h3 k ((hmem k).2 ⟨⟨a1, a2⟩, a3⟩) a4⟩
end
theorem PlI.none {ns : List Node} {rs : List Arc} {bs : List Ban} {a b : Nat} {wo : Int} {v : List Nat} {f : Nat → Option Int} (h : PlI (gphOf ns rs bs) a b wo v v.length f) : ¬ connP ns rs bs a b wo := by
  have hc : Closed (gphOf ns rs bs) a wo v := ⟨h.start, fun i hi k a1 a2 a3 a4 => by
    obtain ⟨j, hj, rfl⟩ := mem_at hi
    exact (h.seen j hj).2 k a1 a2 a3 a4⟩
  refine hc.none fun k hk e => ?_
  obtain ⟨j, hj, rfl⟩ := mem_at hk
  exact (h.seen j hj).1 e
/-- What plainWay answers. -/
def PlainOut (ns : List Node) (rs : List Arc) (bs : List Ban) (a b : Nat) (wo : Int) (w : World) (e : Ending) (w' : World) : Prop := Nx w w' ∧ ((∃ (v : Value) (l : List Nat), e = .returned (.tuple #[v, .bool true]) ∧ w'.ownsRow w.heap.size 3 1 v l.length ((intsOf l).flatMap encI) ∧ WayIs ns rs bs a b wo l) ∨ (e = .returned (.tuple #[.slice none 0 0, .bool false]) ∧ ¬ connP ns rs bs a b wo))
section
variable {bm g0 lo : Nat} {A B C : Option Addr} {ca cb cc : Nat} {M : MapA} {ns : List Node} {rs : List Arc} {bs : List Ban}
set_option maxRecDepth 100000 in
set_option maxHeartbeats 8000000 in
theorem w_plainWay (w : World) (hM : MapR w bm g0 lo A B C ca cb cc M ns rs bs) (hC : chk (arcF ns) none rs = 0) (hal : rs.length ≤ 400) (a b : Nat) (ha : a < ns.length) (wo : Int) (_hwo : -1 ≤ wo ∧ wo ≤ 100000) :
    Calls Tryz.prog 39 #[.pointer (some ⟨bm, 0, none⟩), .int .i64 (a : Int), .int .i64 (b : Int), .int .i64 wo] w (PlainOut ns rs bs a b wo w) := by
  have hG := gph_ok (bs := bs) hC
  have hm : (gphOf ns rs bs).m = rs.length := rfl
  obtain ⟨wa, hwa⟩ : ∃ wa, wa = (((w.alloc (.cells #[.int .i64 wo] 3)).alloc (.map #[] 0)).alloc (.cells #[.map (some (w.heap.size + 1))] 132)).alloc (.cells #[.slice none 0 0] 22) := ⟨_, rfl⟩
  have hna : Nx w wa := hwa ▸ ((((Nx.refl w).alloc _).alloc _).alloc _).alloc _
  have hsz : wa.heap.size = w.heap.size + 4 := by rw [hwa]; simp
  have hmm := @run_makeMap Tryz.prog
  have kw : wa.cell? ⟨w.heap.size, 0, none⟩ = some (.int .i64 wo) := by rw [hwa]; go_simp
  have km : wa.cell? ⟨w.heap.size + 1 + 1, 0, none⟩ = some (.map (some (w.heap.size + 1))) := by rw [hwa]; go_simp
  have hpl : wa.heap[w.heap.size + 1 + 1 + 1]? = some (.cells #[.slice none 0 0] 22 (0, 0)) := by rw [hwa]; exact hnew (by simp)
  have hmap : MpQI wa (w.heap.size + 1) 0 (fun _ => none) := by
    refine MgI.fresh ?_
    rw [hwa]
    exact ((((Nx.refl _).alloc _).alloc _).block _ (by simp)).trans (hnew (by simp))
  have HM := hide hM
  have HG := hide hG
  have HC := hide hC
  have hlen : ∀ t, ((gphOf ns rs bs).outs t).length ≤ 400 := fun t => Nat.le_trans (hG.outs_len t) hal
  have HFI := hide (PlI.first (b := b) (wo := wo) hG (show a < (gphOf ns rs bs).nn from ha))
  have HOL := hide (fun k (hk : k ∈ (gphOf ns rs bs).outs a) => (show k < rs.length from hG.outs_lt a k hk))
  have HLEN := hide hlen
  have HWA := hide hwa
  clear hwa hlen hM hC hG
  obtain ⟨s, hs⟩ : ∃ s, s = w.heap.size := ⟨_, rfl⟩
  go_enter Tryz.func39, Tryz.ntmps39
  go_upto_region 4 with fail
  rw [← HWA.out]
  rw [← hs] at kw km hpl hmap hsz ⊢
  have HSS := hide hs
  clear hs HWA
  have HK0 := hide (⟨kw, km, hpl, hmap⟩ : wa.cell? ⟨s, 0, none⟩ = some (.int .i64 wo) ∧ wa.cell? ⟨s + 1 + 1, 0, none⟩ = some (.map (some (s + 1))) ∧ wa.heap[s + 1 + 1 + 1]? = some (.cells #[.slice none 0 0] 22 (0, 0)) ∧ MpQI wa (s + 1) 0 (fun _ => none))
  clear kw km hpl hmap
  go_wp2_with fail
  refine (w_MOut w wa HM.out hna a ha).mono ?_
  rintro e w1 ⟨Z, cz, rfl, hR1, hZb, hn1⟩
  have hn01 := hna.trans hn1
  have hz1 := hn1.sz
  have hpl1 : w1.heap[s + 1 + 1 + 1]? = some (.cells #[.slice none ([] : List Nat).length 0] 22 (0, 0)) := (hn1.block _ (by omega)).trans HK0.out.2.2.1
  have HST := hide (w_pstep (s + 4) (s + 1 + 1) s (s + 1 + 1 + 1) (s + 1) 0 0 wo (-1) (fun _ => none) [] none 0 Z cz ((gphOf ns rs bs).outs a) w1 (nx_cell hn1 (by omega) HK0.out.2.1) (nx_cell hn1 (by omega) HK0.out.1) hpl1 (HK0.out.2.2.2.nx hn1) QIs.nil hR1 (by have := HLEN.out a; omega) (by have := HLEN.out a; simp; omega) (fun k hk => by have := HOL.out k hk; omega) (by omega) (by omega) ⟨by omega, by omega, by simp [blkOf], by omega⟩ ⟨by omega, by omega, by simp [blkOf], by omega⟩ (fun hp k hk => by
    cases hZ : Z with
    | none => rw [hZ] at hk; cases hk
    | some x =>
      have h1 := hZb hp x hZ
      rw [hZ] at hk
      injection hk with hk
      have hk : x.block = k := hk
      have h2 := HSS.out
      exact ⟨by omega, by omega, by simp [blkOf]⟩) ⟨by simp [blkOf], by simp [blkOf], by omega⟩)
  have HK1 := hide (⟨nx_cell hn1 (by omega) HK0.out.1, nx_cell hn1 (by omega) HK0.out.2.1⟩ : w1.cell? ⟨s, 0, none⟩ = some (.int .i64 wo) ∧ w1.cell? ⟨s + 1 + 1, 0, none⟩ = some (.map (some (s + 1))))
  have HN01 := hide hn01
  have HZ1 := hide (show s + 4 ≤ w1.heap.size by omega)
  clear hpl1 hR1 hZb hn01 hn1 hz1 HK0 hna
  obtain ⟨q0, hq0, hI0⟩ := HFI.out
  generalize stepQ wo (-1) ((gphOf ns rs bs).outs a) ((fun _ => none), []) = S0 at *
  have HI0 := hide hI0
  have HQ0 := hide hq0
  clear hq0 hI0 HFI
  have HL0 := hide (HLEN.out a)
  generalize ((gphOf ns rs bs).outs a).length = n0 at *
  go_wp2_with fail
  refine HST.out.mono ?_
  rintro e w2 ⟨rfl, A2, c2, hpl2, hM2, hq2, hA2, hk2⟩
  have HP2 := hide hpl2
  have HM2 := hide hM2
  have HQ2 := hide hq2
  have HK2 := hide hk2
  clear hpl2 hM2 hq2 hA2 hk2
  go_wp2_with fail
  go_loopg [13] (rs.length + 1) (fun fu _ wr => ∃ (v q : List Nat) (pos : Nat) (f : Nat → Option Int) (A' : Option Addr) (c' N : Nat), q = v.drop pos ∧ PlI (gphOf ns rs bs) a b wo v pos f ∧ rs.length ≤ fu + pos ∧ N ≤ (pos + 1) * 400 ∧ Nx w wr ∧ (wr.cell? ⟨s, 0, none⟩ = some (.int .i64 wo) ∧ wr.cell? ⟨s + 1 + 1, 0, none⟩ = some (.map (some (s + 1)))) ∧ wr.heap[s + 1 + 1 + 1]? = some (.cells #[.slice A' q.length c'] 22 (0, 0)) ∧ MpQI wr (s + 1) N f ∧ QIs wr (s + 4) 3 A' c' (intsOf q) ∧ s + 4 ≤ wr.heap.size)
  case atStart =>
    refine ⟨S0.2, S0.2, 0, S0.1, A2, c2, 0 + n0, rfl, by rw [HQ0.out]; exact HI0.out, by omega, by have := HL0.out; omega, ?_, ⟨?_, ?_⟩, HP2.out, HM2.out, HQ2.out, Nat.le_trans HZ1.out HK2.out.sz⟩
    · have h1 := HSS.out
      exact HK2.out.nx_of HN01.out (by omega) (by omega) (fun k hk => by cases hk)
    · exact HK2.out.cell HK1.out.1 (by have := HZ1.out; show s < _; omega) (by show s ≠ _; omega) (by show s ≠ _; omega) (by simp [blkOf])
    · exact HK2.out.cell HK1.out.2 (by have := HZ1.out; show s + 1 + 1 < _; omega) (by show s + 1 + 1 ≠ _; omega) (by show s + 1 + 1 ≠ _; omega) (by simp [blkOf])
  case round =>
    clear HP2 HM2 HQ2 HK2 HK1 HN01 HZ1 HI0 HQ0 HL0 HST HOL
    obtain ⟨v, q, pos, f, A', c', N, hq, hI, hfu, hN, hnw, ⟨kw, km⟩, hpl, hM2, hqi, hz⟩ := hrel
    have hvl : v.length ≤ rs.length := hI.bfs.len
    have HNW := hide hnw
    have HPL := hide hpl
    have HM2 := hide hM2
    have HI := hide hI
    have HQI := hide hqi
    have HQ := hide hq
    have HKK := hide (⟨kw, km⟩ : wr.cell? ⟨s, 0, none⟩ = some (.int .i64 wo) ∧ wr.cell? ⟨s + 1 + 1, 0, none⟩ = some (.map (some (s + 1))))
    have x3 : wr.cell? ⟨s + 1 + 1 + 1, 0, none⟩ = some (.slice A' q.length c') := (cell_of_row wr _ 0 _ _ _ hpl).trans rfl
    have hle := hI.le
    clear hnw hpl hM2 hI hqi hq kw km
    by_cases hp : pos < v.length
    · have hqc : q = v.getD pos 0 :: v.drop (pos + 1) := by
        rw [HQ.out, List.drop_eq_getElem_cons hp, List.getD_eq_getElem?_getD, List.getElem?_eq_getElem hp]
        rfl
      have hxl : v.getD pos 0 < rs.length := (HI.out.bfs.lt _ (getD_mem hp)).1
      have hqi := HQI.out
      rw [hqc, show intsOf (v.getD pos 0 :: v.drop (pos + 1)) = ((v.getD pos 0 : Nat) : Int) :: intsOf (v.drop (pos + 1)) from rfl] at hqi
      obtain ⟨gq, oq, eA, hc0, hgl, _⟩ := hqi.head
      have hql : 0 < q.length := by rw [hqc]; simp
      have tq : decide ((q.length : Int) > 0) = true := decide_eq_true (by omega)
      have HQC := hide hqc
      have HTO := hide (fun W (hx : Nx w W) => w_MTo W (HM.out.nx hx) (v.getD pos 0) hxl)
      have hqlt : ∀ k, blkOf A' = some k → s + 4 ≤ k ∧ k < wr.heap.size := fun k hk => ⟨HQI.out.ge k hk, HQI.out.lt k hk⟩
      have HQLT := hide hqlt
      have HNEXT := hide (fun hb => HI.out.next (b := b) (pos := pos) HG.out hp hb)
      have HWAY := hide (fun hb : nodeN ns (arcX rs (v.getD pos 0)).to_ = b => HI.out.bfs.way hp hb)
      clear hqi hqc hqlt
      subst eA
      generalize hxx : v.getD pos 0 = x at *
      have HXX := hide hxx
      clear hxx
      have HNL := hide (show q.length ≤ 400 by
        rw [HQ.out, List.length_drop]; omega)
      generalize hnq : q.length = nq at *
      have HNQ := hide hnq
      clear hnq
      by_cases hto : nodeN ns (arcX rs x).to_ = b
      · have tb : ((nodeN ns (arcX rs x).to_ : Int) != (b : Int)) = false := by rw [hto]; simp
        obtain ⟨l, hch, hW⟩ := HWAY.out hto
        have HCH := hide hch
        have HWI := hide hW
        have HWL := hide (fun k (hk : k ∈ l) => hW.lt k hk)
        have HWN := hide hW.len
        generalize nodeN ns (arcX rs x).to_ = tx at *
        have HKX := hide (fun W (hx : Nx wr W) => (nx_cell hx (by omega) HKK.out.2 : W.cell? ⟨s + 1 + 1, 0, none⟩ = some (.map (some (s + 1)))))
        clear hch hW HNEXT HWAY
        go_wp2_with (go_at_call 84; go_must (refine (HTO.out wr HNW.out).mono ?_); rintro e w3 ⟨rfl, hn3⟩; (have HN3 := hide hn3); clear hn3)
        obtain ⟨wk, hwk⟩ : ∃ wk, wk = w3 := ⟨_, rfl⟩
        subst hwk
        have hnk := HNW.out.trans HN3.out
        have HNK := hide hnk
        clear hnk tb tq hc0 x3
        go_loopg [13, 14] (l.length + 1) (fun fu vk vw wy => ∃ (k : Int) (rest acc : List Nat), vk = .int .i64 k ∧ PChain f k rest ∧ l = acc ++ rest ∧ rest.length + 1 ≤ fu ∧ Nx wk wy ∧ wy.ownsRow wk.heap.size 3 1 vw acc.length ((intsOf acc).flatMap encI))
        case atStart => exact ⟨(x : Int), l, [], rfl, HCH.out, rfl, Nat.le_refl _, Nx.refl _, World.ownsRow_nil _ _ _ _⟩
        case round =>
          obtain ⟨k, rest, acc, rfl, hch, hlr, hfl, hny, hown⟩ := hrel
          have HNY := hide hny
          have HO := hide hown
          have HLR := hide hlr
          clear hny hown HCH
          cases hch with
          | nil =>
            have hla : l = acc := by rw [HLR.out, List.append_nil]
            have HLA := hide hla
            have tk : decide ((-1 : Int) ≥ 0) = false := by decide
            clear hla
            go_wp2_with fail
            go_ret2
            refine ⟨HNK.out.trans HNY.out, .inl ⟨_, l, rfl, ?_, HWI.out⟩⟩
            rw [HLA.out]
            exact World.ownsRow.mono HO.out HNK.out.sz
          | cons kk pp rest' hkk hch' =>
            have hkl : kk < rs.length := (HWL.out kk (by rw [HLR.out]; simp)).1
            have tk : decide ((kk : Int) ≥ 0) = true := decide_eq_true (by omega)
            have HCH2 := hide hch'
            have hdk : domK kk := domK_of (by omega)
            have HDK := hide hdk
            have HKY := hide (key_N hdk)
            have hal2 : acc.length ≤ 400 := by
              have h1 := HWN.out
              have h2 := congrArg List.length HLR.out
              rw [List.length_append] at h2
              omega
            have HI2 := hide (intsOf_len acc)
            have ho2 := HO.out
            rw [← HI2.out] at ho2
            have HO2 := hide ho2
            have HFK := hide hkk
            have HRL := hide (show rest'.length + 1 ≤ gk - 1 ∧ 0 < gk from by rw [List.length_cons] at hfl; omega)
            clear hch' hdk ho2 hkk hfl hkl
            go_wp2_with (first
              | (at_builtin; go_must (refine wpApp2 rfl _ _ _ rfl el_IntR encI encI_len encI_one (by omega) (by omega) wk.heap.size _ (intsOf acc) rfl (HO2.out.alloc _) _ (kk : Int) _ rfl (hnew rfl) rfl (by have := HI2.out; omega) (by have := HNY.out.sz; simp; omega) ?_); intro v9 w9 hown9 hg9 _; (have HO9 := hide hown9); (have hn9 := (HNY.out.alloc (.cells #[.int .i64 (kk : Int)] 3)).grown hg9 (fun y hy => own_blk_lt HO2.out y hy)); (have HN9 := hide hn9); (have y2 := HKX.out w9 (HN3.out.trans hn9)); clear hown9 hg9 hn9)
              | (at_lookup; go_must (refine wpMgLook _ rfl _ _ _ rfl intR law_intN Tryz.underlying132 (z := (0 : Int)) (by decide) (zeroIntR _) (s + 1) N f rfl (HM2.out.nx (HN3.out.trans HN9.out)) kk rfl HDK.out _ HKY.out ?_); (rw [HFK.out])))
            go_roundg (gk - 1)
            case measure => have := HRL.out; omega
            case rel =>
              refine ⟨pp, rest', acc ++ [kk], rfl, HCH2.out, by rw [HLR.out]; simp, by have := HRL.out; omega, HN9.out, ?_⟩
              have h9 := HO9.out
              rw [mapI_one, show (acc ++ [kk]).length = (intsOf acc ++ [(kk : Int)]).length by rw [List.length_append, List.length_append, HI2.out]; rfl]
              exact h9
      · have tb : ((nodeN ns (arcX rs x).to_ : Int) != (b : Int)) = true := by simpa using fun e => hto (by omega)
        obtain ⟨new, hnew1, hnew2⟩ := HNEXT.out hto
        have HNX := hide (fun W (hx : Nx w W) => w_MNext W (HM.out.nx hx) HC.out hal x hxl)
        have hLL : (((gphOf ns rs bs).outs ((gphOf ns rs bs).to_ x)).filter fun j => !(gphOf ns rs bs).ban x j).length ≤ 400 := Nat.le_trans (List.length_filter_le _ _) (HLEN.out _)
        have hLm : ∀ k ∈ ((gphOf ns rs bs).outs ((gphOf ns rs bs).to_ x)).filter (fun j => !(gphOf ns rs bs).ban x j), k < rs.length := fun k hk => HG.out.outs_lt _ k (List.mem_filter.1 hk).1
        have HLM := hide hLm
        generalize ((gphOf ns rs bs).outs ((gphOf ns rs bs).to_ x)).filter (fun j => !(gphOf ns rs bs).ban x j) = L at *
        generalize nodeN ns (arcX rs x).to_ = tx at *
        rw [← HQ.out] at hnew1 hnew2
        have HNEW1 := hide hnew1
        have HNEW2 := hide hnew2
        clear hnew1 hnew2 HNEXT HWAY hLm
        go_wp2_with (first
          | (go_at_call 84; go_must (refine (HTO.out wr HNW.out).mono ?_); rintro e w3 ⟨rfl, hn3⟩; (have HN3 := hide hn3); clear hn3)
          | (go_at_call 85; go_must (refine (HNX.out w3 (HNW.out.trans HN3.out)).mono ?_); rintro e w4 ⟨Z, cz, rfl, hZ, hn4⟩; (have HN4 := hide (HN3.out.trans hn4)); (have HZ := hide hZ); (have HZ4 := hide hn4.sz); clear hZ hn4))
        have hz3 := HN3.out.sz
        have hz4 := HZ4.out
        have hpl4 : w4.heap[s + 1 + 1 + 1]? = some (.cells #[.slice (some ⟨gq, oq, none⟩) q.length c'] 22 (0, 0)) := (HN4.out.block _ (by omega)).trans (by rw [HNQ.out]; exact HPL.out)
        have hq1 := HQLT.out gq rfl
        have HST := hide (w_pstep (s + 4) (s + 1 + 1) s (s + 1 + 1 + 1) (s + 1) N w3.heap.size wo (x : Int) f q (some ⟨gq, oq, none⟩) c' Z cz L w4 (nx_cell HN4.out (by omega) HKK.out.2) (nx_cell HN4.out (by omega) HKK.out.1) hpl4 (HM2.out.nx HN4.out) (HQI.out.nx HN4.out) HZ.out (by omega) (by have := HNL.out; have := HNQ.out; omega) (fun k hk => by have := HLM.out k hk; omega) (by omega) (by omega) ⟨by omega, by omega, by simp [blkOf]; omega, by omega⟩ ⟨by omega, by omega, by simp [blkOf]; omega, by omega⟩ (fun hp k hk => by
          obtain ⟨bz, oz, eZ, hbz, _⟩ := HZ.out (by rw [intsOf_len]; exact hp)
          rw [eZ] at hk
          injection hk with hk
          have hk : bz = k := hk
          exact ⟨by omega, by omega, by simp [blkOf]; omega⟩) ⟨by simp [blkOf]; omega, by simp [blkOf]; omega, by omega⟩)
        have HX4 := hide (⟨nx_cell HN4.out (by omega) HKK.out.1, nx_cell HN4.out (by omega) HKK.out.2⟩ : w4.cell? ⟨s, 0, none⟩ = some (.int .i64 wo) ∧ w4.cell? ⟨s + 1 + 1, 0, none⟩ = some (.map (some (s + 1))))
        have HNW4 := hide (HNW.out.trans HN4.out)
        have HSZ4 := hide (show s + 4 ≤ w4.heap.size ∧ gq < w4.heap.size by omega)
        have HLL := hide hLL
        clear hz3 hz4 hpl4 HZ4 hLL x3 hc0 tb tq
        generalize stepQ wo (x : Int) L (f, q) = S1 at *
        generalize hll : L.length = nl at *
        have hnl : nl ≤ 400 := HLL.out
        clear hll
        refine HST.out.mono ?_
        rintro e w5 ⟨rfl, A5, c5, hpl5, hM5, hq5, hA5, hk5⟩
        have hs2 : S1.2 = x :: (v.drop (pos + 1) ++ new) := by rw [HNEW1.out, HQC.out]; rfl
        have hq5b := hq5
        rw [hs2, show intsOf (x :: (v.drop (pos + 1) ++ new)) = (x : Int) :: intsOf (v.drop (pos + 1) ++ new) from rfl] at hq5b
        obtain ⟨g5, o5, e5, hc5, hg5, hcl5⟩ := hq5b.head
        subst e5
        have ht5 := hq5b.tail
        have hn2 : S1.2.length = (v.drop (pos + 1) ++ new).length + 1 := by rw [hs2]; rfl
        have HT5 := hide ht5
        have HM5 := hide hM5
        have HK5 := hide hk5
        have HPL5 := hide hpl5
        obtain ⟨nr5, hnr5⟩ : ∃ n, n = (v.drop (pos + 1) ++ new).length := ⟨_, rfl⟩
        rw [intsOf_len, ← hnr5] at hcl5
        rw [← hnr5] at hn2
        have HNR5 := hide hnr5
        have x5 : w5.cell? ⟨s + 1 + 1 + 1, 0, none⟩ = some (.slice (some ⟨g5, o5, none⟩) (nr5 + 1) c5) := hn2 ▸ (cell_of_row w5 _ 0 _ _ _ hpl5).trans rfl
        have f5 := frozen_blkR (j := 0) hpl5
        clear hq5 hq5b hc5 ht5 hM5 hk5 hpl5 hA5 hs2 hn2 hnr5
        go_wp2_with fail
        · go_roundg (gk - 1)
          case measure => omega
          case rel =>
            have hW := HSS.out
            have hs := Gr.setS (Gr.refl (s + 1 + 1 + 1) w5) (p := ⟨s + 1 + 1 + 1, 0, none⟩) (Or.inl rfl) (.slice (some ⟨g5, o5, none⟩) nr5 0)
            have hkx := HK5.out.nx_of HNW4.out (by omega) (by omega) (fun k hk => by injection hk with hk; have hk : gq = k := hk; have := (HQLT.out gq rfl).1; omega)
            have hkc : ∀ (i : Nat) (u : Value), w4.cell? ⟨i, 0, none⟩ = some u → (i = s ∨ i = s + 1 + 1) → (w5.setCell ⟨s + 1 + 1 + 1, 0, none⟩ (.slice (some ⟨g5, o5, none⟩) nr5 0)).cell? ⟨i, 0, none⟩ = some u := fun i u hu hi => by
              have h4 := HSZ4.out
              have h5 := (HQLT.out gq rfl).1
              exact World.grownBy.cell (row := some (s + 1 + 1 + 1)) hs (HK5.out.cell hu (by show i < _; omega) (by show i ≠ _; omega) (by show i ≠ _; omega) (by simp [blkOf]; show gq ≠ i; omega)) (by simp; omega)
            refine ⟨v ++ new, v.drop (pos + 1) ++ new, pos + 1, S1.1, some ⟨g5, o5, none⟩, 0, N + nl, (List.drop_append_of_le_length (by omega)).symm, HNEW2.out, by omega, by omega, Nx.setCell hkx (p := ⟨s + 1 + 1 + 1, 0, none⟩) (by show w.heap.size ≤ s + 1 + 1 + 1; omega) _, ⟨hkc _ _ HX4.out.1 (.inl rfl), hkc _ _ HX4.out.2 (.inr rfl)⟩, ?_, HM5.out.gr hs (by omega), (HT5.out.2 (by omega)).gr hs (by omega), ?_⟩
            · rw [← HNR5.out]
              exact heap_set HPL5.out
            · have := HK5.out.sz
              have := HSZ4.out
              have := hs.sz
              omega
        · go_roundg (gk - 1)
          case measure => omega
          case rel =>
            have hW := HSS.out
            have hs := Gr.setS (Gr.refl (s + 1 + 1 + 1) w5) (p := ⟨s + 1 + 1 + 1, 0, none⟩) (Or.inl rfl) (.slice (some ⟨g5, o5 + 1, none⟩) nr5 (c5 - 1))
            have hkx := HK5.out.nx_of HNW4.out (by omega) (by omega) (fun k hk => by injection hk with hk; have hk : gq = k := hk; have := (HQLT.out gq rfl).1; omega)
            have hkc : ∀ (i : Nat) (u : Value), w4.cell? ⟨i, 0, none⟩ = some u → (i = s ∨ i = s + 1 + 1) → (w5.setCell ⟨s + 1 + 1 + 1, 0, none⟩ (.slice (some ⟨g5, o5 + 1, none⟩) nr5 (c5 - 1))).cell? ⟨i, 0, none⟩ = some u := fun i u hu hi => by
              have h4 := HSZ4.out
              have h5 := (HQLT.out gq rfl).1
              exact World.grownBy.cell (row := some (s + 1 + 1 + 1)) hs (HK5.out.cell hu (by show i < _; omega) (by show i ≠ _; omega) (by show i ≠ _; omega) (by simp [blkOf]; show gq ≠ i; omega)) (by simp; omega)
            refine ⟨v ++ new, v.drop (pos + 1) ++ new, pos + 1, S1.1, some ⟨g5, o5 + 1, none⟩, (c5 - 1), N + nl, (List.drop_append_of_le_length (by omega)).symm, HNEW2.out, by omega, by omega, Nx.setCell hkx (p := ⟨s + 1 + 1 + 1, 0, none⟩) (by show w.heap.size ≤ s + 1 + 1 + 1; omega) _, ⟨hkc _ _ HX4.out.1 (.inl rfl), hkc _ _ HX4.out.2 (.inr rfl)⟩, ?_, HM5.out.gr hs (by omega), HT5.out.1.gr hs (by omega), ?_⟩
            · rw [← HNR5.out]
              exact heap_set HPL5.out
            · have := HK5.out.sz
              have := HSZ4.out
              have := hs.sz
              omega
    · have hq0 : q = [] := by rw [HQ.out]; exact List.drop_eq_nil_of_le (by omega)
      have hnone : ¬ connP ns rs bs a b wo := by
        have h := HI.out
        obtain rfl : pos = v.length := by omega
        exact h.none
      have HNO := hide hnone
      clear hnone hN
      subst hq0
      go_wp2_with fail
      go_ret2
      exact ⟨HNW.out, .inr ⟨rfl, HNO.out⟩⟩
end
end Go.Proofs.YtepbamacebjopaaGreatDoor
/- slices.Sort and slices.Compact of numbers, on a row of one's own. -/
namespace Go.Proofs.YtepbamacebjopaaGreatDoor
open Go.RowKit Go.Proofs Go.Shelf

theorem mem_compact (zs : List Int) (x : Int) : x ∈ Lib.compact zs ↔ x ∈ zs := by
  have hx : ∀ j, j < zs.length → zs.toArray[j]! = zs.getD j 0 := fun j hj => by
    rw [List.getD_eq_getElem?_getD, List.getElem?_eq_getElem hj]
    simp [hj]
  unfold Lib.compact Lib.compactUpTo
  constructor
  · intro h
    obtain ⟨j, hj, e⟩ := List.mem_map.1 h
    have hl := List.mem_range.1 (List.mem_filter.1 hj).1
    rw [← e, hx j hl, List.getD_eq_getElem?_getD, List.getElem?_eq_getElem hl]
    exact List.getElem_mem hl
  · intro h
    obtain ⟨j, hj, e⟩ := List.mem_iff_getElem.1 h
    suffices hh : ∀ j, j < zs.length → zs.toArray[j]! ∈ List.map (fun k => zs.toArray[k]!) (List.filter (Lib.keeps zs.toArray) (List.range zs.length)) by
      have := hh j hj
      rw [hx j hj, List.getD_eq_getElem?_getD, List.getElem?_eq_getElem hj] at this
      rw [← e]
      exact this
    intro j
    induction j with
    | zero =>
      intro hj
      exact List.mem_map.2 ⟨0, List.mem_filter.2 ⟨List.mem_range.2 hj, by simp [Lib.keeps]⟩, rfl⟩
    | succ j ih =>
      intro hj
      by_cases hk : zs.toArray[j + 1]! ≠ zs.toArray[j]!
      · exact List.mem_map.2 ⟨j + 1, List.mem_filter.2 ⟨List.mem_range.2 hj, Lib.keeps_pos (by simpa using hk)⟩, rfl⟩
      · have e : zs.toArray[j + 1]! = zs.toArray[j]! := Classical.not_not.1 hk
        rw [e]
        exact ih (by omega)
theorem mem_sortI (l : List Int) (x : Int) : x ∈ (l.mergeSort fun a b => decide (a ≤ b)) ↔ x ∈ l := List.mem_mergeSort
/-- A block whose first numbers are these. -/
def IntsAt (w : World) (g cap : Nat) (l : List Int) : Prop := ∃ cur, w.heap[g]? = some (.cells cur 3 (0, 0)) ∧ cur.size = cap ∧ l.length ≤ cap ∧ cur.toList.take l.length = l.map (Value.int .i64)
theorem w_SortI (g cap : Nat) (l : List Int) (w : World) (h : IntsAt w g cap l) (hl : l.length ≤ 100000) :
    Calls Tryz.prog 40 #[.slice (some ⟨g, 0, none⟩) l.length cap] w fun e w' => e = .returned (.tuple #[]) ∧ IntsAt w' g cap (l.mergeSort fun a b => decide (a ≤ b)) ∧ Gr g w w' := by
  obtain ⟨cur, hb, h3, h1, ht⟩ := h
  have hcon := AnyG.slices_Sort_int Tryz.sortInts g 0 cap l w (holds_of_blockI hb ht) (Array.getElem?_eq_some_iff.1 hb).1 (by omega)
  change Calls Tryz.prog 40 _ _ _ at hcon
  refine hcon.mono ?_
  rintro e w' ⟨rfl, n, os, rfl⟩
  have hle : (l.mergeSort fun a b => decide (a ≤ b)).length = l.length := List.length_mergeSort l
  refine ⟨rfl, ⟨_, heap_sortedI _ hb, by simp [Sort.putCells, h3], by rw [hle]; exact h1, take_putCellsI cur _ (by rw [hle]; omega)⟩, grownBy_sortedI _⟩
theorem w_CompI (g cap : Nat) (l : List Int) (w : World) (h : IntsAt w g cap l) (hl : l.length ≤ 100000) :
    Calls Tryz.prog 41 #[.slice (some ⟨g, 0, none⟩) l.length cap] w fun e w' => e = .returned (.slice (some ⟨g, 0, none⟩) (Lib.compact l).length cap) ∧ IntsAt w' g cap (Lib.compact l) ∧ Gr g w w' := by
  obtain ⟨cur, hb, h3, h1, ht⟩ := h
  have hcon := calls_of_every_depth fun D => AnySG.slices_Compact_int_in Tryz.compactInts D g 0 cap l w (holds_of_blockI hb ht) (by omega) h1
  change Calls Tryz.prog 41 _ _ _ at hcon
  refine hcon.mono ?_
  rintro e w' ⟨rfl, n, rfl⟩
  have hcl : (Lib.compact l).length ≤ l.length := by
    unfold Lib.compact Lib.compactUpTo
    rw [List.length_map]
    exact Nat.le_trans (List.length_filter_le _ _) (by rw [List.length_range]; exact Nat.le_refl _)
  obtain ⟨C, hC⟩ : ∃ C, C = Lib.compact l := ⟨_, rfl⟩
  rw [← hC] at hcl ⊢
  obtain ⟨D, hD⟩ : ∃ D, D = C ++ List.replicate (l.length - C.length) (0 : Int) := ⟨_, rfl⟩
  have hDl : D.length = l.length := by rw [hD, List.length_append, List.length_replicate]; omega
  rw [← hD]
  have hh : (Sort.putRow (Value.int .i64) (Sort.ahead w n) g 0 D.toArray).heap[g]? = some (.cells (Sort.putCells (Value.int .i64) 0 D.toArray cur) 3 (0, 0)) := by
    simp [Sort.putRow, Sort.mapBlock, Sort.ahead, Array.getElem?_modify, hb, Sort.onCells]
  refine ⟨rfl, ⟨_, hh, by simp [Sort.putCells, h3], by omega, ?_⟩, ⟨rfl, rfl, rfl, by simp [Sort.putRow, Sort.mapBlock, Sort.ahead], fun k hk hne => ?_⟩⟩
  · have h2 := take_putCellsI cur D (by omega)
    have h4 := congrArg (List.take C.length) h2
    rw [List.take_take, Nat.min_eq_left (by omega), ← List.map_take, hD, List.take_left'] at h4
    · rw [← hD] at h4
      exact h4
    · rfl
  · have : g ≠ k := fun e => hne (by rw [e])
    simp [Sort.putRow, Sort.mapBlock, Sort.ahead, Array.getElem?_modify, this]
end Go.Proofs.YtepbamacebjopaaGreatDoor
/- slices.BinarySearch of strings: is one of them there? -/
namespace Go.Proofs.YtepbamacebjopaaGreatDoor
open Go.RowKit

def lsB (a b : ByteArray) : Bool := Op.bytesLess a.toList b.toList
theorem lsB_iff {a b : ByteArray} : lsB a b = true ↔ ltS a b := by
  unfold lsB ltS
  rw [Proofs.bytesLess_eq, Lib.toList_data, Lib.toList_data, decide_eq_true_eq]
theorem w_isNaN2 (a : ByteArray) (w : World) : Calls Tryz.prog 91 #[.string a] w fun e w' => e = .returned (.bool false) ∧ w = w' := by
  go_enter Tryz.func91, Tryz.ntmps91
  go_wp2
  go_ret
  exact ⟨ret_bool (by simp), rfl⟩
def memS (l : List ByteArray) (t : ByteArray) : Bool := l.any fun x => decide (x = t)
theorem memS_iff {l : List ByteArray} {t : ByteArray} : memS l t = true ↔ t ∈ l := by
  unfold memS
  rw [List.any_eq_true]
  constructor
  · rintro ⟨x, hx, e⟩
    exact (of_decide_eq_true e) ▸ hx
  · intro h
    exact ⟨t, h, decide_eq_true rfl⟩
set_option maxRecDepth 100000 in
set_option maxHeartbeats 2000000 in
theorem w_BinS (lo : Nat) (A : Option Addr) (c : Nat) (l : List ByteArray) (t : ByteArray) (w : World) (hR : Rd w lo A 1 encS l) (hl : l.length ≤ 65536) (hs : l.Pairwise ltS) :
    Calls Tryz.prog 44 #[.slice A l.length c, .string t] w fun e w' => ∃ r : Int, e = .returned (.tuple #[.int .i64 r, .bool (memS l t)]) ∧ Nx w w' := by
  have HM := hide (fun i j (hij : i < j) (hj : j < l.length) (h : ltS (l.getD j default) t) => (show ltS (l.getD i default) t by
    have h2 := List.pairwise_iff_getElem.1 hs i j (by omega) hj hij
    rw [List.getD_eq_getElem?_getD, List.getElem?_eq_getElem hj] at h
    rw [List.getD_eq_getElem?_getD, List.getElem?_eq_getElem (by omega)]
    exact ltS_trans h2 h))
  have HMEM := hide (fun (i : Nat) (hi : i ≤ l.length) (h1 : ∀ m, m < i → ltS (l.getD m default) t) (h2 : ∀ m, i ≤ m → m < l.length → ¬ ltS (l.getD m default) t) => (show memS l t = (decide (i < l.length) && decide (l.getD i default = t)) by
    by_cases hi2 : i < l.length
    · rw [decide_eq_true hi2, Bool.true_and, Bool.eq_iff_iff, memS_iff, decide_eq_true_eq]
      constructor
      · intro ht
        obtain ⟨m, hm, e⟩ := List.mem_iff_getElem.1 ht
        have em : l.getD m default = t := by rw [List.getD_eq_getElem?_getD, List.getElem?_eq_getElem hm]; exact e
        rcases Nat.lt_trichotomy m i with h3 | h3 | h3
        · have := h1 m h3
          rw [em] at this
          exact absurd this (ltS_irrefl t)
        · rw [← h3]; exact em
        · have h4 := List.pairwise_iff_getElem.1 hs i m hi2 hm h3
          rw [e] at h4
          refine absurd ?_ (h2 i (Nat.le_refl _) hi2)
          rw [List.getD_eq_getElem?_getD, List.getElem?_eq_getElem hi2]
          exact h4
      · intro e
        rw [← e, List.getD_eq_getElem?_getD, List.getElem?_eq_getElem hi2]
        exact List.getElem_mem hi2
    · rw [decide_eq_false hi2, Bool.false_and]
      rw [Bool.eq_false_iff]
      intro ht
      obtain ⟨m, hm, e⟩ := List.mem_iff_getElem.1 (memS_iff.1 ht)
      have := h1 m (by omega)
      rw [List.getD_eq_getElem?_getD, List.getElem?_eq_getElem hm] at this
      exact absurd (show ltS t t by rw [show (some l[m]).getD default = t from e] at this; exact this) (ltS_irrefl t)))
  clear hs
  obtain ⟨ans, hans⟩ : ∃ ans, ans = memS l t := ⟨_, rfl⟩
  rw [← hans] at HMEM ⊢
  clear hans
  have HR := hide hR
  generalize hn : l.length = n at *
  have HN := hide hn
  clear hR hn
  go_enter Tryz.func44, Tryz.ntmps44
  go_wp2
  go_loopw [7, 8, 9] (fun vi vj _ wr => ∃ i j : Nat, i ≤ j ∧ j ≤ n ∧ vi = .int .i64 i ∧ vj = .int .i64 j ∧ Nx w wr ∧ (∀ m, m < i → ltS (l.getD m default) t) ∧ (∀ m, j ≤ m → m < n → ¬ ltS (l.getD m default) t)) (fun vi vj _ _ => (intOf vj).toNat - (intOf vi).toNat)
  case atStart => exact ⟨0, n, Nat.zero_le _, Nat.le_refl _, rfl, rfl, Nx.refl _, fun m hm => by omega, fun m h1 h2 => by omega⟩
  case round =>
    obtain ⟨i, j, hij, hj, rfl, rfl, hbw, hlo, hhi⟩ := hrel
    have HLO := hide hlo
    have HHI := hide hhi
    clear hlo hhi
    by_cases hlt : i < j
    · obtain ⟨h, hh⟩ : ∃ h, h = (i + j) / 2 := ⟨_, rfl⟩
      have qh : ((i : Int) + (j : Int)) / 2 = (h : Int) := by omega
      have hih : i ≤ h := by omega
      have hhj : h < j := by omega
      have hh' : h < l.length := by have := HN.out; omega
      clear hh
      obtain ⟨b, off, rfl, _, hb, hbr, hc⟩ := HR.out.open_ hbw (by have := HN.out; omega)
      have c0 : wr.cell? ⟨b, off + h, none⟩ = some (.string l[h]) := by simpa using hc h hh' 0 _ rfl
      clear hc
      have HE := hide (show l.getD h default = l[h] by rw [List.getD_eq_getElem?_getD, List.getElem?_eq_getElem hh']; rfl)
      generalize l[h] = y at *
      have hL := fun W => w_LessG y t W
      cases hneg : Op.bytesLess y.toList t.toList
      · have HNG := hide (show ¬ ltS y t from fun h => by rw [← lsB_iff] at h; unfold lsB at h; rw [hneg] at h; cases h)
        rw [hneg] at hL
        have HL := hide hL
        clear hneg hL
        go_wp2_with (go_at_call 90; refine (HL.out _).mono ?_; rintro e w2 ⟨rfl, rfl⟩)
        go_roundw
        case rel => exact ⟨i, h, by omega, by omega, rfl, rfl, hbw, HLO.out, fun m h1 h2 hc => by
          rcases Nat.eq_or_lt_of_le h1 with h3 | h3
          · subst h3
            rw [HE.out] at hc
            exact HNG.out hc
          · have h4 := HM.out h m h3 (by have := HN.out; omega) hc
            rw [HE.out] at h4
            exact HNG.out h4⟩
        case measure => simp [intOf]; omega
      · have HNG := hide (show ltS y t from lsB_iff.1 hneg)
        rw [hneg] at hL
        have HL := hide hL
        clear hneg hL
        go_wp2_with (go_at_call 90; refine (HL.out _).mono ?_; rintro e w2 ⟨rfl, rfl⟩)
        go_roundw
        case rel => exact ⟨h + 1, j, by omega, by omega, by go_num, rfl, hbw, fun m hm => by
          rcases Nat.lt_or_ge m h with h3 | h3
          · exact HM.out m h h3 (by omega) (by rw [HE.out]; exact HNG.out)
          · obtain rfl : m = h := by omega
            rw [HE.out]
            exact HNG.out, HHI.out⟩
        case measure => simp [intOf]; omega
    · have hij' : i = j := by omega
      subst hij'
      clear hlt hij
      have HA := hide (HMEM.out i (by omega) HLO.out HHI.out)
      by_cases hin : i < n
      · have hi' : i < l.length := by have := HN.out; omega
        obtain ⟨b, off, rfl, _, hb, hbr, hc⟩ := HR.out.open_ hbw (by have := HN.out; omega)
        have c0 : wr.cell? ⟨b, off + i, none⟩ = some (.string l[i]) := by simpa using hc i hi' 0 _ rfl
        clear hc
        have HA2 := hide (show ans = decide (l[i] = t) by rw [HA.out, show l.getD i default = l[i] by rw [List.getD_eq_getElem?_getD, List.getElem?_eq_getElem hi']; rfl, decide_eq_true hin, Bool.true_and])
        generalize l[i] = y at *
        by_cases hyt : y = t
        · have tq : (y.toList == t.toList) = true := by rw [eqS_iff]; exact decide_eq_true hyt
          have HA3 := hide (show ans = true by rw [HA2.out]; exact decide_eq_true hyt)
          clear hyt
          go_wp2_with (go_at_call 122; refine (w_isNaNS _ _).mono ?_; rintro e w' ⟨rfl, rfl⟩)
          go_ret2
          exact ⟨i, by rw [HA3.out]; rfl, hbw⟩
        · have tq : (y.toList == t.toList) = false := by rw [eqS_iff]; exact decide_eq_false hyt
          have HA3 := hide (show ans = false by rw [HA2.out]; exact decide_eq_false hyt)
          clear hyt
          go_wp2_with fail
          refine (w_isNaN2 _ _).mono ?_
          rintro e w' ⟨rfl, rfl⟩
          go_wp2_with fail
          go_ret2
          exact ⟨i, by rw [HA3.out]; rfl, hbw⟩
      · have HA2 := hide (show ans = false by rw [HA.out, decide_eq_false hin]; rfl)
        go_wp2
        go_ret2
        exact ⟨i, by rw [HA2.out]; rfl, hbw⟩
end Go.Proofs.YtepbamacebjopaaGreatDoor
/- The arcs that each way has: the program's Needed. -/
namespace Go.Proofs.YtepbamacebjopaaGreatDoor
open Go.RowKit Go.Maps

theorem el_SX : ElemOf Tryz.prog 34 9 1 16 := ElemOf.mk' (z := .string ByteArray.empty) Tryz.underlying34 (by kernel_rfl) rfl
section
variable {ns : List Node} {rs : List Arc} {bs : List Ban} {a b : Nat}
noncomputable def needB (ns : List Node) (rs : List Arc) (bs : List Ban) (a b : Nat) (z : Int) : Bool := @decide (¬ connP ns rs bs a b z) (Classical.propDecidable _)
theorem needB_iff {z : Int} : needB ns rs bs a b z = true ↔ ¬ connP ns rs bs a b z := by unfold needB; exact @decide_eq_true_iff _ (Classical.propDecidable _)
noncomputable def needL (ns : List Node) (rs : List Arc) (bs : List Ban) (a b : Nat) (C : List Int) : List ByteArray := (C.filter (needB ns rs bs a b)).map fun z => (arcX rs z.toNat).key
theorem APth.pos {P : Arc → Prop} {ban : Arc → Arc → Bool} {x : Arc} {n : Nat} (h : APth ns P ban a x n) : 0 < n := by cases h <;> omega
theorem WayIs.ne {w : Int} {l : List Nat} (h : WayIs ns rs bs a b w l) : 0 < l.length := by
  obtain ⟨x, hp, _⟩ := h.path
  exact hp.pos
/-- Which arcs are needed: those without which there is no way. -/
theorem needL_iff {l : List Nat} (hW : WayIs ns rs bs a b (-1) l) {C : List Int} (hC : ∀ x, x ∈ C ↔ x ∈ intsOf l) (s : ByteArray) : s ∈ needL ns rs bs a b C ↔ ∃ k, k < rs.length ∧ (arcX rs k).key = s ∧ ¬ connP ns rs bs a b k := by
  unfold needL
  rw [List.mem_map]
  constructor
  · rintro ⟨z, hz, e⟩
    obtain ⟨h1, h2⟩ := List.mem_filter.1 hz
    have h3 := (hC z).1 h1
    unfold intsOf at h3
    obtain ⟨k, hk, rfl⟩ := List.mem_map.1 h3
    exact ⟨k, (hW.lt k hk).1, by simpa using e, needB_iff.1 h2⟩
  · rintro ⟨k, hk, e, hn⟩
    have hkl : k ∈ l := Classical.byContradiction fun h => hn (hW.other h)
    exact ⟨(k : Int), List.mem_filter.2 ⟨(hC _).2 (by unfold intsOf; exact List.mem_map.2 ⟨k, hkl, rfl⟩), needB_iff.2 hn⟩, by simpa using e⟩
end
theorem compact_strictG {α : Type} [Inhabited α] [DecidableEq α] {le lt : α → α → Prop} (h1 : ∀ x y z, le x y → lt y z → lt x z) (h2 : ∀ x y, le x y → x ≠ y → lt x y) (h3 : ∀ x, le x x) {M : List α} (h : M.Pairwise le) : (Lib.compact M).Pairwise lt := by
  have hx : ∀ j (hj : j < M.length), M.toArray[j]! = M[j] := fun j hj => by simp [hj]
  unfold Lib.compact Lib.compactUpTo
  rw [List.pairwise_map]
  refine List.Pairwise.imp_of_mem ?_ (List.Pairwise.filter _ (List.pairwise_lt_range (n := M.length)))
  intro i j hi hj hij
  obtain ⟨hj1, hj2⟩ := List.mem_filter.1 hj
  have hjl := List.mem_range.1 hj1
  have hil : i < M.length := by omega
  have hne : M.toArray[j]! ≠ M.toArray[j - 1]! := by
    unfold Lib.keeps at hj2
    have := of_decide_eq_true hj2
    rcases this with e | e
    · omega
    · exact e
  rw [hx j hjl, hx (j - 1) (by omega)] at hne
  rw [hx i hil, hx j hjl]
  have hp := List.pairwise_iff_getElem.1 h
  have e1 : le M[i] M[j - 1] := by
    by_cases e : i = j - 1
    · subst e; exact h3 _
    · exact hp i (j - 1) hil (by omega) (by omega)
  exact h1 _ _ _ e1 (h2 _ _ (hp (j - 1) j (by omega) hjl (by omega)) (fun e => hne e.symm))
/-- Needed arcs come in the order of their keys. -/
theorem needL_sort {ns : List Node} {rs : List Arc} {bs : List Ban} {a b : Nat} (hS : SortA rs) {Q : List Int} (hQ : Q.Pairwise (· < ·)) (hm : ∀ x ∈ Q, ∃ k : Nat, x = (k : Int) ∧ k < rs.length) : (needL ns rs bs a b Q).Pairwise ltS := by
  unfold needL
  rw [List.pairwise_map]
  refine List.Pairwise.imp_of_mem ?_ (List.Pairwise.filter _ hQ)
  intro x y hx hy hxy
  obtain ⟨k, rfl, hk⟩ := hm x (List.mem_filter.1 hx).1
  obtain ⟨l, rfl, hl⟩ := hm y (List.mem_filter.1 hy).1
  simp only [Int.toNat_natCast]
  rw [arcX_get hk, arcX_get hl]
  exact List.pairwise_iff_getElem.1 hS k l hk hl (by omega)
/-- The same, in order. -/
def NeedOutS (ns : List Node) (rs : List Arc) (bs : List Ban) (a b : Nat) (w : World) (e : Ending) (w' : World) : Prop := ∃ (Z : Option Addr) (c : Nat) (L : List ByteArray) (F : Int), e = .returned (.tuple #[.slice Z L.length c, .int .i64 F]) ∧ Rd w' 0 Z 1 encS L ∧ L.length ≤ rs.length ∧ Nx w w' ∧
  ((a = b ∧ F = 0 ∧ L = []) ∨ (a ≠ b ∧ ¬ connP ns rs bs a b (-1) ∧ F = 8 ∧ L = []) ∨ (a ≠ b ∧ connP ns rs bs a b (-1) ∧ F = 0 ∧ ∀ s, s ∈ L ↔ ∃ k, k < rs.length ∧ (arcX rs k).key = s ∧ ¬ connP ns rs bs a b k)) ∧ L.Pairwise ltS
set_option maxRecDepth 100000 in
set_option maxHeartbeats 8000000 in
theorem w_NeededS (lo : Nat) (A B C : Option Addr) (ca cb cc : Nat) (ns : List Node) (rs : List Arc) (bs : List Ban) (f t : ByteArray) (i j : Nat) (w : World)
    (hN : Rd w lo A 3 encNode ns) (hA : RdArcs w lo B rs) (hB : Rd w lo C 2 encBan bs) (hnl : ns.length ≤ 400) (hal : rs.length ≤ 400) (hbl : bs.length ≤ 400)
    (hS : SmallN ns) (hF : roadsF ns rs bs = 0) (hi : nodeI ns f = (i : Int)) (hj : nodeI ns t = (j : Int)) (hil : i < ns.length) :
    Calls Tryz.prog 11 #[.agg #[.slice A ns.length ca, .slice B rs.length cb, .slice C bs.length cc], .string f, .string t] w (NeedOutS ns rs bs i j w) := by
  obtain ⟨wa, hwa⟩ : ∃ wa, wa = w.alloc (.cells #[.slice A ns.length ca, .slice B rs.length cb, .slice C bs.length cc] 30) := ⟨_, rfl⟩
  have hna : Nx w wa := hwa ▸ (Nx.refl w).alloc _
  have hgw : w.heap.size < wa.heap.size := by rw [hwa]; simp
  have b0 : wa.cell? ⟨w.heap.size, 0, none⟩ = some (.slice A ns.length ca) := by rw [hwa]; go_simp
  have b1 : wa.cell? ⟨w.heap.size, 1, none⟩ = some (.slice B rs.length cb) := by rw [hwa]; go_simp
  have b2 : wa.cell? ⟨w.heap.size, 2, none⟩ = some (.slice C bs.length cc) := by rw [hwa]; go_simp
  have hBox : BoxR wa w.heap.size lo A B C ca cb cc ns rs bs := ⟨b0, b1, b2, hgw, hN.nx hna, hA.nx hna, hB.nx hna, hnl, hal, hbl⟩
  have HC := hide (fun W (hx : Nx wa W) => w_Ends w.heap.size lo A B C ca cb cc ns rs bs f t 0 i j W (hBox.nx hx) hS hF (newOk_of hF) hi hj (by decide))
  have HRC := hide (roads_ok hF).2.1
  have HBX := hide hBox
  clear hBox b0 b1 b2 hN hA hB hF hi hj
  have HWA := hide hwa
  clear hwa
  go_enter Tryz.func11, Tryz.ntmps11
  go_upto_region 1 with fail
  rw [← HWA.out]
  go_wp2_with fail
  refine (HC.out _ (Nx.refl _)).mono ?_
  rintro e w1 ⟨bm, M, rfl, hbm, hM, hn1⟩
  have HM := hide hM
  have HN1 := hide (hna.trans hn1)
  have HNA1 := hide hn1
  clear hM hn1 HC
  by_cases hij : i = j
  · have tij : ((i : Int) == (j : Int)) = true := by rw [hij]; simp
    have HIJ := hide hij
    clear hij
    go_wp2_with fail
    go_ret2
    exact ⟨none, 0, [], 0, rfl, Rd.nil, Nat.zero_le _, HN1.out, .inl ⟨HIJ.out, rfl, rfl⟩, List.Pairwise.nil⟩
  · have tij : ((i : Int) == (j : Int)) = false := by simp; omega
    have HIJ := hide hij
    clear hij
    have HPW := hide (fun (wo : Int) (hwo : -1 ≤ wo ∧ wo ≤ 100000) W (hx : Nx w1 W) => w_plainWay W (HM.out.nx hx) HRC.out hal i j hil wo hwo)
    go_wp2_with fail
    refine (HPW.out (-1) (by omega) w1 (Nx.refl _)).mono ?_
    rintro e w2 ⟨hn2, hcase⟩
    rcases hcase with ⟨v, l, rfl, hown, hW⟩ | ⟨rfl, hno⟩
    · obtain ⟨A2, c2, rfl, hq⟩ : ∃ A2 c2, v = .slice A2 l.length c2 ∧ ∃ g, A2 = some ⟨g, 0, none⟩ ∧ w1.heap.size ≤ g ∧ IntsAt w2 g c2 (intsOf l) := by
        have h0 := hW.ne
        have hfl : (intsOf l).flatMap encI = (intsOf l).map (Value.int .i64) := by
          generalize intsOf l = z
          induction z with
          | nil => rfl
          | cons x z ih => rw [List.flatMap_cons, ih]; rfl
        rcases hown.2 with ⟨_, h1⟩ | ⟨g, cap, cur, rfl, h1, h2, h3, h4, h5, h6⟩
        · omega
        · exact ⟨_, cap, rfl, g, rfl, h1, cur, h2, by omega, by rw [intsOf_len]; exact h3, by rw [intsOf_len, ← hfl]; simpa using h6⟩
      obtain ⟨g, rfl, hg, hI⟩ := hq
      have HW := hide hW
      have HLL := hide (⟨hW.len, hW.ne⟩ : l.length ≤ rs.length ∧ 0 < l.length)
      have HI := hide hI
      have HN2 := hide hn2
      have HLI := hide (intsOf_len l)
      clear hown hW hI hn2
      have hs := w_SortI g c2 (intsOf l) w2 HI.out (by rw [HLI.out]; have := HLL.out.1; omega)
      rw [HLI.out] at hs
      have HS := hide hs
      clear hs
      generalize hnl2 : l.length = nl at *
      go_wp2_with fail
      refine HS.out.mono ?_
      rintro e w3 ⟨rfl, hI3, hg3⟩
      obtain ⟨D, hD⟩ : ∃ D, D = (intsOf l).mergeSort fun a b => decide (a ≤ b) := ⟨_, rfl⟩
      rw [← hD] at hI3
      have hDl : D.length = nl := by rw [hD, List.length_mergeSort, HLI.out]
      have hDm : ∀ x, x ∈ D ↔ x ∈ intsOf l := fun x => by rw [hD]; exact mem_sortI _ _
      have HDM := hide hDm
      have HDS := hide (show D.Pairwise (· ≤ ·) by
        rw [hD]
        exact (List.pairwise_mergeSort (le := fun a b : Int => decide (a ≤ b)) (fun a b c h1 h2 => decide_eq_true (Int.le_trans (of_decide_eq_true h1) (of_decide_eq_true h2))) (fun a b => by rcases Int.le_total a b with h | h <;> simp [h]) _).imp (fun h => of_decide_eq_true h))
      have hc := w_CompI g c2 D w3 hI3 (by have := HLL.out.1; omega)
      rw [hDl] at hc
      have HCC := hide hc
      have HN3 := hide (Nx.of_gr ((Gr.of_nx HN2.out).trans hg3) hg)
      have hgl3 : g < w3.heap.size := by
        obtain ⟨cur, h, _⟩ := hI3
        exact (Array.getElem?_eq_some_iff.1 h).1
      clear hD hc hI3 hg3 HS
      go_wp2_with fail
      refine HCC.out.mono ?_
      rintro e w4 ⟨rfl, hI4, hg4⟩
      obtain ⟨Q, hQ⟩ : ∃ Q, Q = Lib.compact D := ⟨_, rfl⟩
      rw [← hQ] at hI4 ⊢
      have hQm : ∀ x, x ∈ Q ↔ x ∈ intsOf l := fun x => by rw [hQ, mem_compact]; exact HDM.out x
      have hQl : Q.length ≤ rs.length := by
        have h1 : Q.length ≤ D.length := by
          rw [hQ]
          unfold Lib.compact Lib.compactUpTo
          rw [List.length_map]
          exact Nat.le_trans (List.length_filter_le _ _) (by rw [List.length_range]; exact Nat.le_refl _)
        have := HLL.out.1
        omega
      have HQM := hide hQm
      have HSRT := hide (needL_sort (ns := ns) (bs := bs) (a := i) (b := j) (sortA_of HRC.out) (show Q.Pairwise (· < ·) by rw [hQ]; exact compact_strictG (le := (· ≤ ·)) (lt := (· < ·)) (fun x y z h1 h2 => by omega) (fun x y h1 h2 => by omega) (fun x => Int.le_refl x) HDS.out) (fun x hx => by
        have h2 := (hQm x).1 hx
        unfold intsOf at h2
        obtain ⟨k, hk, e⟩ := List.mem_map.1 h2
        exact ⟨k, e.symm, (HW.out.lt k hk).1⟩))
      have HN4 := hide (Nx.of_gr ((Gr.of_nx HN3.out).trans hg4) hg)
      have hgl4 : g < w4.heap.size := Nat.lt_of_lt_of_le hgl3 hg4.sz
      have HQC := hide (fun (k : Nat) (hk : k < Q.length) W (hx : Nx w4 W) => (show W.cell? ⟨g, k, none⟩ = some (.int .i64 (Q.getD k 0)) from by
        obtain ⟨cur, h1, h2, h3, h4⟩ := hI4
        refine nx_cell hx hgl4 ((cell_of_row w4 g k _ _ _ h1).trans ?_)
        have h5 : (cur.toList.take Q.length)[k]? = (Q.map (Value.int .i64))[k]? := by rw [h4]
        rw [List.getElem?_take_of_lt hk, List.getElem?_map, List.getElem?_eq_getElem hk] at h5
        rw [← Array.getElem?_toList, h5, List.getD_eq_getElem?_getD, List.getElem?_eq_getElem hk]
        rfl))
      have HQK := hide (fun (k : Nat) (hk : k < Q.length) => (show ∃ x : Nat, Q.getD k 0 = (x : Int) ∧ x < rs.length from by
        have h1 : Q.getD k 0 ∈ Q := by rw [List.getD_eq_getElem?_getD, List.getElem?_eq_getElem hk]; exact List.getElem_mem hk
        have h2 := (HQM.out _).1 h1
        unfold intsOf at h2
        obtain ⟨x, hx, e⟩ := List.mem_map.1 h2
        exact ⟨x, e.symm, (HW.out.lt x hx).1⟩))
      have HTK := hide (fun (k : Nat) (hk : k < Q.length) => (show needL ns rs bs i j (Q.take (k + 1)) = needL ns rs bs i j (Q.take k) ++ (if needB ns rs bs i j (Q.getD k 0) = true then [(arcX rs (Q.getD k 0).toNat).key] else []) from by
        unfold needL
        rw [List.take_succ_eq_append_getElem hk, List.filter_append, List.map_append, List.getD_eq_getElem?_getD, List.getElem?_eq_getElem hk]
        congr 1
        show List.map _ (List.filter _ [Q[k]]) = _
        cases h : needB ns rs bs i j Q[k] <;> simp [h]))
      have HTL := hide (fun (k : Nat) (hk : k ≤ Q.length) => (show (needL ns rs bs i j (Q.take k)).length ≤ k from by
        unfold needL
        rw [List.length_map]
        have := List.length_filter_le (needB ns rs bs i j) (Q.take k)
        rw [List.length_take] at this
        omega))
      clear hQ hI4 hg4 hQm hgl3
      generalize hnq : Q.length = nq at *
      have HNQ := hide hnq
      clear hnq
      go_wp2_with fail
      go_loopw [14, 47] (fun v u wr => ∃ k : Nat, k ≤ nq ∧ u = .int .i64 k ∧ Nx w4 wr ∧ wr.ownsRow w4.heap.size 9 1 v (needL ns rs bs i j (Q.take k)).length ((needL ns rs bs i j (Q.take k)).flatMap encS)) (fun _ u _ => nq - (intOf u).toNat)
      case atStart => exact ⟨0, Nat.zero_le _, rfl, Nx.refl _, World.ownsRow_nil _ _ _ _⟩
      case round =>
        obtain ⟨k, hk, rfl, hbw, hown⟩ := hrel
        have HO := hide hown
        clear hown
        by_cases hlt : k < nq
        · have ck := HQC.out k hlt wr hbw
          obtain ⟨x, hx, hxl⟩ := HQK.out k hlt
          have hTK := HTK.out k hlt
          rw [hx] at ck hTK
          have HTK2 := hide hTK
          have HTL2 := hide (HTL.out k (by omega))
          have hnw := HN4.out.trans hbw
          clear hx hTK
          go_wp2_with fail
          refine (HPW.out (x : Int) (by omega) wr hnw).mono ?_
          rintro e w5 ⟨hn5, hcase⟩
          rcases hcase with ⟨v', l', rfl, _, hW'⟩ | ⟨rfl, hno⟩
          · have hnb : needB ns rs bs i j (x : Int) = false := by
              cases h : needB ns rs bs i j (x : Int) with
              | false => rfl
              | true => exact absurd hW'.conn (needB_iff.1 h)
            have HTK3 := hide (HTK2.out.trans (by rw [hnb]; simp : _ = needL ns rs bs i j (Q.take k)))
            clear hW' hnb
            go_wp2_with fail
            go_roundw
            case rel => exact ⟨k + 1, by omega, by go_num, hbw.trans hn5, by rw [HTK3.out]; exact own_nx HO.out hn5⟩
            case measure => simp [intOf]; omega
          · have hnb : needB ns rs bs i j (x : Int) = true := needB_iff.2 hno
            have HTK3 := hide (HTK2.out.trans (by rw [hnb]; simp : _ = needL ns rs bs i j (Q.take k) ++ [(arcX rs x).key]))
            have hbx5 := HBX.out.nx (HNA1.out.trans (hnw.trans hn5))
            obtain ⟨ab, aoff, rfl, _, _, hab, hac⟩ := hbx5.hA.1.open_ (Nx.refl _) (by omega)
            have g1 := hbx5.g1
            have ak : w5.cell? ⟨ab, aoff + x * 5, none⟩ = some (.string (arcX rs x).key) := by
              rw [arcX_get hxl]
              exact hac x hxl 0 _ rfl
            have ho5 := own_nx HO.out hn5
            have HO5 := hide ho5
            have hzz := hbw.sz
            have hz5 := hn5.sz
            clear hno hnb hac hab ho5 hbx5
            generalize (arcX rs x).key = ky at *
            generalize needL ns rs bs i j (Q.take k) = L0 at *
            go_wp2_with (at_builtin; go_must (refine wpApp2 rfl _ _ _ rfl el_SX encS encS_len encS_one (by omega) (by omega) w4.heap.size _ L0 rfl (HO5.out.alloc _) _ ky _ rfl (hnew rfl) rfl (by have := HTL2.out; omega) (by simp; omega) ?_); intro v9 w9 hown9 hg9 _; (have HO9 := hide hown9); (have HG9 := hide hg9); clear hown9 hg9)
            go_roundw
            case rel => exact ⟨k + 1, by omega, by go_num, ((hbw.trans hn5).alloc _).grown HG9.out (fun y hy => own_blk_lt HO5.out y hy), by rw [HTK3.out]; exact HO9.out⟩
            case measure => simp [intOf]; omega
        · obtain rfl : nq = k := by omega
          have hown := HO.out
          rw [← HNQ.out, List.take_length] at hown
          have hLl : (needL ns rs bs i j Q).length ≤ rs.length := by
            have := HTL.out nq (Nat.le_refl _)
            rw [← HNQ.out, List.take_length] at this
            have := HNQ.out
            omega
          obtain ⟨Z, cz, rfl, hRd, _⟩ := Rd.of_own encS_len rfl hown
          have HRd := hide hRd
          have HLl := hide hLl
          have HCN := hide HW.out.conn
          have HIFF := hide (fun s => needL_iff HW.out HQM.out s)
          clear hRd hown HO hLl
          generalize needL ns rs bs i j Q = L at *
          generalize hL : L.length = nL at *
          go_wp2_with fail
          go_ret2
          exact ⟨Z, cz, L, 0, by rw [hL]; rfl, HRd.out.low (Nat.zero_le _), by rw [hL]; exact HLl.out, HN1.out.trans (HN4.out.trans hbw), .inr (.inr ⟨HIJ.out, HCN.out, rfl, HIFF.out⟩), HSRT.out⟩
    · have HNO := hide hno
      clear hno
      go_wp2_with fail
      go_ret2
      exact ⟨none, 0, [], 8, rfl, Rd.nil, Nat.zero_le _, HN1.out.trans hn2, .inr (.inl ⟨HIJ.out, HNO.out, rfl, rfl⟩), List.Pairwise.nil⟩
end Go.Proofs.YtepbamacebjopaaGreatDoor
