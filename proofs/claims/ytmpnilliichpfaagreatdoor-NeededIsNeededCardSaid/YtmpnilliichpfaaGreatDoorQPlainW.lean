/- Some way between two nodes, without an arc: the program's plainWay. -/
import Derived.Test.YtmpnilliichpfaaGreatDoorQH0
import Derived.Deep.Onto
namespace Go.Proofs.YtmpnilliichpfaaGreatDoor
open Go.RowKit Go.Maps

section
variable {g : Gph} {a b : Nat} {wo p : Int} {v : List Nat} {pos : Nat} {f : Nat → Option Int}
theorem Bef.more {x : List Nat} {k : Nat} (h : Bef g a v k p) : Bef g a (v ++ x) k p := by
  rcases h with h | ⟨j, hj, e, h1, h2⟩
  · exact .inl h
  · have e2 : (v ++ x).getD j 0 = v.getD j 0 := by rw [List.getD_eq_getElem?_getD, List.getElem?_append_left hj, ← List.getD_eq_getElem?_getD]
    exact .inr ⟨j, by rw [List.length_append]; omega, by rw [e2]; exact e, by rw [e2]; exact h1, by rw [e2]; exact h2⟩
/-- What one call of the closure finds. -/
theorem stepQ_bfs (_q : List Nat) : ∀ (l : List Nat) (v : List Nat) (q : List Nat) (f : Nat → Option Int), Bfs g a wo v f → (∀ k ∈ l, k < g.m ∧ Bef g a v k p) →
    ∃ new, (stepQ wo p l (f, q)).2 = q ++ new ∧ Bfs g a wo (v ++ new) (stepQ wo p l (f, q)).1 ∧ ∀ k ∈ l, (k : Int) ≠ wo → k ∈ v ++ new
  | [], v, q, f, h, _ => ⟨[], by simp [stepQ], by simpa [stepQ] using h, fun k hk => absurd hk (by simp)⟩
  | k :: l, v, q, f, h, hl => by
    have hk := hl k (by simp)
    unfold stepQ
    by_cases hc : f k = none ∧ (k : Int) ≠ wo
    · rw [if_pos hc]
      obtain ⟨new, h1, h2, h3⟩ := stepQ_bfs q l (v ++ [k]) (q ++ [k]) _ (h.add hk.1 hc.2 hc.1 hk.2) (fun y hy => ⟨(hl y (List.mem_cons_of_mem _ hy)).1, (hl y (List.mem_cons_of_mem _ hy)).2.more⟩)
      refine ⟨k :: new, by rw [h1]; simp, by simpa using h2, fun y hy hne => ?_⟩
      rcases List.mem_cons.1 hy with rfl | hy
      · simp
      · have := h3 y hy hne
        simpa using this
    · rw [if_neg hc]
      obtain ⟨new, h1, h2, h3⟩ := stepQ_bfs q l v q f h (fun y hy => hl y (List.mem_cons_of_mem _ hy))
      refine ⟨new, h1, h2, fun y hy hne => ?_⟩
      rcases List.mem_cons.1 hy with rfl | hy
      · have : f y ≠ none := fun e => hc ⟨e, hne⟩
        exact List.mem_append_left _ ((h.dom y).2 this)
      · exact h3 y hy hne
/-- What holds while one looks for a way. -/
structure PlI (g : Gph) (a b : Nat) (wo : Int) (v : List Nat) (pos : Nat) (f : Nat → Option Int) : Prop where
  bfs : Bfs g a wo v f
  le : pos ≤ v.length
  start : ∀ k, k < g.m → g.from_ k = a → (k : Int) ≠ wo → k ∈ v
  seen : ∀ i, i < pos → g.to_ (v.getD i 0) ≠ b ∧ ∀ k, k < g.m → g.from_ k = g.to_ (v.getD i 0) → g.ban (v.getD i 0) k = false → (k : Int) ≠ wo → k ∈ v
theorem outs_mem (hg : GOk g) {n k : Nat} (hn : n < g.nn) : k ∈ g.outs n ↔ k < g.m ∧ g.from_ k = n :=
  ⟨fun h => ⟨hg.outs_lt n k h, (hg.outs_iff n k hn (hg.outs_lt n k h)).1 h⟩, fun h => (hg.outs_iff n k hn h.1).2 h.2⟩
theorem PlI.first (hg : GOk g) (ha : a < g.nn) : ∃ q', (stepQ wo (-1) (g.outs a) ((fun _ => none), [])).2 = q' ∧ PlI g a b wo q' 0 (stepQ wo (-1) (g.outs a) ((fun _ => none), [])).1 := by
  obtain ⟨new, h1, h2, h3⟩ := stepQ_bfs (g := g) (a := a) (wo := wo) (p := -1) [] (g.outs a) [] [] (fun _ => none) Bfs.nil (fun k hk => ⟨hg.outs_lt a k hk, .inl ⟨rfl, ((outs_mem hg ha).1 hk).2⟩⟩)
  rw [List.nil_append] at h1
  refine ⟨new, h1, h2, Nat.zero_le _, fun k hk hf hw => ?_, fun i hi => absurd hi (by omega)⟩
  have := h3 k ((outs_mem hg ha).2 ⟨hk, hf⟩) hw
  simpa using this
theorem PlI.next (hg : GOk g) (h : PlI g a b wo v pos f) (hp : pos < v.length) (hb : g.to_ (v.getD pos 0) ≠ b) : ∃ new, (stepQ wo (v.getD pos 0 : Nat) ((g.outs (g.to_ (v.getD pos 0))).filter fun j => !g.ban (v.getD pos 0) j) (f, v.drop pos)).2 = v.drop pos ++ new ∧ PlI g a b wo (v ++ new) (pos + 1) (stepQ wo (v.getD pos 0 : Nat) ((g.outs (g.to_ (v.getD pos 0))).filter fun j => !g.ban (v.getD pos 0) j) (f, v.drop pos)).1 := by
  have hx := h.bfs.lt _ (getD_mem hp)
  have hto := hg.to_lt _ hx.1
  have hmem : ∀ k, k ∈ (g.outs (g.to_ (v.getD pos 0))).filter (fun j => !g.ban (v.getD pos 0) j) ↔ (k < g.m ∧ g.from_ k = g.to_ (v.getD pos 0)) ∧ g.ban (v.getD pos 0) k = false := fun k => by
    rw [List.mem_filter, outs_mem hg hto]
    simp
  obtain ⟨new, h1, h2, h3⟩ := stepQ_bfs (g := g) (a := a) (wo := wo) (p := ((v.getD pos 0 : Nat) : Int)) [] ((g.outs (g.to_ (v.getD pos 0))).filter fun j => !g.ban (v.getD pos 0) j) v (v.drop pos) f h.bfs (fun k hk => by
    have := (hmem k).1 hk
    exact ⟨this.1.1, .inr ⟨pos, hp, rfl, this.1.2, this.2⟩⟩)
  refine ⟨new, h1, h2, by rw [List.length_append]; omega, fun k hk hf hw => List.mem_append_left _ (h.start k hk hf hw), fun i hi => ?_⟩
  have e : ∀ i, i < v.length → (v ++ new).getD i 0 = v.getD i 0 := fun i hi => by rw [List.getD_eq_getElem?_getD, List.getElem?_append_left hi, ← List.getD_eq_getElem?_getD]
  rcases Nat.lt_or_ge i pos with h4 | h4
  · rw [e i (by omega)]
    obtain ⟨k1, k2⟩ := h.seen i h4
    exact ⟨k1, fun k a1 a2 a3 a4 => List.mem_append_left _ (k2 k a1 a2 a3 a4)⟩
  · obtain rfl : i = pos := by omega
    rw [e i hp]
    exact ⟨hb, fun k a1 a2 a3 a4 => h3 k ((hmem k).2 ⟨⟨a1, a2⟩, a3⟩) a4⟩
end
theorem PlI.none {ns : List Node} {rs : List Arc} {bs : List Ban} {a b : Nat} {wo : Int} {v : List Nat} {f : Nat → Option Int} (h : PlI (gphOf ns rs bs) a b wo v v.length f) : ¬ connP ns rs bs a b wo := by
  have hc : Closed (gphOf ns rs bs) a wo v := ⟨h.start, fun i hi k a1 a2 a3 a4 => by
    obtain ⟨j, hj, rfl⟩ := mem_at hi
    exact (h.seen j hj).2 k a1 a2 a3 a4⟩
  refine hc.none fun k hk e => ?_
  obtain ⟨j, hj, rfl⟩ := mem_at hk
  exact (h.seen j hj).1 e
/-- What plainWay answers. -/
def PlainOut (ns : List Node) (rs : List Arc) (bs : List Ban) (a b : Nat) (wo : Int) (w : World) (e : Ending) (w' : World) : Prop := Nx w w' ∧ ((∃ (v : Value) (l : List Nat), e = .returned (.tuple #[v, .bool true]) ∧ w'.ownsRow w.heap.size 3 1 v l.length ((intsOf l).flatMap encI) ∧ WayIs ns rs bs a b wo l) ∨ (e = .returned (.tuple #[.slice none 0 0, .bool false]) ∧ ¬ connP ns rs bs a b wo))
section
variable {bm g0 lo : Nat} {A B C : Option Addr} {ca cb cc : Nat} {M : MapA} {ns : List Node} {rs : List Arc} {bs : List Ban}
set_option maxRecDepth 100000 in
set_option maxHeartbeats 8000000 in
theorem w_plainWay (w : World) (hM : MapR w bm g0 lo A B C ca cb cc M ns rs bs) (hC : chk (arcF ns) none rs = 0) (hal : rs.length ≤ 400) (a b : Nat) (ha : a < ns.length) (wo : Int) (_hwo : -1 ≤ wo ∧ wo ≤ 100000) :
    Calls Tryz.prog 98 #[.pointer (some ⟨bm, 0, none⟩), .int .i64 (a : Int), .int .i64 (b : Int), .int .i64 wo] w (PlainOut ns rs bs a b wo w) := by
  have hG := gph_ok (bs := bs) hC
  have hm : (gphOf ns rs bs).m = rs.length := rfl
  obtain ⟨wa, hwa⟩ : ∃ wa, wa = (((w.alloc (.cells #[.int .i64 wo] 3)).alloc (.map #[] 0)).alloc (.cells #[.map (some (w.heap.size + 1))] 232)).alloc (.cells #[.slice none 0 0] 22) := ⟨_, rfl⟩
  have hna : Nx w wa := hwa ▸ ((((Nx.refl w).alloc _).alloc _).alloc _).alloc _
  have hsz : wa.heap.size = w.heap.size + 4 := by rw [hwa]; simp
  have hmm := @run_makeMap Tryz.prog
  have kw : wa.cell? ⟨w.heap.size, 0, none⟩ = some (.int .i64 wo) := by rw [hwa]; go_simp
  have km : wa.cell? ⟨w.heap.size + 1 + 1, 0, none⟩ = some (.map (some (w.heap.size + 1))) := by rw [hwa]; go_simp
  have hpl : wa.heap[w.heap.size + 1 + 1 + 1]? = some (.cells #[.slice none 0 0] 22 (0, 0)) := by rw [hwa]; exact hnew (by simp)
  have hmap : MpQI wa (w.heap.size + 1) 0 (fun _ => none) := by
    refine MgI.fresh ?_
    rw [hwa]
    exact ((((Nx.refl _).alloc _).alloc _).block _ (by simp)).trans (hnew (by simp))
  have HM := hide hM
  have HG := hide hG
  have HC := hide hC
  have hlen : ∀ t, ((gphOf ns rs bs).outs t).length ≤ 400 := fun t => Nat.le_trans (hG.outs_len t) hal
  have HFI := hide (PlI.first (b := b) (wo := wo) hG (show a < (gphOf ns rs bs).nn from ha))
  have HOL := hide (fun k (hk : k ∈ (gphOf ns rs bs).outs a) => (show k < rs.length from hG.outs_lt a k hk))
  have HLEN := hide hlen
  have HWA := hide hwa
  clear hwa hlen hM hC hG
  obtain ⟨s, hs⟩ : ∃ s, s = w.heap.size := ⟨_, rfl⟩
  go_enter Tryz.func98, Tryz.ntmps98
  go_upto_region 4 with fail
  rw [← HWA.out]
  rw [← hs] at kw km hpl hmap hsz ⊢
  have HSS := hide hs
  clear hs HWA
  have HK0 := hide (⟨kw, km, hpl, hmap⟩ : wa.cell? ⟨s, 0, none⟩ = some (.int .i64 wo) ∧ wa.cell? ⟨s + 1 + 1, 0, none⟩ = some (.map (some (s + 1))) ∧ wa.heap[s + 1 + 1 + 1]? = some (.cells #[.slice none 0 0] 22 (0, 0)) ∧ MpQI wa (s + 1) 0 (fun _ => none))
  clear kw km hpl hmap
  go_wp2_with fail
  refine (w_MOut w wa HM.out hna a ha).mono ?_
  rintro e w1 ⟨Z, cz, rfl, hR1, hZb, hn1⟩
  have hn01 := hna.trans hn1
  have hz1 := hn1.sz
  have hpl1 : w1.heap[s + 1 + 1 + 1]? = some (.cells #[.slice none ([] : List Nat).length 0] 22 (0, 0)) := (hn1.block _ (by omega)).trans HK0.out.2.2.1
  have HST := hide (w_pstep (s + 4) (s + 1 + 1) s (s + 1 + 1 + 1) (s + 1) 0 0 wo (-1) (fun _ => none) [] none 0 Z cz ((gphOf ns rs bs).outs a) w1 (nx_cell hn1 (by omega) HK0.out.2.1) (nx_cell hn1 (by omega) HK0.out.1) hpl1 (HK0.out.2.2.2.nx hn1) QIs.nil hR1 (by have := HLEN.out a; omega) (by have := HLEN.out a; simp; omega) (fun k hk => by have := HOL.out k hk; omega) (by omega) (by omega) ⟨by omega, by omega, by simp [blkOf], by omega⟩ ⟨by omega, by omega, by simp [blkOf], by omega⟩ (fun hp k hk => by
    cases hZ : Z with
    | none => rw [hZ] at hk; cases hk
    | some x =>
      have h1 := hZb hp x hZ
      rw [hZ] at hk
      injection hk with hk
      have hk : x.block = k := hk
      have h2 := HSS.out
      exact ⟨by omega, by omega, by simp [blkOf]⟩) ⟨by simp [blkOf], by simp [blkOf], by omega⟩)
  have HK1 := hide (⟨nx_cell hn1 (by omega) HK0.out.1, nx_cell hn1 (by omega) HK0.out.2.1⟩ : w1.cell? ⟨s, 0, none⟩ = some (.int .i64 wo) ∧ w1.cell? ⟨s + 1 + 1, 0, none⟩ = some (.map (some (s + 1))))
  have HN01 := hide hn01
  have HZ1 := hide (show s + 4 ≤ w1.heap.size by omega)
  clear hpl1 hR1 hZb hn01 hn1 hz1 HK0 hna
  obtain ⟨q0, hq0, hI0⟩ := HFI.out
  generalize stepQ wo (-1) ((gphOf ns rs bs).outs a) ((fun _ => none), []) = S0 at *
  have HI0 := hide hI0
  have HQ0 := hide hq0
  clear hq0 hI0 HFI
  have HL0 := hide (HLEN.out a)
  generalize ((gphOf ns rs bs).outs a).length = n0 at *
  go_wp2_with fail
  refine HST.out.mono ?_
  rintro e w2 ⟨rfl, A2, c2, hpl2, hM2, hq2, hA2, hk2⟩
  have HP2 := hide hpl2
  have HM2 := hide hM2
  have HQ2 := hide hq2
  have HK2 := hide hk2
  clear hpl2 hM2 hq2 hA2 hk2
  go_wp2_with fail
  go_loopg [13] (rs.length + 1) (fun fu _ wr => ∃ (v q : List Nat) (pos : Nat) (f : Nat → Option Int) (A' : Option Addr) (c' N : Nat), q = v.drop pos ∧ PlI (gphOf ns rs bs) a b wo v pos f ∧ rs.length ≤ fu + pos ∧ N ≤ (pos + 1) * 400 ∧ Nx w wr ∧ (wr.cell? ⟨s, 0, none⟩ = some (.int .i64 wo) ∧ wr.cell? ⟨s + 1 + 1, 0, none⟩ = some (.map (some (s + 1)))) ∧ wr.heap[s + 1 + 1 + 1]? = some (.cells #[.slice A' q.length c'] 22 (0, 0)) ∧ MpQI wr (s + 1) N f ∧ QIs wr (s + 4) 3 A' c' (intsOf q) ∧ s + 4 ≤ wr.heap.size)
  case atStart =>
    refine ⟨S0.2, S0.2, 0, S0.1, A2, c2, 0 + n0, rfl, by rw [HQ0.out]; exact HI0.out, by omega, by have := HL0.out; omega, ?_, ⟨?_, ?_⟩, HP2.out, HM2.out, HQ2.out, Nat.le_trans HZ1.out HK2.out.sz⟩
    · have h1 := HSS.out
      exact HK2.out.nx_of HN01.out (by omega) (by omega) (fun k hk => by cases hk)
    · exact HK2.out.cell HK1.out.1 (by have := HZ1.out; show s < _; omega) (by show s ≠ _; omega) (by show s ≠ _; omega) (by simp [blkOf])
    · exact HK2.out.cell HK1.out.2 (by have := HZ1.out; show s + 1 + 1 < _; omega) (by show s + 1 + 1 ≠ _; omega) (by show s + 1 + 1 ≠ _; omega) (by simp [blkOf])
  case round =>
    clear HP2 HM2 HQ2 HK2 HK1 HN01 HZ1 HI0 HQ0 HL0 HST HOL
    obtain ⟨v, q, pos, f, A', c', N, hq, hI, hfu, hN, hnw, ⟨kw, km⟩, hpl, hM2, hqi, hz⟩ := hrel
    have hvl : v.length ≤ rs.length := hI.bfs.len
    have HNW := hide hnw
    have HPL := hide hpl
    have HM2 := hide hM2
    have HI := hide hI
    have HQI := hide hqi
    have HQ := hide hq
    have HKK := hide (⟨kw, km⟩ : wr.cell? ⟨s, 0, none⟩ = some (.int .i64 wo) ∧ wr.cell? ⟨s + 1 + 1, 0, none⟩ = some (.map (some (s + 1))))
    have x3 : wr.cell? ⟨s + 1 + 1 + 1, 0, none⟩ = some (.slice A' q.length c') := (cell_of_row wr _ 0 _ _ _ hpl).trans rfl
    have hle := hI.le
    clear hnw hpl hM2 hI hqi hq kw km
    by_cases hp : pos < v.length
    · have hqc : q = v.getD pos 0 :: v.drop (pos + 1) := by
        rw [HQ.out, List.drop_eq_getElem_cons hp, List.getD_eq_getElem?_getD, List.getElem?_eq_getElem hp]
        rfl
      have hxl : v.getD pos 0 < rs.length := (HI.out.bfs.lt _ (getD_mem hp)).1
      have hqi := HQI.out
      rw [hqc, show intsOf (v.getD pos 0 :: v.drop (pos + 1)) = ((v.getD pos 0 : Nat) : Int) :: intsOf (v.drop (pos + 1)) from rfl] at hqi
      obtain ⟨gq, oq, eA, hc0, hgl, _⟩ := hqi.head
      have hql : 0 < q.length := by rw [hqc]; simp
      have tq : decide ((q.length : Int) > 0) = true := decide_eq_true (by omega)
      have HQC := hide hqc
      have HTO := hide (fun W (hx : Nx w W) => w_MTo W (HM.out.nx hx) (v.getD pos 0) hxl)
      have hqlt : ∀ k, blkOf A' = some k → s + 4 ≤ k ∧ k < wr.heap.size := fun k hk => ⟨HQI.out.ge k hk, HQI.out.lt k hk⟩
      have HQLT := hide hqlt
      have HNEXT := hide (fun hb => HI.out.next (b := b) (pos := pos) HG.out hp hb)
      have HWAY := hide (fun hb : nodeN ns (arcX rs (v.getD pos 0)).to_ = b => HI.out.bfs.way hp hb)
      clear hqi hqc hqlt
      subst eA
      generalize hxx : v.getD pos 0 = x at *
      have HXX := hide hxx
      clear hxx
      have HNL := hide (show q.length ≤ 400 by
        rw [HQ.out, List.length_drop]; omega)
      generalize hnq : q.length = nq at *
      have HNQ := hide hnq
      clear hnq
      by_cases hto : nodeN ns (arcX rs x).to_ = b
      · have tb : ((nodeN ns (arcX rs x).to_ : Int) != (b : Int)) = false := by rw [hto]; simp
        obtain ⟨l, hch, hW⟩ := HWAY.out hto
        have HCH := hide hch
        have HWI := hide hW
        have HWL := hide (fun k (hk : k ∈ l) => hW.lt k hk)
        have HWN := hide hW.len
        generalize nodeN ns (arcX rs x).to_ = tx at *
        have HKX := hide (fun W (hx : Nx wr W) => (nx_cell hx (by omega) HKK.out.2 : W.cell? ⟨s + 1 + 1, 0, none⟩ = some (.map (some (s + 1)))))
        clear hch hW HNEXT HWAY
        go_wp2_with (go_at_call 162; go_must (refine (HTO.out wr HNW.out).mono ?_); rintro e w3 ⟨rfl, hn3⟩; (have HN3 := hide hn3); clear hn3)
        obtain ⟨wk, hwk⟩ : ∃ wk, wk = w3 := ⟨_, rfl⟩
        subst hwk
        have hnk := HNW.out.trans HN3.out
        have HNK := hide hnk
        clear hnk tb tq hc0 x3
        go_loopg [13, 14] (l.length + 1) (fun fu vk vw wy => ∃ (k : Int) (rest acc : List Nat), vk = .int .i64 k ∧ PChain f k rest ∧ l = acc ++ rest ∧ rest.length + 1 ≤ fu ∧ Nx wk wy ∧ wy.ownsRow wk.heap.size 3 1 vw acc.length ((intsOf acc).flatMap encI))
        case atStart => exact ⟨(x : Int), l, [], rfl, HCH.out, rfl, Nat.le_refl _, Nx.refl _, World.ownsRow_nil _ _ _ _⟩
        case round =>
          obtain ⟨k, rest, acc, rfl, hch, hlr, hfl, hny, hown⟩ := hrel
          have HNY := hide hny
          have HO := hide hown
          have HLR := hide hlr
          clear hny hown HCH
          cases hch with
          | nil =>
            have hla : l = acc := by rw [HLR.out, List.append_nil]
            have HLA := hide hla
            have tk : decide ((-1 : Int) ≥ 0) = false := by decide
            clear hla
            go_wp2_with fail
            go_ret2
            refine ⟨HNK.out.trans HNY.out, .inl ⟨_, l, rfl, ?_, HWI.out⟩⟩
            rw [HLA.out]
            exact World.ownsRow.mono HO.out HNK.out.sz
          | cons kk pp rest' hkk hch' =>
            have hkl : kk < rs.length := (HWL.out kk (by rw [HLR.out]; simp)).1
            have tk : decide ((kk : Int) ≥ 0) = true := decide_eq_true (by omega)
            have HCH2 := hide hch'
            have hdk : domK kk := domK_of (by omega)
            have HDK := hide hdk
            have HKY := hide (key_N hdk)
            have hal2 : acc.length ≤ 400 := by
              have h1 := HWN.out
              have h2 := congrArg List.length HLR.out
              rw [List.length_append] at h2
              omega
            have HI2 := hide (intsOf_len acc)
            have ho2 := HO.out
            rw [← HI2.out] at ho2
            have HO2 := hide ho2
            have HFK := hide hkk
            have HRL := hide (show rest'.length + 1 ≤ gk - 1 ∧ 0 < gk from by rw [List.length_cons] at hfl; omega)
            clear hch' hdk ho2 hkk hfl hkl
            go_wp2_with (first
              | (at_builtin; go_must (refine wpApp2 rfl _ _ _ rfl el_IntR encI encI_len encI_one (by omega) (by omega) wk.heap.size _ (intsOf acc) rfl (HO2.out.alloc _) _ (kk : Int) _ rfl (hnew rfl) rfl (by have := HI2.out; omega) (by have := HNY.out.sz; simp; omega) ?_); intro v9 w9 hown9 hg9 _; (have HO9 := hide hown9); (have hn9 := (HNY.out.alloc (.cells #[.int .i64 (kk : Int)] 3)).grown hg9 (fun y hy => own_blk_lt HO2.out y hy)); (have HN9 := hide hn9); (have y2 := HKX.out w9 (HN3.out.trans hn9)); clear hown9 hg9 hn9)
              | (at_lookup; go_must (refine wpMgLook _ rfl _ _ _ rfl intR law_intN Tryz.underlying232 (z := (0 : Int)) (by decide) (zeroIntR _) (s + 1) N f rfl (HM2.out.nx (HN3.out.trans HN9.out)) kk rfl HDK.out _ HKY.out ?_); (rw [HFK.out])))
            go_roundg (gk - 1)
            case measure => have := HRL.out; omega
            case rel =>
              refine ⟨pp, rest', acc ++ [kk], rfl, HCH2.out, by rw [HLR.out]; simp, by have := HRL.out; omega, HN9.out, ?_⟩
              have h9 := HO9.out
              rw [mapI_one, show (acc ++ [kk]).length = (intsOf acc ++ [(kk : Int)]).length by rw [List.length_append, List.length_append, HI2.out]; rfl]
              exact h9
      · have tb : ((nodeN ns (arcX rs x).to_ : Int) != (b : Int)) = true := by simpa using fun e => hto (by omega)
        obtain ⟨new, hnew1, hnew2⟩ := HNEXT.out hto
        have HNX := hide (fun W (hx : Nx w W) => w_MNext W (HM.out.nx hx) HC.out hal x hxl)
        have hLL : (((gphOf ns rs bs).outs ((gphOf ns rs bs).to_ x)).filter fun j => !(gphOf ns rs bs).ban x j).length ≤ 400 := Nat.le_trans (List.length_filter_le _ _) (HLEN.out _)
        have hLm : ∀ k ∈ ((gphOf ns rs bs).outs ((gphOf ns rs bs).to_ x)).filter (fun j => !(gphOf ns rs bs).ban x j), k < rs.length := fun k hk => HG.out.outs_lt _ k (List.mem_filter.1 hk).1
        have HLM := hide hLm
        generalize ((gphOf ns rs bs).outs ((gphOf ns rs bs).to_ x)).filter (fun j => !(gphOf ns rs bs).ban x j) = L at *
        generalize nodeN ns (arcX rs x).to_ = tx at *
        rw [← HQ.out] at hnew1 hnew2
        have HNEW1 := hide hnew1
        have HNEW2 := hide hnew2
        clear hnew1 hnew2 HNEXT HWAY hLm
        go_wp2_with (first
          | (go_at_call 162; go_must (refine (HTO.out wr HNW.out).mono ?_); rintro e w3 ⟨rfl, hn3⟩; (have HN3 := hide hn3); clear hn3)
          | (go_at_call 163; go_must (refine (HNX.out w3 (HNW.out.trans HN3.out)).mono ?_); rintro e w4 ⟨Z, cz, rfl, hZ, hn4⟩; (have HN4 := hide (HN3.out.trans hn4)); (have HZ := hide hZ); (have HZ4 := hide hn4.sz); clear hZ hn4))
        have hz3 := HN3.out.sz
        have hz4 := HZ4.out
        have hpl4 : w4.heap[s + 1 + 1 + 1]? = some (.cells #[.slice (some ⟨gq, oq, none⟩) q.length c'] 22 (0, 0)) := (HN4.out.block _ (by omega)).trans (by rw [HNQ.out]; exact HPL.out)
        have hq1 := HQLT.out gq rfl
        have HST := hide (w_pstep (s + 4) (s + 1 + 1) s (s + 1 + 1 + 1) (s + 1) N w3.heap.size wo (x : Int) f q (some ⟨gq, oq, none⟩) c' Z cz L w4 (nx_cell HN4.out (by omega) HKK.out.2) (nx_cell HN4.out (by omega) HKK.out.1) hpl4 (HM2.out.nx HN4.out) (HQI.out.nx HN4.out) HZ.out (by omega) (by have := HNL.out; have := HNQ.out; omega) (fun k hk => by have := HLM.out k hk; omega) (by omega) (by omega) ⟨by omega, by omega, by simp [blkOf]; omega, by omega⟩ ⟨by omega, by omega, by simp [blkOf]; omega, by omega⟩ (fun hp k hk => by
          obtain ⟨bz, oz, eZ, hbz, _⟩ := HZ.out (by rw [intsOf_len]; exact hp)
          rw [eZ] at hk
          injection hk with hk
          have hk : bz = k := hk
          exact ⟨by omega, by omega, by simp [blkOf]; omega⟩) ⟨by simp [blkOf]; omega, by simp [blkOf]; omega, by omega⟩)
        have HX4 := hide (⟨nx_cell HN4.out (by omega) HKK.out.1, nx_cell HN4.out (by omega) HKK.out.2⟩ : w4.cell? ⟨s, 0, none⟩ = some (.int .i64 wo) ∧ w4.cell? ⟨s + 1 + 1, 0, none⟩ = some (.map (some (s + 1))))
        have HNW4 := hide (HNW.out.trans HN4.out)
        have HSZ4 := hide (show s + 4 ≤ w4.heap.size ∧ gq < w4.heap.size by omega)
        have HLL := hide hLL
        clear hz3 hz4 hpl4 HZ4 hLL x3 hc0 tb tq
        generalize stepQ wo (x : Int) L (f, q) = S1 at *
        generalize hll : L.length = nl at *
        have hnl : nl ≤ 400 := HLL.out
        clear hll
        refine HST.out.mono ?_
        rintro e w5 ⟨rfl, A5, c5, hpl5, hM5, hq5, hA5, hk5⟩
        have hs2 : S1.2 = x :: (v.drop (pos + 1) ++ new) := by rw [HNEW1.out, HQC.out]; rfl
        have hq5b := hq5
        rw [hs2, show intsOf (x :: (v.drop (pos + 1) ++ new)) = (x : Int) :: intsOf (v.drop (pos + 1) ++ new) from rfl] at hq5b
        obtain ⟨g5, o5, e5, hc5, hg5, hcl5⟩ := hq5b.head
        subst e5
        have ht5 := hq5b.tail
        have hn2 : S1.2.length = (v.drop (pos + 1) ++ new).length + 1 := by rw [hs2]; rfl
        have HT5 := hide ht5
        have HM5 := hide hM5
        have HK5 := hide hk5
        have HPL5 := hide hpl5
        obtain ⟨nr5, hnr5⟩ : ∃ n, n = (v.drop (pos + 1) ++ new).length := ⟨_, rfl⟩
        rw [intsOf_len, ← hnr5] at hcl5
        rw [← hnr5] at hn2
        have HNR5 := hide hnr5
        have x5 : w5.cell? ⟨s + 1 + 1 + 1, 0, none⟩ = some (.slice (some ⟨g5, o5, none⟩) (nr5 + 1) c5) := hn2 ▸ (cell_of_row w5 _ 0 _ _ _ hpl5).trans rfl
        have f5 := frozen_blkR (j := 0) hpl5
        clear hq5 hq5b hc5 ht5 hM5 hk5 hpl5 hA5 hs2 hn2 hnr5
        go_wp2_with fail
        · go_roundg (gk - 1)
          case measure => omega
          case rel =>
            have hW := HSS.out
            have hs := Gr.setS (Gr.refl (s + 1 + 1 + 1) w5) (p := ⟨s + 1 + 1 + 1, 0, none⟩) (Or.inl rfl) (.slice (some ⟨g5, o5, none⟩) nr5 0)
            have hkx := HK5.out.nx_of HNW4.out (by omega) (by omega) (fun k hk => by injection hk with hk; have hk : gq = k := hk; have := (HQLT.out gq rfl).1; omega)
            have hkc : ∀ (i : Nat) (u : Value), w4.cell? ⟨i, 0, none⟩ = some u → (i = s ∨ i = s + 1 + 1) → (w5.setCell ⟨s + 1 + 1 + 1, 0, none⟩ (.slice (some ⟨g5, o5, none⟩) nr5 0)).cell? ⟨i, 0, none⟩ = some u := fun i u hu hi => by
              have h4 := HSZ4.out
              have h5 := (HQLT.out gq rfl).1
              exact World.grownBy.cell (row := some (s + 1 + 1 + 1)) hs (HK5.out.cell hu (by show i < _; omega) (by show i ≠ _; omega) (by show i ≠ _; omega) (by simp [blkOf]; show gq ≠ i; omega)) (by simp; omega)
            refine ⟨v ++ new, v.drop (pos + 1) ++ new, pos + 1, S1.1, some ⟨g5, o5, none⟩, 0, N + nl, (List.drop_append_of_le_length (by omega)).symm, HNEW2.out, by omega, by omega, Nx.setCell hkx (p := ⟨s + 1 + 1 + 1, 0, none⟩) (by show w.heap.size ≤ s + 1 + 1 + 1; omega) _, ⟨hkc _ _ HX4.out.1 (.inl rfl), hkc _ _ HX4.out.2 (.inr rfl)⟩, ?_, HM5.out.gr hs (by omega), (HT5.out.2 (by omega)).gr hs (by omega), ?_⟩
            · rw [← HNR5.out]
              exact heap_set HPL5.out
            · have := HK5.out.sz
              have := HSZ4.out
              have := hs.sz
              omega
        · go_roundg (gk - 1)
          case measure => omega
          case rel =>
            have hW := HSS.out
            have hs := Gr.setS (Gr.refl (s + 1 + 1 + 1) w5) (p := ⟨s + 1 + 1 + 1, 0, none⟩) (Or.inl rfl) (.slice (some ⟨g5, o5 + 1, none⟩) nr5 (c5 - 1))
            have hkx := HK5.out.nx_of HNW4.out (by omega) (by omega) (fun k hk => by injection hk with hk; have hk : gq = k := hk; have := (HQLT.out gq rfl).1; omega)
            have hkc : ∀ (i : Nat) (u : Value), w4.cell? ⟨i, 0, none⟩ = some u → (i = s ∨ i = s + 1 + 1) → (w5.setCell ⟨s + 1 + 1 + 1, 0, none⟩ (.slice (some ⟨g5, o5 + 1, none⟩) nr5 (c5 - 1))).cell? ⟨i, 0, none⟩ = some u := fun i u hu hi => by
              have h4 := HSZ4.out
              have h5 := (HQLT.out gq rfl).1
              exact World.grownBy.cell (row := some (s + 1 + 1 + 1)) hs (HK5.out.cell hu (by show i < _; omega) (by show i ≠ _; omega) (by show i ≠ _; omega) (by simp [blkOf]; show gq ≠ i; omega)) (by simp; omega)
            refine ⟨v ++ new, v.drop (pos + 1) ++ new, pos + 1, S1.1, some ⟨g5, o5 + 1, none⟩, (c5 - 1), N + nl, (List.drop_append_of_le_length (by omega)).symm, HNEW2.out, by omega, by omega, Nx.setCell hkx (p := ⟨s + 1 + 1 + 1, 0, none⟩) (by show w.heap.size ≤ s + 1 + 1 + 1; omega) _, ⟨hkc _ _ HX4.out.1 (.inl rfl), hkc _ _ HX4.out.2 (.inr rfl)⟩, ?_, HM5.out.gr hs (by omega), HT5.out.1.gr hs (by omega), ?_⟩
            · rw [← HNR5.out]
              exact heap_set HPL5.out
            · have := HK5.out.sz
              have := HSZ4.out
              have := hs.sz
              omega
    · have hq0 : q = [] := by rw [HQ.out]; exact List.drop_eq_nil_of_le (by omega)
      have hnone : ¬ connP ns rs bs a b wo := by
        have h := HI.out
        obtain rfl : pos = v.length := by omega
        exact h.none
      have HNO := hide hnone
      clear hnone hN
      subst hq0
      go_wp2_with fail
      go_ret2
      exact ⟨HNW.out, .inr ⟨rfl, HNO.out⟩⟩
end
end Go.Proofs.YtmpnilliichpfaaGreatDoor
