/- Roads without some arcs: the program's Without, for right arguments. -/
import Derived.Test.YtepbamacebjopaaGreatDoorQG23
import Derived.Test.YtepbamacebjopaaGreatDoorQG8
import Derived.Test.YtepbamacebjopaaGreatDoorQG18
import Derived.Test.YtepbamacebjopaaGreatDoorQG12
import Derived.Deep.DeepCutAuto
import Derived.Deep.DeepMust
import Derived.Test.YtepbamacebjopaaGreatDoorQG2
import Derived.Test.YtepbamacebjopaaGreatDoorQG15
import Derived.Deep.AppendLies
import Derived.Test.YtepbamacebjopaaGreatDoorQG5
import Derived.Test.YtepbamacebjopaaGreatDoorQG17
import Derived.Test.YtepbamacebjopaaGreatDoorQG0
namespace Go.Proofs.YtepbamacebjopaaGreatDoor
open Go.RowKit

theorem own_neW {w : World} {base : Nat} {e t : TypeId} {K n : Nat} {v : Value} {xs : List Value} {G : Nat} {cs : Array Value} (h : w.ownsRow base e K v n xs) (hb : w.heap[G]? = some (.cells cs t (0, 0))) (hne : t ≠ e) : v.ownBlock ≠ some G := by
  rcases h.2 with ⟨rfl, _⟩ | ⟨g, cap, cur, rfl, _, hg, _⟩
  · intro e; cases e
  · intro e
    injection e with e
    subst e
    rw [hb] at hg
    injection hg with hg
    injection hg with _ h2 _
    exact hne h2
/-- What Without answers. -/
def LessOut (ns : List Node) (rs : List Arc) (bs : List Ban) (l : List ByteArray) (w : World) (e : Ending) (w' : World) : Prop := ∃ (vN vA vB : Value) (rs' : List Arc), e = .returned (.tuple #[.agg #[vN, vA, vB], .int .i64 0]) ∧ OwnR w' w.heap.size vN vA vB ns rs' (lessB bs (memS l)) ∧ rs'.map coreA = (lessA rs (memS l)).map coreA ∧ Nx w w'
theorem lessA_take (rs : List Arc) (g : ByteArray → Bool) (k : Nat) (hk : k < rs.length) : lessA (rs.take (k + 1)) g = lessA (rs.take k) g ++ (if g rs[k].key = true then [] else [rs[k]]) := by
  unfold lessA
  rw [List.take_succ_eq_append_getElem hk, List.filter_append]
  cases h : g rs[k].key <;> simp [h]
theorem lessB_take (bs : List Ban) (g : ByteArray → Bool) (k : Nat) (hk : k < bs.length) : lessB (bs.take (k + 1)) g = lessB (bs.take k) g ++ (if (!g bs[k].from_ && !g bs[k].to_) = true then [bs[k]] else []) := by
  unfold lessB
  rw [List.take_succ_eq_append_getElem hk, List.filter_append]
  cases h : (!g bs[k].from_ && !g bs[k].to_)
  · simp only [List.filter_cons, h]; simp
  · simp only [List.filter_cons, h]; simp
set_option maxRecDepth 100000 in
set_option maxHeartbeats 8000000 in
theorem w_Without (lo : Nat) (A B C : Option Addr) (ca cb cc : Nat) (ns : List Node) (rs : List Arc) (bs : List Ban) (lo2 : Nat) (D : Option Addr) (cd : Nat) (l : List ByteArray) (w : World)
    (hN : Rd w lo A 3 encNode ns) (hA : RdArcs w lo B rs) (hB : Rd w lo C 2 encBan bs) (hnl : ns.length ≤ 400) (hal : rs.length ≤ 400) (hbl : bs.length ≤ 400)
    (hS : SmallN ns) (hF : roadsF ns rs bs = 0) (hD : Rd w lo2 D 1 encS l) (hl : l.length ≤ 400) (hls : ∀ s ∈ l, 0 ≤ arcI rs s) (hso : l.Pairwise ltS) :
    Calls Tryz.prog 12 #[.agg #[.slice A ns.length ca, .slice B rs.length cb, .slice C bs.length cc], .slice D l.length cd] w (LessOut ns rs bs l w) := by
  obtain ⟨wa, hwa⟩ : ∃ wa, wa = ((w.alloc (.cells #[.slice A ns.length ca, .slice B rs.length cb, .slice C bs.length cc] 30)).alloc (.cells #[.slice D l.length cd] 34)).alloc (.cells #[.slice none 0 0, .slice none 0 0, .slice none 0 0] 30) := ⟨_, rfl⟩
  have hna : Nx w wa := hwa ▸ (((Nx.refl w).alloc _).alloc _).alloc _
  have hsz : wa.heap.size = w.heap.size + 3 := by rw [hwa]; simp
  have b0 : wa.cell? ⟨w.heap.size, 0, none⟩ = some (.slice A ns.length ca) := by rw [hwa]; go_simp
  have b1 : wa.cell? ⟨w.heap.size, 1, none⟩ = some (.slice B rs.length cb) := by rw [hwa]; go_simp
  have b2 : wa.cell? ⟨w.heap.size, 2, none⟩ = some (.slice C bs.length cc) := by rw [hwa]; go_simp
  have q0 : wa.cell? ⟨w.heap.size + 1, 0, none⟩ = some (.slice D l.length cd) := by rw [hwa]; go_simp
  have r0 : wa.heap[w.heap.size + 1 + 1]? = some (.cells #[.slice none 0 0, .slice none 0 0, .slice none 0 0] 30 (0, 0)) := by rw [hwa]; exact hnew (by simp)
  have HBX := hide (fun W (hx : Nx wa W) => (⟨nx_cell hx (by omega) b0, nx_cell hx (by omega) b1, nx_cell hx (by omega) b2, nx_cell hx (by omega) q0⟩ : W.cell? ⟨w.heap.size, 0, none⟩ = some (.slice A ns.length ca) ∧ W.cell? ⟨w.heap.size, 1, none⟩ = some (.slice B rs.length cb) ∧ W.cell? ⟨w.heap.size, 2, none⟩ = some (.slice C bs.length cc) ∧ W.cell? ⟨w.heap.size + 1, 0, none⟩ = some (.slice D l.length cd)))
  have HR0 := hide (fun W (hx : Nx wa W) => (hx.block _ (by omega)).trans r0)
  have HC := hF ▸ w_CheckRoads lo lo lo A B C ca cb cc ns rs bs wa (hN.nx hna) hS hnl (hA.nx hna) hal (hB.nx hna) hbl
  have HC := hide HC
  obtain ⟨f1, f2, f3⟩ := roads_ok hF
  have HAR := hide (fun s W (hx : Nx wa W) => w_arcR w.heap.size lo B cb rs s W (HBX.out W hx).2.1 (hA.1.nx (hna.trans hx)) (by omega) (sortA_of f2))
  have HGO := hide (fun s W (hx : Nx wa W) => w_gone (w.heap.size + 1) lo2 D cd l s W (HBX.out W hx).2.2.2 (hD.nx (hna.trans hx)) (by omega) hso)
  have HCN := hide (fun W (hx : Nx wa W) => w_CloneN lo A ca ns W (hN.nx (hna.trans hx)) (by omega))
  have HAA := hide (fun W (hx : Nx wa W) => hA.nx (hna.trans hx))
  have HBB := hide (fun W (hx : Nx wa W) => hB.nx (hna.trans hx))
  have hgd : ∀ (k : Nat) (hk : k < l.length), l.getD k default = l[k] := fun k hk => by rw [List.getD_eq_getElem?_getD, List.getElem?_eq_getElem hk]; rfl
  have HDD := hide (fun W (hx : Nx wa W) (k : Nat) (hk : k < l.length) => (show ∃ b off, D = some ⟨b, off, none⟩ ∧ b < W.heap.size ∧ ∀ j, j < l.length → W.cell? ⟨b, off + j, none⟩ = some (.string (l.getD j default)) from by
    obtain ⟨b, off, e, _, _, hb, hc⟩ := (hD.nx (hna.trans hx)).open_ (Nx.refl W) (by omega)
    exact ⟨b, off, e, hb, fun j hj => by rw [hgd j hj]; simpa using hc j hj 0 _ rfl⟩))
  have HSM := hide (fun a (ha : a ∈ rs) => (⟨(hA.2 a ha).2.1, (hA.2 a ha).2.2, by
    obtain ⟨i, hi, e⟩ := List.mem_iff_getElem.1 ha
    have h := arc_right f2 hi
    rw [show arcX rs i = a from (arcX_get hi).trans e] at h
    obtain ⟨j, hj, _, e2⟩ := node_found h.1
    exact e2 ▸ hS _ (mem_getD hj), by
    obtain ⟨i, hi, e⟩ := List.mem_iff_getElem.1 ha
    have h := arc_right f2 hi
    rw [show arcX rs i = a from (arcX_get hi).trans e] at h
    obtain ⟨j, hj, _, e2⟩ := node_found h.2.1
    exact e2 ▸ hS _ (mem_getD hj)⟩ : SmA a))
  have HLS := hide (fun (k : Nat) (hk : k < l.length) => (show 0 ≤ arcI rs (l.getD k default) from hgd k hk ▸ hls l[k] (List.getElem_mem hk)))
  have HOR := hide (fun (k : Nat) (h0 : 0 < k) (hk : k < l.length) => (show strLe (l.getD k default) (l.getD (k - 1) default) = false from by
    rw [hgd k hk, hgd (k - 1) (by omega)]
    have h := List.pairwise_iff_getElem.1 hso (k - 1) k (by omega) hk (by omega)
    exact lt_strLe h))
  have HNA := hide hna
  have HSN := hide hS
  have HWA := hide hwa
  clear hwa hN hA hB hD hF hls hso hgd f1 f2 f3 hna b0 b1 b2 q0 r0 hS
  generalize hg0 : lessB bs (memS l) = lB at *
  have HLB := hide hg0
  clear hg0
  go_enter Tryz.func12, Tryz.ntmps12
  go_upto_region 1 with fail
  rw [← HWA.out]
  obtain ⟨c0, c1, c2, c3⟩ := HBX.out wa (Nx.refl _)
  go_wp2_with fail
  refine HC.out.mono ?_
  rintro e w1 ⟨rfl, hn1⟩
  have tn : decide ((l.length : Int) > 2000) = false := decide_eq_false (by omega)
  clear c0 c1 c2 c3
  obtain ⟨c0, c1, c2, c3⟩ := HBX.out w1 hn1
  go_wp2_with fail
  clear c0 c1 c2 c3 tn
  generalize hnn : l.length = n at *
  have HNN := hide hnn
  clear hnn
  go_loopw [27] (fun i wr => ∃ k : Nat, k ≤ n ∧ i = .int .i64 k ∧ Nx wa wr) (fun i _ => n - (intOf i).toNat)
  case atStart => exact ⟨0, Nat.zero_le _, rfl, hn1⟩
  case round =>
    clear hn1
    obtain ⟨k, hk, rfl, hbw⟩ := hrel
    by_cases hlt : k < n
    · obtain ⟨db, doff, eD, hdb, hdc⟩ := HDD.out wr hbw k hlt
      have ck := hdc k hlt
      obtain ⟨c0, c1, c2, c3⟩ := HBX.out wr hbw
      have har := HAR.out (l.getD k default) wr hbw
      have hz := HLS.out k hlt
      by_cases hk0 : k = 0
      · subst hk0
        generalize l.getD 0 default = s at *
        generalize arcI rs s = z at *
        have tz : decide (z < 0) = false := decide_eq_false (by omega)
        have ck0 : wr.cell? ⟨db, doff, none⟩ = some (.string s) := by simpa using ck
        have HA1 := hide har
        clear hdc har hz ck
        subst eD
        go_wp2_with (go_at_call 42; go_must (refine HA1.out.mono ?_); rintro e w2 ⟨rfl, hn2⟩)
        go_roundw
        case rel => exact ⟨0 + 1, by omega, by go_num, hbw.trans hn2⟩
        case measure => simp [intOf]; omega
      · have ckp := hdc (k - 1) (by omega)
        have hor := HOR.out k (by omega) hlt
        have W1 : IntKind.i64.wrap ((k : Int) - 1) = ((k - 1 : Nat) : Int) := by rw [show ((k - 1 : Nat) : Int) = (k : Int) - 1 by omega]; exact IntWalk.i64_in _ (by omega)
        generalize hk1 : k - 1 = k1 at *
        generalize l.getD k default = s at *
        generalize l.getD k1 default = s1 at *
        generalize arcI rs s = z at *
        have tz : decide (z < 0) = false := decide_eq_false (by omega)
        have tk : decide ((k : Int) > 0) = true := decide_eq_true (by omega)
        have t1 : (Op.bytesLess s.toList s1.toList || s.toList == s1.toList) = false := hor
        have k1n : k1 < n := by omega
        have hkp : 0 < k := by omega
        have HA1 := hide har
        have HK1 := hide hk1
        have HKP := hide (fun W (hx : Nx wr W) => (⟨nx_cell hx hdb ckp, (HBX.out W (hbw.trans hx)).2.2.2⟩ : W.cell? ⟨db, doff + k1, none⟩ = some (.string s1) ∧ W.cell? ⟨w.heap.size + 1, 0, none⟩ = some (.slice D n cd)))
        clear hdc har hz hor hk1 ckp hk0
        subst eD
        go_wp2_with (go_at_call 42; go_must (refine HA1.out.mono ?_); rintro e w2 ⟨rfl, hn2⟩; (obtain ⟨p1, p2⟩ := HKP.out w2 hn2))
        go_roundw
        case rel => exact ⟨k + 1, by omega, by go_num, hbw.trans hn2⟩
        case measure => simp [intOf]; omega
    · obtain ⟨c0, c1, c2, c3⟩ := HBX.out wr hbw
      have hcn := HCN.out wr hbw
      have HCN1 := hide hcn
      clear hcn
      go_wp2_with fail
      refine HCN1.out.mono ?_
      rintro e w2 ⟨vN, rfl, hoN, hn2⟩
      have hnw2 := hbw.trans hn2
      have hbs := hbw.sz
      obtain ⟨N1, cN, rfl, _, _⟩ := Rd.of_own encNode_len rfl hoN
      obtain ⟨wb, hwb⟩ : ∃ wb, wb = w2.alloc (.cells #[.slice N1 ns.length cN, .slice none 0 0, .slice none 0 0] 30) := ⟨_, rfl⟩
      have hn2b : Nx w2 wb := hwb ▸ (Nx.refl w2).alloc _
      have hob : wb.heap[w2.heap.size]? = some (.cells #[.slice N1 ns.length cN, .slice none 0 0, .slice none 0 0] 30 (0, 0)) := by rw [hwb]; exact hnew rfl
      have hoNb := own_nx (World.ownsRow.mono hoN (show w.heap.size + 3 ≤ wr.heap.size by omega)) hn2b
      have hsb : wa.heap.size ≤ w2.heap.size ∧ wb.heap.size = w2.heap.size + 1 := ⟨hnw2.sz, by rw [hwb]; simp⟩
      have HNB := hide (hnw2.trans hn2b)
      have HOB := hide hob
      have HON := hide hoNb
      have HWB := hide hwb
      have HSB := hide hsb
      clear hwb hob hoNb hoN hnw2 hn2 hn2b hbw hlt c0 c1 c2 c3 HCN1 HCN HLS HOR HAR HC hbs hsb
      go_upto_region 16 with fail
      rw [← HWB.out]
      generalize hobn : w2.heap.size = ob at *
      have HOBN := hide hobn
      clear hobn
      obtain ⟨c0, c1, c2, c3⟩ := HBX.out wb HNB.out
      go_wp2_with fail
      clear c0 c1 c2 c3
      generalize hnr : rs.length = nr at *
      have HNR := hide hnr
      clear hnr
      go_loopw [57] (fun i wr => ∃ (k : Nat) (vA : Value) (rk : List Arc), k ≤ nr ∧ i = .int .i64 k ∧ Nx wa wr ∧ wr.heap[ob]? = some (.cells #[.slice N1 ns.length cN, vA, .slice none 0 0] 30 (0, 0)) ∧ OwnR wr (ob + 1) (.slice none 0 0) vA (.slice none 0 0) [] rk [] ∧ wr.ownsRow (w.heap.size + 3) 74 3 (.slice N1 ns.length cN) ns.length (ns.flatMap encNode) ∧ rk.map coreA = (lessA (rs.take k) (memS l)).map coreA ∧ rk.length ≤ k) (fun i _ => nr - (intOf i).toNat)
      case atStart => exact ⟨0, .slice none 0 0, [], Nat.zero_le _, rfl, HNB.out, HOB.out, OwnR.nil _ _, HON.out, by simp [lessA], Nat.le_refl _⟩
      case round =>
        clear HNB HOB HON HWB
        obtain ⟨k, vA, rk, hk, rfl, hbw, hob, hown, hoN, hcore, hrkl⟩ := hrel
        have HOB := hide hob
        have HOW := hide hown
        have HON := hide hoN
        have HCO := hide hcore
        have HNW := hide hbw
        have hobl : ob < wr.heap.size := (Array.getElem?_eq_some_iff.1 hob).1
        have o1 : wr.cell? ⟨ob, 1, none⟩ = some vA := (cell_of_row wr ob 1 _ _ _ hob).trans rfl
        have HO1 := hide o1
        clear hob hown hoN hcore o1
        by_cases hlt : k < nr
        · have hlt' : k < rs.length := by have := HNR.out; omega
          obtain ⟨ab, aoff, eA, _, _, hab, hac⟩ := (HAA.out wr hbw).1.open_ (Nx.refl _) (by have := HNR.out; omega)
          have k0 : wr.cell? ⟨ab, aoff + k * 5, none⟩ = some (.string rs[k].key) := hac k hlt' 0 _ rfl
          have k1 : wr.cell? ⟨ab, aoff + k * 5 + 1, none⟩ = some (.string rs[k].from_) := hac k hlt' 1 _ rfl
          have k2 : wr.cell? ⟨ab, aoff + k * 5 + 2, none⟩ = some (.string rs[k].to_) := hac k hlt' 2 _ rfl
          have k3 : wr.cell? ⟨ab, aoff + k * 5 + 3, none⟩ = some (.int .i64 rs[k].long) := hac k hlt' 3 _ rfl
          have k4 : wr.cell? ⟨ab, aoff + k * 5 + 4, none⟩ = some (.slice rs[k].ka rs[k].knots.length rs[k].kc) := hac k hlt' 4 _ rfl
          have HKN := hide (fun W (hx : Nx wr W) => ((HAA.out W (hbw.trans hx)).2 rs[k] (List.getElem_mem hlt')))
          have HSA := hide (HSM.out rs[k] (List.getElem_mem hlt'))
          have HTK := hide (lessA_take rs (memS l) k hlt')
          clear hac hab
          generalize rs[k] = x at *
          subst eA
          obtain ⟨w3, hw3⟩ : ∃ w3, w3 = wr.alloc (.cells #[.string x.key, .string x.from_, .string x.to_, .int .i64 x.long, .slice x.ka x.knots.length x.kc] 37) := ⟨_, rfl⟩
          have hn3 : Nx wr w3 := hw3 ▸ (Nx.refl wr).alloc _
          have hP : w3.heap[wr.heap.size]? = some (.cells #[.string x.key, .string x.from_, .string x.to_, .int .i64 x.long, .slice x.ka x.knots.length x.kc] 37 (0, 0)) := by rw [hw3]; exact hnew rfl
          have hPl : wr.heap.size < w3.heap.size := by rw [hw3]; simp
          have HP := hide hP
          have HW3 := hide hw3
          have HG := hide (HGO.out x.key w3 (hbw.trans hn3))
          have p0 : w3.cell? ⟨wr.heap.size, 0, none⟩ = some (.string x.key) := (cell_of_row w3 _ 0 _ _ _ hP).trans rfl
          clear hP hw3
          go_upto_region 19 with fail
          rw [← HW3.out]
          clear k0 k1 k2 k3 k4 HW3
          generalize hPn : wr.heap.size = P at *
          have HPN := hide hPn
          clear hPn
          cases hm : memS l x.key
          · rw [hm] at HG
            have HTK2 := hide (HTK.out.trans (by rw [hm]; simp : _ = lessA (rs.take k) (memS l) ++ [x]))
            clear hm
            go_wp2_with fail
            refine HG.out.mono ?_
            rintro e w4 ⟨rfl, hn4⟩
            have hP4 := (hn4.block P (by have := HPN.out; omega)).trans HP.out
            have p4 : w4.cell? ⟨P, 4, none⟩ = some (.slice x.ka x.knots.length x.kc) := (cell_of_row w4 _ 4 _ _ _ hP4).trans rfl
            have hkn := HKN.out w4 (hn3.trans hn4)
            have HCK := hide (w_CloneK lo x.ka x.kc x.knots w4 hkn.1 (by omega))
            have HP4 := hide hP4
            clear hkn hP4 p0
            go_wp2_with fail
            refine HCK.out.mono ?_
            rintro e w5 ⟨vK, rfl, hoK, hn5⟩
            obtain ⟨K1, cK, rfl, _, _⟩ := Rd.of_own encKnot_len rfl hoK
            have hz4 := hn4.sz
            have hz5 := hn5.sz
            have hP5 := (hn5.block P (by have := HPN.out; omega)).trans HP4.out
            have y4 : w5.cell? ⟨P, 4, none⟩ = some (.slice x.ka x.knots.length x.kc) := (cell_of_row w5 _ 4 _ _ _ hP5).trans rfl
            have yf := frozen_blk (j := 4) hP5
            obtain ⟨w6, hw6⟩ : ∃ w6, w6 = w5.setCell ⟨P, 4, none⟩ (.slice K1 x.knots.length cK) := ⟨_, rfl⟩
            have hn35 := (hn3.trans hn4).trans hn5
            have hn6 : Nx wr w6 := hw6 ▸ Nx.setCell hn35 (p := ⟨P, 4, none⟩) (by show wr.heap.size ≤ P; have := HPN.out; omega) _
            have hg6 : Gr P w5 w6 := hw6 ▸ Gr.setS (Gr.refl P w5) (p := ⟨P, 4, none⟩) (Or.inl rfl) _
            have hP6 : w6.heap[P]? = some (.cells #[.string x.key, .string x.from_, .string x.to_, .int .i64 x.long, .slice K1 x.knots.length cK] 37 (0, 0)) := by rw [hw6]; exact heap_set hP5
            have hoK6 := own_gr hoK hg6 (by have := HPN.out; omega)
            have HOK6 := hide (World.ownsRow.mono hoK6 (show ob + 1 ≤ w4.heap.size by have := HPN.out; omega))
            have hob6 := (hn6.block ob (by have := HPN.out; omega)).trans HOB.out
            have HOB6 := hide hob6
            have HN6 := hide hn6
            have HW6 := hide hw6
            have o6 : w6.cell? ⟨ob, 1, none⟩ = some vA := (cell_of_row w6 ob 1 _ _ _ hob6).trans rfl
            have z0 : w6.cell? ⟨P, 0, none⟩ = some (.string x.key) := (cell_of_row w6 _ 0 _ _ _ hP6).trans rfl
            have z1 : w6.cell? ⟨P, 1, none⟩ = some (.string x.from_) := (cell_of_row w6 _ 1 _ _ _ hP6).trans rfl
            have z2 : w6.cell? ⟨P, 2, none⟩ = some (.string x.to_) := (cell_of_row w6 _ 2 _ _ _ hP6).trans rfl
            have z3 : w6.cell? ⟨P, 3, none⟩ = some (.int .i64 x.long) := (cell_of_row w6 _ 3 _ _ _ hP6).trans rfl
            have z4 : w6.cell? ⟨P, 4, none⟩ = some (.slice K1 x.knots.length cK) := (cell_of_row w6 _ 4 _ _ _ hP6).trans rfl
            have HZS := hide (show ob + 1 ≤ w6.heap.size by have := hn6.sz; have := HPN.out; omega)
            clear hoK hoK6 hob6 hP5 hP6 hg6 hn6 hw6 hn35
            go_upto_region 21 with fail
            rw [← HW6.out]
            clear p4 y4 yf
            have hO6 := HOW.out.nx HN6.out
            have HO6 := hide hO6
            have hvb : ∀ i, vA.ownBlock = some i → ob + 1 ≤ i := own_blk_lt hO6.rowA
            have HVB := hide hvb
            have hw6s := HN6.out.sz
            have hrk : rk.length ≤ 400 := by omega
            clear hO6 hvb
            go_wp2_with (at_builtin; go_must (refine wpApp2 rfl _ _ _ rfl el_ArcO encArc encArc_len encArc_one (by omega) (by omega) (ob + 1) _ rk rfl (HO6.out.rowA.alloc _) _ ({ x with ka := K1, kc := cK } : Arc) _ rfl (hnew rfl) rfl (by omega) (by have := HZS.out; simp; omega) ?_); intro v9 w9 hown9 hg9 _; (obtain ⟨A9, c9, e9, _, _⟩ := Rd.of_own encArc_len rfl hown9); (obtain ⟨nL, hnL⟩ : ∃ nL, nL = (rk ++ [({ x with ka := K1, kc := cK } : Arc)]).length := ⟨_, rfl⟩); (rw [← hnL] at e9); (subst e9); (have HNL := hide hnL); (clear hnL); (have HO9 := hide hown9); (have HG9 := hide hg9); (have hob9 := (hg9.block ob (Nat.lt_of_lt_of_le (Array.getElem?_eq_some_iff.1 HOB6.out).1 ((Nx.refl w6).alloc _).sz) (fun e => by have := HVB.out ob e.symm; omega)).trans ((((Nx.refl w6).alloc _).block ob (Array.getElem?_eq_some_iff.1 HOB6.out).1).trans HOB6.out)); (have HOB9 := hide hob9); (have y9 : w9.cell? ⟨ob, 1, none⟩ = some vA := (cell_of_row w9 ob 1 _ _ _ hob9).trans rfl); (have yf9 := frozen_blk (j := 1) hob9); clear hown9 hg9 hob9)
            go_roundw
            case rel =>
              have hs := Gr.setS (Gr.refl ob w9) (p := ⟨ob, 1, none⟩) (Or.inl rfl) (.slice A9 nL c9)
              have hN9 : Nx wa w9 := ((HNW.out.trans HN6.out).alloc _).grown HG9.out (fun i hi => by have := HVB.out i hi; have := HSB.out; have := HOBN.out; omega)
              have hO9 : OwnR w9 (ob + 1) (.slice none 0 0) (.slice A9 nL c9) (.slice none 0 0) [] (rk ++ [({ x with ka := K1, kc := cK } : Arc)]) [] := (HO6.out.nx ((Nx.refl w6).alloc _)).appA HG9.out HO9.out (fun a ha => by
                rcases List.mem_append.1 ha with ha | ha
                · exact ⟨HO6.out.smA a ha, own_nx (HO6.out.each a ha) ((Nx.refl w6).alloc _)⟩
                · rw [List.mem_singleton.1 ha]
                  exact ⟨⟨HSA.out.1, HSA.out.2.1, HSA.out.2.2.1, HSA.out.2.2.2⟩, own_nx HOK6.out ((Nx.refl w6).alloc _)⟩)
              have hoN9 := (own_nx (own_nx HON.out HN6.out) ((Nx.refl w6).alloc (.cells #[.string x.key, .string x.from_, .string x.to_, .int .i64 x.long, .slice K1 x.knots.length cK] 37))).kept HG9.out (own_apart (own_nx HON.out HN6.out) HO6.out.rowA (by decide))
              refine ⟨k + 1, .slice A9 nL c9, rk ++ [({ x with ka := K1, kc := cK } : Arc)], by omega, by go_num, Nx.setCell hN9 (p := ⟨ob, 1, none⟩) (by show wa.heap.size ≤ ob; have := HSB.out; have := HOBN.out; omega) _, heap_set HOB9.out, hO9.gr hs (by omega), hoN9.kept (row := some ob) hs (.inr (own_neW hoN9 HOB9.out (by decide))), ?_, by rw [List.length_append]; simp; omega⟩
              rw [HTK2.out, List.map_append, List.map_append, HCO.out]
              rfl
            case measure => simp [intOf]; omega
          · rw [hm] at HG
            have HTK2 := hide (HTK.out.trans (by rw [hm]; simp : _ = lessA (rs.take k) (memS l)))
            clear hm
            go_wp2_with fail
            refine HG.out.mono ?_
            rintro e w4 ⟨rfl, hn4⟩
            have hn34 := hn3.trans hn4
            go_wp2_with fail
            go_roundw
            case rel => exact ⟨k + 1, vA, rk, by omega, by go_num, hbw.trans hn34, (hn34.block ob (by have := HPN.out; omega)).trans HOB.out, HOW.out.nx hn34, own_nx HON.out hn34, by rw [HTK2.out]; exact HCO.out, by omega⟩
            case measure => simp [intOf]; omega
        · obtain rfl : nr = k := by omega
          have hcore := HCO.out
          rw [← HNR.out, List.take_length] at hcore
          have HCO := hide hcore
          have HRM := hide (show rk.length = (lessA rs (memS l)).length by have := congrArg List.length hcore; simpa using this)
          obtain ⟨c0, c1, c2, c3⟩ := HBX.out wr hbw
          have o1 := HO1.out
          have hown := HOW.out
          obtain ⟨A1, cA, rfl, _, _⟩ := Rd.of_own encArc_len rfl hown.rowA
          clear hcore hrkl hlt
          go_upto_region 23 with fail
          go_wp2_with fail
          clear c0 c1 c2 c3 o1 HO1
          obtain ⟨wv, hwv⟩ : ∃ wv, wv = wr := ⟨_, rfl⟩
          subst hwv
          generalize hnb : bs.length = nb at *
          have HNB2 := hide hnb
          have HOW := hide hown
          clear hnb hown hobl hbw
          generalize hra : rk.length = nA at *
          have HRA := hide hra
          clear hra
          go_loopw [80] (fun i wr => ∃ (k : Nat) (vB : Value) (bk : List Ban), k ≤ nb ∧ i = .int .i64 k ∧ Nx wa wr ∧ wr.heap[ob]? = some (.cells #[.slice N1 ns.length cN, .slice A1 nA cA, vB] 30 (0, 0)) ∧ OwnR wr (ob + 1) (.slice none 0 0) (.slice A1 nA cA) vB [] rk bk ∧ wr.ownsRow (w.heap.size + 3) 74 3 (.slice N1 ns.length cN) ns.length (ns.flatMap encNode) ∧ bk = lessB (bs.take k) (memS l) ∧ bk.length ≤ k) (fun i _ => nb - (intOf i).toNat)
          case atStart => exact ⟨0, .slice none 0 0, [], Nat.zero_le _, rfl, HNW.out, HOB.out, HOW.out, HON.out, by simp [lessB], Nat.le_refl _⟩
          case round =>
            clear HOB HOW HON HNW
            obtain ⟨k, vB, bk, hk, rfl, hbw, hob, hown, hoN, hbk, hbkl⟩ := hrel
            have HOB := hide hob
            have HOW := hide hown
            have HON := hide hoN
            have HBK := hide hbk
            have HNW := hide hbw
            have hobl : ob < wr.heap.size := (Array.getElem?_eq_some_iff.1 hob).1
            have o2 : wr.cell? ⟨ob, 2, none⟩ = some vB := (cell_of_row wr ob 2 _ _ _ hob).trans rfl
            have HO2 := hide o2
            clear hown hoN hbk o2
            by_cases hlt : k < nb
            · clear hob
              have hlt' : k < bs.length := by have := HNB2.out; omega
              obtain ⟨bb, boff, eB, _, _, hbb, hbc⟩ := (HBB.out wr hbw).open_ (Nx.refl _) (by have := HNB2.out; omega)
              have k0 : wr.cell? ⟨bb, boff + k * 2, none⟩ = some (.string bs[k].from_) := hbc k hlt' 0 _ rfl
              have k1 : wr.cell? ⟨bb, boff + k * 2 + 1, none⟩ = some (.string bs[k].to_) := hbc k hlt' 1 _ rfl
              have HTK := hide (lessB_take bs (memS l) k hlt')
              clear hbc hbb
              generalize bs[k] = x at *
              subst eB
              obtain ⟨w3, hw3⟩ : ∃ w3, w3 = wr.alloc (.cells #[.string x.from_, .string x.to_] 80) := ⟨_, rfl⟩
              have hn3 : Nx wr w3 := hw3 ▸ (Nx.refl wr).alloc _
              have hP : w3.heap[wr.heap.size]? = some (.cells #[.string x.from_, .string x.to_] 80 (0, 0)) := by rw [hw3]; exact hnew rfl
              have HP := hide hP
              have HW3 := hide hw3
              have HN3 := hide hn3
              have HPX := hide (fun W (hx : Nx w3 W) => (hx.block wr.heap.size (by rw [hw3]; simp)).trans hP)
              have HG := hide (fun s W (hx : Nx w3 W) => HGO.out s W ((hbw.trans hn3).trans hx))
              have p0 : w3.cell? ⟨wr.heap.size, 0, none⟩ = some (.string x.from_) := (cell_of_row w3 _ 0 _ _ _ hP).trans rfl
              clear hP hw3
              go_upto_region 26 with fail
              rw [← HW3.out]
              clear k0 k1 HW3
              generalize hPn : wr.heap.size = P at *
              have HPN := hide hPn
              clear hPn
              cases hm : memS l x.from_
              · have HG1 := hide (hm ▸ HG.out x.from_ w3 (Nx.refl _))
                cases hm2 : memS l x.to_
                · have HTK2 := hide (HTK.out.trans (by rw [hm, hm2]; simp : _ = lessB (bs.take k) (memS l) ++ [x]))
                  have HG2 := hide (fun W hx => hm2 ▸ HG.out x.to_ W hx)
                  clear hm hm2
                  go_wp2_with fail
                  refine HG1.out.mono ?_
                  rintro e w4 ⟨rfl, hn4⟩
                  have p1 : w4.cell? ⟨P, 1, none⟩ = some (.string x.to_) := (cell_of_row w4 _ 1 _ _ _ (HPX.out w4 hn4)).trans rfl
                  go_wp2_with fail
                  refine (HG2.out w4 hn4).mono ?_
                  rintro e w6 ⟨rfl, hn5⟩
                  have hn6 := (HN3.out.trans hn4).trans hn5
                  have HN6 := hide hn6
                  have hob6 := (hn6.block ob (by have := HPN.out; omega)).trans HOB.out
                  have HOB6 := hide hob6
                  have o6 : w6.cell? ⟨ob, 2, none⟩ = some vB := (cell_of_row w6 ob 2 _ _ _ hob6).trans rfl
                  have hP6 := HPX.out w6 (hn4.trans hn5)
                  have z0 : w6.cell? ⟨P, 0, none⟩ = some (.string x.from_) := (cell_of_row w6 _ 0 _ _ _ hP6).trans rfl
                  have z1 : w6.cell? ⟨P, 1, none⟩ = some (.string x.to_) := (cell_of_row w6 _ 1 _ _ _ hP6).trans rfl
                  have HZS := hide (show ob + 1 ≤ w6.heap.size by have := hn6.sz; have := HPN.out; omega)
                  have hO6 := HOW.out.nx hn6
                  have HO6 := hide hO6
                  have HVB := hide (own_blk_lt hO6.rowB)
                  have hbk : bk.length ≤ 400 := by omega
                  clear hP6 hob6 hn6 hn5 hn4 p1 p0 hO6
                  go_wp2_with (at_builtin; go_must (refine wpApp2 rfl _ _ _ rfl el_BanO encBan encBan_len encBan_one (by omega) (by omega) (ob + 1) _ bk rfl (HO6.out.rowB.alloc _) _ x _ rfl (hnew rfl) rfl (by omega) (by have := HZS.out; simp; omega) ?_); intro v9 w9 hown9 hg9 _; (obtain ⟨A9, c9, e9, _, _⟩ := Rd.of_own encBan_len rfl hown9); (obtain ⟨nL, hnL⟩ : ∃ nL, nL = (bk ++ [x]).length := ⟨_, rfl⟩); (rw [← hnL] at e9); (subst e9); (have HNL := hide hnL); (clear hnL); (have HO9 := hide hown9); (have HG9 := hide hg9); (have hob9 := (hg9.block ob (Nat.lt_of_lt_of_le (Array.getElem?_eq_some_iff.1 HOB6.out).1 ((Nx.refl w6).alloc _).sz) (fun e => by have := HVB.out ob e.symm; omega)).trans ((((Nx.refl w6).alloc _).block ob (Array.getElem?_eq_some_iff.1 HOB6.out).1).trans HOB6.out)); (have HOB9 := hide hob9); (have y9 : w9.cell? ⟨ob, 2, none⟩ = some vB := (cell_of_row w9 ob 2 _ _ _ hob9).trans rfl); (have yf9 := frozen_blk (j := 2) hob9); clear hown9 hg9 hob9)
                  go_roundw
                  case rel =>
                    have hs := Gr.setS (Gr.refl ob w9) (p := ⟨ob, 2, none⟩) (Or.inl rfl) (.slice A9 nL c9)
                    have hN9 : Nx wa w9 := ((HNW.out.trans HN6.out).alloc _).grown HG9.out (fun i hi => by have := HVB.out i hi; have := HSB.out; have := HOBN.out; omega)
                    have hO9 : OwnR w9 (ob + 1) (.slice none 0 0) (.slice A1 nA cA) (.slice A9 nL c9) [] rk (bk ++ [x]) := (HO6.out.nx ((Nx.refl w6).alloc _)).appB HG9.out HO9.out
                    have hoN9 := (own_nx (own_nx HON.out HN6.out) ((Nx.refl w6).alloc (.cells #[.string x.from_, .string x.to_] 80))).kept HG9.out (own_apart (own_nx HON.out HN6.out) HO6.out.rowB (by decide))
                    refine ⟨k + 1, .slice A9 nL c9, bk ++ [x], by omega, by go_num, Nx.setCell hN9 (p := ⟨ob, 2, none⟩) (by show wa.heap.size ≤ ob; have := HSB.out; have := HOBN.out; omega) _, heap_set HOB9.out, hO9.gr hs (by omega), hoN9.kept (row := some ob) hs (.inr (own_neW hoN9 HOB9.out (by decide))), by rw [HTK2.out, HBK.out], by rw [List.length_append]; simp; omega⟩
                  case measure => simp [intOf]; omega
                · have HTK2 := hide (HTK.out.trans (by rw [hm, hm2]; simp : _ = lessB (bs.take k) (memS l)))
                  have HG2 := hide (fun W hx => hm2 ▸ HG.out x.to_ W hx)
                  clear hm hm2
                  go_wp2_with fail
                  refine HG1.out.mono ?_
                  rintro e w4 ⟨rfl, hn4⟩
                  have p1 : w4.cell? ⟨P, 1, none⟩ = some (.string x.to_) := (cell_of_row w4 _ 1 _ _ _ (HPX.out w4 hn4)).trans rfl
                  go_wp2_with fail
                  refine (HG2.out w4 hn4).mono ?_
                  rintro e w5 ⟨rfl, hn5⟩
                  have hn34 := (HN3.out.trans hn4).trans hn5
                  go_wp2_with fail
                  go_roundw
                  case rel => exact ⟨k + 1, vB, bk, by omega, by go_num, hbw.trans hn34, (hn34.block ob (by have := HPN.out; omega)).trans HOB.out, HOW.out.nx hn34, own_nx HON.out hn34, by rw [HTK2.out]; exact HBK.out, by omega⟩
                  case measure => simp [intOf]; omega
              · have HTK2 := hide (HTK.out.trans (by rw [hm]; simp : _ = lessB (bs.take k) (memS l)))
                have HG1 := hide (hm ▸ HG.out x.from_ w3 (Nx.refl _))
                clear hm
                go_wp2_with fail
                refine HG1.out.mono ?_
                rintro e w4 ⟨rfl, hn4⟩
                have hn34 := HN3.out.trans hn4
                go_wp2_with fail
                go_roundw
                case rel => exact ⟨k + 1, vB, bk, by omega, by go_num, hbw.trans hn34, (hn34.block ob (by have := HPN.out; omega)).trans HOB.out, HOW.out.nx hn34, own_nx HON.out hn34, by rw [HTK2.out]; exact HBK.out, by omega⟩
                case measure => simp [intOf]; omega
            · obtain rfl : nb = k := by omega
              have hbk := HBK.out
              rw [← HNB2.out, List.take_length, HLB.out] at hbk
              subst hbk
              have hob2 := hob
              obtain ⟨B9, cB, rfl, _, _⟩ := Rd.of_own encBan_len rfl HOW.out.rowB
              have e0 : wr.cell? ⟨ob, 0, none⟩ = some (.slice N1 ns.length cN) := (cell_of_row wr ob 0 _ _ _ hob).trans rfl
              have e1 : wr.cell? ⟨ob, 1, none⟩ = some (.slice A1 nA cA) := (cell_of_row wr ob 1 _ _ _ hob).trans rfl
              have e2 := HO2.out
              have hrc := HR0.out wr hbw
              have r0 : wr.cell? ⟨w.heap.size + 1 + 1, 0, none⟩ = some (.slice none 0 0) := (cell_of_row wr _ 0 _ _ _ hrc).trans rfl
              have r1 : wr.cell? ⟨w.heap.size + 1 + 1, 1, none⟩ = some (.slice none 0 0) := (cell_of_row wr _ 1 _ _ _ hrc).trans rfl
              have r2 : wr.cell? ⟨w.heap.size + 1 + 1, 2, none⟩ = some (.slice none 0 0) := (cell_of_row wr _ 2 _ _ _ hrc).trans rfl
              have f0 := frozen_blk (j := 0) hrc
              have f1 := frozen_blk (j := 1) hrc
              have f2 := frozen_blk (j := 2) hrc
              have HRC := hide hrc
              clear hob hrc hob2 HO2
              obtain ⟨nlB, hnlB⟩ : ∃ z, z = bk.length := ⟨_, rfl⟩
              have HNLB := hide hnlB
              rw [← hnlB] at e2
              clear hnlB
              go_wp2_with fail
              have s1 := Gr.setS (Gr.refl (w.heap.size + 1 + 1) wr) (p := ⟨w.heap.size + 1 + 1, 0, none⟩) (Or.inl rfl) (.slice N1 ns.length cN)
              have s2 := Gr.setS s1 (p := ⟨w.heap.size + 1 + 1, 1, none⟩) (Or.inl rfl) (.slice A1 nA cA)
              have s3 := Gr.setS s2 (p := ⟨w.heap.size + 1 + 1, 2, none⟩) (Or.inl rfl) (.slice B9 nlB cB)
              have hW := Nx.of_gr ((Gr.of_nx (HNA.out.trans hbw)).trans s3) (by omega)
              have hO := HOW.out.gr s3 (by have := HSB.out; have := HOBN.out; omega)
              have hNn := own_gr HON.out s3 (by omega)
              have hbo : w.heap.size ≤ ob + 1 := by have := HSB.out; have := HOBN.out; omega
              exact bodyPost_ret (v := .tuple #[.agg #[.slice N1 ns.length cN, .slice A1 nA cA, .slice B9 nlB cB], .int .i64 0]) (by simp [results, Tryz.results12, go_sem, r0, r1, r2]) rfl ⟨_, _, _, rk, rfl, ⟨World.ownsRow.mono hNn (by omega), World.ownsRow.mono hO.rowA hbo, by rw [HLB.out, HNLB.out] at *; exact World.ownsRow.mono hO.rowB hbo, fun a ha => World.ownsRow.mono (hO.each a ha) hbo, HSN.out, hO.smA⟩, HCO.out, hW⟩
end Go.Proofs.YtepbamacebjopaaGreatDoor
/- A node's key: the stream's; the reference's fault. -/
namespace Go.Proofs.YtepbamacebjopaaGreatDoor
open Go.RowKit

/-- A small string. -/
def StrSm (s k : Nat) (w : World) (e : Ending) (w' : World) : Prop := ∃ t : ByteArray, e = .returned (.string t) ∧ t.size ≤ 1000000 ∧ Gr s w w' ∧ Str w' s k
set_option maxRecDepth 100000 in
set_option maxHeartbeats 2000000 in
theorem w_NodeKey (s k lo : Nat) (A B C : Option Addr) (n1 n2 ca cb cc : Nat) (ns : List Node) (w : World) (hS : Str w s k) (hk : k < 700000) (hR : Rd w lo A 3 encNode ns) (hSm : SmallN ns) (h0 : 0 < ns.length) (hl : ns.length ≤ 400) (hlo : s < lo) :
    Calls Tryz.prog 6 #[.pointer (some ⟨s, 0, none⟩), .agg #[.slice A ns.length ca, .slice B n1 cb, .slice C n2 cc]] w (StrSm s (k + 2) w) := by
  have hsl := hS.lt
  obtain ⟨wa, hwa⟩ : ∃ wa, wa = w.alloc (.cells #[.slice A ns.length ca, .slice B n1 cb, .slice C n2 cc] 30) := ⟨_, rfl⟩
  have hna : Nx w wa := hwa ▸ (Nx.refl w).alloc _
  have hgw : w.heap.size < wa.heap.size := by rw [hwa]; simp
  have b0 : wa.cell? ⟨w.heap.size, 0, none⟩ = some (.slice A ns.length ca) := by rw [hwa]; go_simp
  have hSa := hS.nx hna
  have HR := hide (hR.nx hna)
  have HSM := hide hSm
  clear hR hS hSm
  generalize hn : ns.length = n at *
  have HN := hide hn
  clear hn
  have t0 : ((n : Int) == 0) = false := by rw [beq_eq_false_iff_ne]; omega
  go_enter Tryz.func6, Tryz.ntmps6
  go_wp2_with fail
  rw [← hwa]
  have HWA := hide hwa
  clear hwa
  have hgs : w.heap.size ≠ s := by omega
  generalize w.heap.size = g at *
  refine (w_Flip 25 _ _ _ hSa (by omega) (by omega)).mono ?_
  rintro e w1 ⟨fl, rfl, hg1, hS1⟩
  have hs1 := hS1.lt
  cases fl
  · have b1 : w1.cell? ⟨g, 0, none⟩ = some (.slice A n ca) := World.grownBy.cell hg1 b0 (by simp; omega)
    obtain ⟨b, off, rfl, hlo', hb, _, hc⟩ := HR.out.open_ (Nx.refl wa) (by have := HN.out; omega)
    have HC := hide hc
    clear hc b0
    go_upto_region 3 with fail
    have k1 : (1 : Int) ≤ (n : Int) := by omega
    go_cut [4] (fun v wx => ∃ t : ByteArray, v = .string t ∧ t.size ≤ 1000000 ∧ Gr s w1 wx ∧ Str wx s (k + 2))
    case first =>
      go_region_law
        (first | (go_simp; go_at_call 28; refine (w_Next (n : Int) _ _ _ (hS1.nx (Nx.refl w1).drew) (by omega) (by omega)).mono ?_; rintro e w4 ⟨q, hq1, hq2, rfl, hg4, hS4⟩; (obtain ⟨q, rfl⟩ := Int.eq_ofNat_of_zero_le hq1); (have hgr := hg1.trans ((Gr.refl s w1).drew.trans hg4)); (have b4 : w4.cell? ⟨g, 0, none⟩ = some (.slice (some ⟨b, off, none⟩) n ca) := World.grownBy.cell (row := some s) ((Gr.refl s w1).drew.trans hg4) b1 (by simp; omega)); (have hq3 : (q : Int) < (n : Int) := by omega); (have hqn : q < ns.length := by have := HN.out; omega); (have d4 : w4.cell? ⟨b, off + q * 3, none⟩ = some (.string ns[q].key) := World.grownBy.cell (row := some s) hgr (HC.out q hqn 0 _ rfl) (by simp; omega))))
      all_goals
        go_wp2
        go_meet
        exact ⟨_, rfl, HSM.out _ (List.getElem_mem hqn), (Gr.refl s w1).drew.trans hg4, hS4⟩
    case rest =>
      obtain ⟨t, rfl, ht, hg2, hS2⟩ := hcut
      go_wp2_with fail
      go_ret
      exact ⟨t, rfl, ht, (Gr.of_nx hna).trans (hg1.trans hg2), hS2⟩
  · go_wp2_with fail
    refine (w_Some _ [⟨#[]⟩, ⟨#[122, 122]⟩, ⟨#[65]⟩] _ _ _ _ (hS1.nx ((Nx.refl _).alloc _)) (by omega) (hnew rfl) (by omega) rfl (by simp) (by simp)).mono ?_
    rintro e w2 ⟨r, hr, rfl, hg2, hS2⟩
    go_wp2_with fail
    go_ret
    refine ⟨r, rfl, ?_, (Gr.of_nx hna).trans (hg1.trans (((Gr.refl s w1).alloc _).trans hg2)), hS2⟩
    simp at hr
    rcases hr with h | h | h <;> rw [h] <;> decide
def noneF (ns : List Node) (s : ByteArray) : Int := if nodeI ns s < 0 then 8 else 0
set_option maxHeartbeats 1000000 in
theorem w_NodeFault (lo : Nat) (A B C : Option Addr) (n1 n2 c1 c2 c3 : Nat) (l : List Node) (s : ByteArray) (w : World) (hR : Rd w lo A 3 encNode l) (hl : l.length ≤ 65536) :
    Calls Tryz.prog 22 #[.agg #[.slice A l.length c1, .slice B n1 c2, .slice C n2 c3], .string s] w fun e w' => e = .returned (.int .i64 (noneF l s)) ∧ Nx w w' := by
  have HN := hide (fun W hx => w_NodeAt lo A B C n1 n2 c1 c2 c3 l s W hx hl)
  unfold noneF
  by_cases h : nodeI l s < 0
  · rw [if_pos h]
    have tf : decide (nodeI l s < 0) = true := decide_eq_true h
    clear h
    go_enter Tryz.func22, Tryz.ntmps22
    go_wp2_with (go_at_call 49; refine (HN.out _ (hR.nx ((Nx.refl w).alloc _))).mono ?_; rintro e w2 ⟨rfl, hn2⟩)
    go_ret
    exact ⟨rfl, ((Nx.refl w).alloc _).trans hn2⟩
  · rw [if_neg h]
    have tf : decide (nodeI l s < 0) = false := decide_eq_false h
    clear h
    go_enter Tryz.func22, Tryz.ntmps22
    go_wp2_with (go_at_call 49; refine (HN.out _ (hR.nx ((Nx.refl w).alloc _))).mono ?_; rintro e w2 ⟨rfl, hn2⟩)
    go_ret
    exact ⟨rfl, ((Nx.refl w).alloc _).trans hn2⟩
theorem w_when (b : Bool) (z : Int) (w : World) : Calls Tryz.prog 24 #[.bool b, .int .i64 z] w fun e w' => e = .returned (.int .i64 (if b then z else 0)) ∧ w = w' := by
  cases b
  all_goals
    go_enter Tryz.func24, Tryz.ntmps24
    go_wp2
    go_ret
    exact ⟨rfl, rfl⟩
end Go.Proofs.YtepbamacebjopaaGreatDoor
/- Are all that are asked for nodes? The program and the reference. -/
namespace Go.Proofs.YtepbamacebjopaaGreatDoor
open Go.RowKit

theorem idxP_any {α : Type} (p : α → Bool) : ∀ (l : List α) (k : Nat), decide (0 ≤ idxP p l k) = l.any p
  | [], _ => rfl
  | n :: l, k => by
    unfold idxP
    cases h : p n with
    | true => rw [if_pos rfl, List.any_cons, h]; exact decide_eq_true (by omega)
    | false => rw [if_neg (by simp), List.any_cons, h, Bool.false_or]; exact idxP_any p l (k + 1)
end Go.Proofs.YtepbamacebjopaaGreatDoor
/- Plain: weights, sites: what is wrong with them; how much is covered. -/
namespace Go.Proofs.YtepbamacebjopaaGreatDoor

structure Wgt where
  node : ByteArray
  many : Int
instance : Inhabited Wgt := ⟨⟨default, default⟩⟩
def aftS (p : Option ByteArray) (s : ByteArray) : Bool := match p with | some q => strLe s q | none => false
end Go.Proofs.YtepbamacebjopaaGreatDoor
/- What is wrong with arcs to be left out: the reference (turned out of XSiteF). -/
namespace Go.Proofs.YtepbamacebjopaaGreatDoor
open Go.RowKit

def wdtF (rs : List Arc) (p : Option ByteArray) (s : ByteArray) : Int := if arcI rs s < 0 then 8 else if aftS p s then 7 else 0
/-- What is wrong with arcs to be left out. -/
def wdsF (rs : List Arc) (l : List ByteArray) : Int := if 2000 < l.length then 2 else chk (wdtF rs) none l

set_option maxRecDepth 100000 in
set_option maxHeartbeats 2000000 in
theorem w_WithoutFault (lo : Nat) (A B C : Option Addr) (n1 n2 c1 c2 c3 : Nat) (rs : List Arc) (lo2 : Nat) (D : Option Addr) (cd : Nat) (l : List ByteArray) (w : World) (hR : Rd w lo B 5 encArc rs) (hl : rs.length ≤ 65536) (hD : Rd w lo2 D 1 encS l) (hdl : l.length ≤ 65536) :
    Calls Tryz.prog 25 #[.agg #[.slice A n1 c1, .slice B rs.length c2, .slice C n2 c3], .slice D l.length cd] w fun e w' => e = .returned (.int .i64 (wdsF rs l)) ∧ Nx w w' := by
  obtain ⟨wa, hwa⟩ : ∃ wa, wa = w.alloc (.cells #[.slice A n1 c1, .slice B rs.length c2, .slice C n2 c3] 30) := ⟨_, rfl⟩
  have hna : Nx w wa := hwa ▸ (Nx.refl w).alloc _
  have hgw : w.heap.size < wa.heap.size := by rw [hwa]; simp
  have b0 : wa.cell? ⟨w.heap.size, 0, none⟩ = some (.slice A n1 c1) := by rw [hwa]; go_simp
  have b1 : wa.cell? ⟨w.heap.size, 1, none⟩ = some (.slice B rs.length c2) := by rw [hwa]; go_simp
  have b2 : wa.cell? ⟨w.heap.size, 2, none⟩ = some (.slice C n2 c3) := by rw [hwa]; go_simp
  have HBX := hide (fun W (hg : Nx wa W) => (⟨nx_cell hg hgw b0, nx_cell hg hgw b1, nx_cell hg hgw b2⟩ : W.cell? ⟨w.heap.size, 0, none⟩ = some (.slice A n1 c1) ∧ W.cell? ⟨w.heap.size, 1, none⟩ = some (.slice B rs.length c2) ∧ W.cell? ⟨w.heap.size, 2, none⟩ = some (.slice C n2 c3)))
  have HNA := hide (fun s W (hg : Nx wa W) => w_ArcAt lo A B C n1 n2 c1 c2 c3 rs s W (hR.nx (hna.trans hg)) hl)
  have HD := hide (hD.nx hna)
  have HWA := hide hwa
  have HN0 := hide hna
  clear hR hD b0 b1 b2 hgw hwa hna
  generalize hn : l.length = n at *
  have HN := hide hn
  clear hn
  generalize rs.length = nn at *
  by_cases hbig : 2000 < n
  · go_enter Tryz.func25, Tryz.ntmps25
    go_wp2_with fail
    go_ret
    exact ⟨ret_int (by unfold wdsF; rw [if_pos (by rw [HN.out]; exact hbig)]), by rw [← HWA.out]; exact HN0.out⟩
  · have HF := hide (show wdsF rs l = chk (wdtF rs) none l by unfold wdsF; rw [if_neg (by rw [HN.out]; exact hbig)])
    go_enter Tryz.func25, Tryz.ntmps25
    go_upto_region 3 with fail
    rw [← HWA.out]
    clear HWA
    generalize w.heap.size = g at *
    go_wp2_with fail
    go_loopw [12] (fun i wr => ∃ k : Nat, k ≤ n ∧ i = .int .i64 k ∧ Nx wa wr ∧ chk (wdtF rs) none l = chk (wdtF rs) (prevOf l k) (l.drop k)) (fun i _ => n - (intOf i).toNat)
    case atStart => exact ⟨0, Nat.zero_le _, rfl, Nx.refl _, rfl⟩
    case round =>
      obtain ⟨k, hk, rfl, hbw, hq⟩ := hrel
      have HQ := hide hq
      clear hq
      by_cases hlt : k < n
      · have hlt' : k < l.length := by have := HN.out; omega
        obtain ⟨b, off, rfl, _, hb, hbr, hc⟩ := HD.out.open_ hbw (by omega)
        have c0 : wr.cell? ⟨b, off + k, none⟩ = some (.string l[k]) := by have := hc k hlt' 0 _ rfl; simpa using this
        have HC := hide hc
        clear hc
        have HDR := hide (chk_drop (wdtF rs) l k hlt')
        have HA := hide (HNA.out l[k])
        obtain ⟨z0, z1, z2⟩ := HBX.out wr hbw
        by_cases hn0 : arcI rs l[k] < 0
        · have HV := hide (show wdtF rs (prevOf l k) l[k] = 8 from if_pos hn0)
          have t0 : decide (arcI rs l[k] < 0) = true := decide_eq_true hn0
          clear hn0
          go_wp2_with (go_at_call 66; refine (HA.out _ hbw).mono ?_; rintro e w2 ⟨rfl, hn2⟩)
          go_ret
          exact ⟨ret_int (by rw [HF.out, HQ.out, HDR.out, HV.out]; rfl), (HN0.out.trans hbw).trans hn2⟩
        · have t0 : decide (arcI rs l[k] < 0) = false := decide_eq_false hn0
          have HV0 := hide (show wdtF rs (prevOf l k) l[k] = if aftS (prevOf l k) l[k] then 7 else 0 from if_neg hn0)
          clear hn0
          by_cases hk0 : 0 < k
          · have q0 : decide ((0 : Int) < (k : Int)) = true := by simpa using hk0
            have q1 : IntKind.i64.wrap ((k : Int) - 1) = (k : Int) - 1 := IntWalk.i64_in _ (by omega)
            have q2 : (1 : Int) ≤ (k : Int) := by omega
            have q3 : ((k : Int) - 1).toNat = k - 1 := by omega
            have q4 : (k : Int) - 1 < (n : Int) := by omega
            have HC4 := hide (show wr.cell? ⟨b, off + (k - 1), none⟩ = some (.string (l[k - 1]'(by omega))) by have := HC.out (k - 1) (by omega) 0 _ rfl; simpa using this)
            have HV1 := hide (show aftS (prevOf l k) l[k] = strLe l[k] (l[k - 1]'(by omega)) by rw [prevOf_pos l k hk0 (by omega)]; rfl)
            generalize (l[k - 1]'(by omega)) = p0 at *
            cases ho : strLe l[k] p0
            · have t1 : (Op.bytesLess l[k].toList p0.toList || l[k].toList == p0.toList) = false := ho
              rw [ho] at HV1
              clear ho HC
              go_wp2_with (go_at_call 66; refine (HA.out _ hbw).mono ?_; rintro e w2 ⟨rfl, hn2⟩; have m2 := nx_cell hn2 hbr HC4.out)
              go_roundw
              case rel => exact ⟨k + 1, by omega, by go_num, hbw.trans hn2, by rw [HQ.out, HDR.out, HV0.out, HV1.out]; rfl⟩
              case measure => simp [intOf]; omega
            · have t1 : (Op.bytesLess l[k].toList p0.toList || l[k].toList == p0.toList) = true := ho
              rw [ho] at HV1
              clear ho HC
              go_wp2_with (go_at_call 66; refine (HA.out _ hbw).mono ?_; rintro e w2 ⟨rfl, hn2⟩; have m2 := nx_cell hn2 hbr HC4.out)
              go_ret
              exact ⟨ret_int (by rw [HF.out, HQ.out, HDR.out, HV0.out, HV1.out]; rfl), (HN0.out.trans hbw).trans hn2⟩
          · have HV1 := hide (show aftS (prevOf l k) l[k] = false by have e : k = 0 := (by omega); subst e; rw [prevOf_zero]; rfl)
            have q0 : decide ((0 : Int) < (k : Int)) = false := by simpa using hk0
            clear HC
            go_wp2_with (go_at_call 66; refine (HA.out _ hbw).mono ?_; rintro e w2 ⟨rfl, hn2⟩)
            go_roundw
            case rel => exact ⟨k + 1, by omega, by go_num, hbw.trans hn2, by rw [HQ.out, HDR.out, HV0.out, HV1.out]; rfl⟩
            case measure => simp [intOf]; omega
      · go_wp2_with fail
        go_ret
        exact ⟨ret_int (by rw [HF.out, HQ.out, List.drop_of_length_le (by have := HN.out; omega)]; rfl), HN0.out.trans hbw⟩
end Go.Proofs.YtepbamacebjopaaGreatDoor
