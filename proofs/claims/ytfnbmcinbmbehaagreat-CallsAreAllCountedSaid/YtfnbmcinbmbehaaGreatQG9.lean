/- 'out = append(out, ys...)' on a row of the call's own. Of no program. -/
import Derived.Test.YtfnbmcinbmbehaaGreatQG0
import Derived.Laws.AppendOwn
import Derived.Test.YtfnbmcinbmbehaaGreatQCheckT
namespace Go.Proofs.YtfnbmcinbmbehaaGreat
open Go.RowKit

theorem run_append_nilsrc {P : Program} (w : World) (base : Nat) (t ty e : TypeId) (i : TypeInfo) (size : Nat) (ht : P.underlying t = some (.slice e)) (hi : P.info? e = some i)
    (v : Value) (n : Nat) (xs : List Value) (hown : w.ownsRow base e size v n xs) (c : Nat) : (Builtin.append_ #[t, t] ty #[v, .slice none 0 c]).run P w = .ok v w := by
  rcases hown.2 with ⟨rfl, rfl⟩ | ⟨g, cap, cur, rfl, _, _, hnc, _⟩
  · simp [Builtin.append_, run_underlying ht, sizeOf, typeInfo, hi, Builtin.lenOf, Builtin.firstCells]
  · simp [Builtin.append_, run_underlying ht, sizeOf, typeInfo, hi, Builtin.lenOf, Builtin.firstCells, hnc, storeCells]
/-- 'out = append(out, ys...)'. -/
theorem wpAppL {α : Type} {P : Program} {w : World} {ops : Array Oper} {rest : List Oper} {o : Oper} {a : Act} {Q : Exit → Act → World → Prop} (hgd : o.guard = none) (s x : Operand) (t : TypeId)
    (ho : o.op = .call { callee := .builtin .append, args := #[s, x], argTypes := #[t, t] })
    {e : TypeId} {K bytes : Nat} (E : ElemOf P t e K bytes) (enc : α → List Value) (hk : ∀ x, (enc x).length = K) (h1c : ∀ x, ∀ v ∈ enc x, v.oneCell' = true) (hK : 0 < K) (hB : bytes ≤ 1000)
    (base : Nat) (v : Value) (L : List α) (hs : a.eval s = v) (hown : w.ownsRow base e K v L.length (L.flatMap enc)) (A : Option Addr) (c : Nat) (ys : List α) (hx : a.eval x = .slice A ys.length c)
    {lo : Nat} (hR : Rd w lo A K enc ys) (hlen : L.length + ys.length ≤ 10000000) (hbase : base ≤ w.heap.size)
    (h : ∀ v' w', w'.ownsRow base e K v' (L ++ ys).length ((L ++ ys).flatMap enc) → w.grownBy w' v.ownBlock → wpList P ops Q rest (a.put o.dst v') w') : wpList P ops Q (o :: rest) a w := by
  obtain ⟨i, z, h1, h2, h3, h4, h5⟩ := E.hi
  cases A with
  | none =>
    have hy : ys = [] := by
      rcases ys with _ | ⟨y, ys⟩
      · rfl
      · obtain ⟨b, off, e, _⟩ := hR (by simp); cases e
    subst hy
    refine wpList_plain hgd fun K' hK' => ?_
    have hrun := run_append_nilsrc (P := P) w base t o.type e i K E.ht h1 v L.length _ hown c
    unfold Oper.wp execOp
    simp only [ho, resolve, invoke, builtin, Sem.run_bind, Sem.run_pure, Result.andThen_ok, List.map_toArray, List.map_cons, List.map_nil, hs, hx, List.length_nil, hrun]
    exact hK' _ _ (h v w (by simpa using hown) (World.grownBy.refl _ _))
  | some ad =>
    refine wpList_append_own w hgd s x t ho base e i z K bytes E.ht h1 h2 h3 h4 h5 hK v L.length _ hs hown ad ys.length c (ys.flatMap enc) hx (flat_len hk) ?_ ?_ (by unfold maxLen; omega) ?_ hbase ?_
    · intro j u hu
      have hj : j < ys.length * K := by have := (List.getElem?_eq_some_iff.1 hu).1; rw [flat_len hk] at this; exact this
      have hyl : 0 < ys.length := by
        rcases Nat.eq_zero_or_pos ys.length with h0 | h0
        · rw [h0] at hj; omega
        · exact h0
      obtain ⟨b, off, e, _, _, hc⟩ := hR hyl
      injection e with e; subst e
      have hq : j / K < ys.length := (Nat.div_lt_iff_lt_mul hK).2 hj
      have hr : j % K < K := Nat.mod_lt _ hK
      have e1 : j / K * K + j % K = j := by rw [Nat.mul_comm]; exact Nat.div_add_mod j K
      have hu2 : (enc ys[j / K])[j % K]? = some u := by
        have h6 : (enc ys[j / K])[j % K]? = some ((enc ys[j / K])[j % K]'(by rw [hk]; exact hr)) := List.getElem?_eq_getElem _
        have h7 := flat_get (xs := ys) hk (j / K) _ (List.getElem?_eq_getElem hq) (j % K) _ h6
        rw [e1, hu] at h7
        rw [h6, ← h7]
      have := hc (j / K) _ (List.getElem?_eq_getElem hq) (j % K) u hu2
      have e2 : (⟨b, off, none⟩ : Addr).add j = ⟨b, off + j, none⟩ := by unfold Addr.add; split <;> simp_all
      rw [e2, ← e1, ← Nat.add_assoc]
      exact this
    · intro u hu
      obtain ⟨y, _, hy⟩ := List.mem_flatMap.1 hu
      exact h1c y u hy
    · have : (L.length + ys.length) * bytes ≤ 10000000 * 1000 := Nat.mul_le_mul hlen hB
      omega
    · intro v' w' ho' hg' _
      exact h v' w' (by simpa using ho') hg'

end Go.Proofs.YtfnbmcinbmbehaaGreat
/- Tallies added up. -/
namespace Go.Proofs.YtfnbmcinbmbehaaGreat
open Go.RowKit Go.Sort Go.Shelf Go.Maps

/-- A row of no elements, with room. -/
theorem own_room {w : World} {base e : Nat} {K G : Nat} {cs : Array Value} (hb : base ≤ w.heap.size) (hG : G ≤ maxLen) (hs : cs.size = G * K) : (w.alloc (.cells cs e)).ownsRow base e K (.slice (some ⟨w.heap.size, 0, none⟩) 0 G) 0 [] :=
  World.ownsRow_made w cs G hb hG hs
theorem zeroCells_size (z : Array Value) (n : Nat) : (Builtin.zeroCells z n).size = n * z.size := by simp [Builtin.zeroCells]

theorem w_Grow0 (n : Nat) (w : World) (hn : n ≤ 10000) :
    Calls Tryz.prog 60 #[.slice none 0 0, .int .i64 (n : Int)] w fun e w' => ∃ v, e = .returned v ∧ w'.ownsRow w.heap.size 47 4 v ([] : List Tally).length (([] : List Tally).flatMap encTally) ∧ Nx w w' := by
  obtain ⟨i, z, h1, h2, h3, h4, h5⟩ := el_Tally.hi
  by_cases h0 : n = 0
  · subst h0
    have hc := Any8.slices_Grow_room Tryz.growTally none 0 0 0 w (by omega) (by omega) (by omega) (by omega)
    change Calls Tryz.prog 60 _ _ _ at hc
    refine hc.mono ?_
    rintro e w' ⟨rfl, rfl⟩
    exact ⟨_, rfl, World.ownsRow_nil _ _ _ _, Nx.refl _⟩
  · have hc := Any8.slices_Grow_grow Tryz.growTally i z h1 h2 (by omega) none 0 0 n [] w (by omega) (by omega) (by rw [h4]; omega) (by omega) (by simp) (by simp) (by simp)
    change Calls Tryz.prog 60 _ _ _ at hc
    refine hc.mono ?_
    rintro e w' ⟨rfl, rfl⟩
    have hle := grownCap_ge w (0 + n) 0 (Tryz.growTally_ren.t 25)
    refine ⟨_, rfl, own_room (w := w.drew) (Nat.le_refl _) (grownCap_le_maxLen w _ _ _ (by unfold maxLen; omega)) ?_, ((Nx.refl w).drew).alloc _⟩
    simp only [Array.size_append, zeroCells_size, h5]
    generalize grownCap w (0 + n) 0 (Tryz.growTally_ren.t 25) = G at *
    simp
    omega

set_option maxRecDepth 100000 in
set_option maxHeartbeats 2000000 in
theorem w_Concat2 (lo lo' g cc : Nat) (A B : Option Addr) (c d : Nat) (a b : List Tally) (w : World) (hg : w.heap[g]? = some (.cells #[.slice A a.length c, .slice B b.length d] 41 (0, 0))) (hA : Rd w lo A 4 encTally a) (hB : Rd w lo' B 4 encTally b) (hl : a.length + b.length ≤ 10000) :
    Calls Tryz.prog 37 #[.slice (some ⟨g, 0, none⟩) 2 cc] w fun e w' => ∃ A' c', e = .returned (.slice A' (a ++ b).length c') ∧ Rd w' w.heap.size A' 4 encTally (a ++ b) ∧ Nx w w' := by
  have hlt : g < w.heap.size := (Array.getElem?_eq_some_iff.1 hg).1
  have c0 : w.cell? ⟨g, 0, none⟩ = some (.slice A a.length c) := cell_of_row w g 0 _ _ _ hg
  have c1 : w.cell? ⟨g, 1, none⟩ = some (.slice B b.length d) := cell_of_row w g 1 _ _ _ hg
  have HA := hide hA
  have HB := hide hB
  clear hA hB hg
  go_enter Tryz.func37, Tryz.ntmps37
  go_wp2_with fail
  refine wp_loop_rounds 3 ?_
  rw [rounds_succ]
  go_wp2_with fail
  rw [rounds_succ]
  go_wp2_with fail
  rw [rounds_succ]
  go_wp2_with fail
  rw [show ((a.length : Int) + (b.length : Int)) = ((a.length + b.length : Nat) : Int) by omega]
  refine (w_Grow0 _ _ hl).mono ?_
  rintro e w1 ⟨v, rfl, hown, hn1⟩
  have d0 : w1.cell? ⟨g, 0, none⟩ = some (.slice A a.length c) := (Below.cell hn1 (p := ⟨g, _, none⟩) hlt).trans c0
  have d1 : w1.cell? ⟨g, 1, none⟩ = some (.slice B b.length d) := (Below.cell hn1 (p := ⟨g, _, none⟩) hlt).trans c1
  go_wp2_with fail
  refine wp_loop_rounds 3 ?_
  rw [rounds_succ]
  go_wp2_with (at_builtin; refine wpAppL rfl _ _ _ rfl el_Tally encTally encTally_len encTally_one (by omega) (by omega) w.heap.size v [] rfl hown A c a rfl (HA.out.nx hn1) (by simp; omega) hn1.sz ?_; intro v2 w2 hown2 hg2)
  have hn2 := hn1.grown hg2 (own_blk_lt hown)
  have e1 : w2.cell? ⟨g, 1, none⟩ = some (.slice B b.length d) := (Below.cell hn2 (p := ⟨g, _, none⟩) hlt).trans c1
  rw [rounds_succ]
  go_wp2_with (at_builtin; refine wpAppL rfl _ _ _ rfl el_Tally encTally encTally_len encTally_one (by omega) (by omega) w.heap.size v2 ([] ++ a) rfl hown2 B d b rfl (HB.out.nx hn2) (by simp; omega) hn2.sz ?_; intro v3 w3 hown3 hg3)
  have hn3 := hn2.grown hg3 (own_blk_lt hown2)
  rw [rounds_succ]
  go_wp2
  go_ret
  obtain ⟨A', c', ev, hR, _⟩ := Rd.of_own encTally_len rfl hown3
  exact ⟨A', c', congrArg Ending.returned ev, hR, hn3⟩

/-- base.First and cmp.Or of two errors. -/
theorem w_First2 (a b : Int) (g c : Nat) (w : World) (hg : w.heap[g]? = some (.cells #[.int .i64 a, .int .i64 b] 28 (0, 0))) :
    Calls Tryz.prog 35 #[.slice (some ⟨g, 0, none⟩) 2 c] w fun e w' => e = .returned (.int .i64 (orI [a, b])) ∧ w = w' := by
  have c0 : w.cell? ⟨g, 0, none⟩ = some (.int .i64 a) := cell_of_row w g 0 _ _ _ hg
  have c1 : w.cell? ⟨g, 1, none⟩ = some (.int .i64 b) := cell_of_row w g 1 _ _ _ hg
  have H := hide (orI_two a b)
  clear hg
  by_cases ha : a = 0
  · have ha' : (a != 0) = false := by simpa using ha
    by_cases hb : b = 0
    · have hb' : (b != 0) = false := by simpa using hb
      have HA := hide ha
      have HB := hide hb
      clear ha hb
      go_enter Tryz.func35, Tryz.ntmps35
      go_wp2_with fail
      refine wp_loop_rounds 3 ?_
      rw [rounds_succ]
      go_wp2_with fail
      rw [rounds_succ]
      go_wp2_with fail
      rw [rounds_succ]
      go_wp2
      go_ret
      exact ⟨ret_int (by rw [H.out, if_pos HA.out, HB.out]), rfl⟩
    · have hb' : (b != 0) = true := by simpa using hb
      have HA := hide ha
      clear ha hb
      go_enter Tryz.func35, Tryz.ntmps35
      go_wp2_with fail
      refine wp_loop_rounds 3 ?_
      rw [rounds_succ]
      go_wp2_with fail
      rw [rounds_succ]
      go_wp2_with fail
      go_ret
      exact ⟨ret_int (by rw [H.out, if_pos HA.out]), rfl⟩
  · have ha' : (a != 0) = true := by simpa using ha
    have HA := hide ha
    clear ha
    go_enter Tryz.func35, Tryz.ntmps35
    go_wp2_with fail
    refine wp_loop_rounds 3 ?_
    rw [rounds_succ]
    go_wp2_with fail
    go_ret
    exact ⟨ret_int (by rw [H.out, if_neg HA.out]), rfl⟩
end Go.Proofs.YtfnbmcinbmbehaaGreat
