/- The stream's object and its smallest methods. -/
import Derived.Test.YtklgknepamebdaaGreatDoorRows
import Derived.Test.YtklgknepamebdaaGreatDoorQG0
import Derived.Deep.QuietTactic
import Derived.BigQuiet
import Derived.Outline
import Derived.Laws.AppendOwn
import Derived.Sort.Grow
import Derived.Deep.RegionHeld3
import Derived.StillTailTactics
import Derived.Shelf.SlSortCmp.InsertionK
import Derived.Sort.WalkA
namespace Go.Proofs.YtklgknepamebdaaGreatDoor
open Go.RowKit

/-- Block s is a stream whose counter is at most k; its numbers lie below s. -/
def Str (w : World) (s k : Nat) : Prop :=
  ∃ (A : Option Addr) (n c i : Nat), i ≤ k ∧ n ≤ 9223372036854775807 ∧ w.heap[s]? = some (.cells #[.slice A n c, .int .i64 (i : Int)] 25 (0, 0)) ∧
    (0 < n → ∃ b off, A = some ⟨b, off, none⟩ ∧ b < s ∧ ∀ j, j < n → ∃ z : Int, w.cell? ⟨b, off + j, none⟩ = some (.int .i64 z) ∧ -9223372036854775808 ≤ z ∧ z ≤ 9223372036854775807)

theorem Str.lt {w : World} {s k : Nat} (h : Str w s k) : s < w.heap.size := by
  obtain ⟨A, n, c, i, _, _, hh, _⟩ := h
  rcases Nat.lt_or_ge s w.heap.size with hlt | hge
  · exact hlt
  · rw [Array.getElem?_eq_none hge] at hh; cases hh
theorem Str.more {w : World} {s k k' : Nat} (h : Str w s k) (hk : k ≤ k') : Str w s k' := by
  obtain ⟨A, n, c, i, hi, r⟩ := h
  exact ⟨A, n, c, i, Nat.le_trans hi hk, r⟩
theorem Str.nx {w w' : World} {s k : Nat} (h : Str w s k) (hn : Nx w w') : Str w' s k := by
  have hlt := h.lt
  obtain ⟨A, n, c, i, hi, hn2, hh, hc⟩ := h
  refine ⟨A, n, c, i, hi, hn2, (hn.block s hlt).trans hh, fun hp => ?_⟩
  obtain ⟨b, off, e, hb, hz⟩ := hc hp
  refine ⟨b, off, e, hb, fun j hj => ?_⟩
  obtain ⟨z, hz1, hz2⟩ := hz j hj
  exact ⟨z, (Below.cell hn (p := ⟨b, _, none⟩) (by show b < _; omega)).trans hz1, hz2⟩

theorem Str.step {w : World} {s k' m c i : Nat} {A : Option Addr} (hh : w.heap[s]? = some (.cells #[.slice A m c, .int .i64 (i : Int)] 25 (0, 0))) (hi : i < k') (hm : m ≤ 9223372036854775807)
    (hc : 0 < m → ∃ b off, A = some ⟨b, off, none⟩ ∧ b < s ∧ ∀ j, j < m → ∃ z : Int, w.cell? ⟨b, off + j, none⟩ = some (.int .i64 z) ∧ -9223372036854775808 ≤ z ∧ z ≤ 9223372036854775807) :
    Str (w.setCell ⟨s, 1, none⟩ (.int .i64 ((i : Int) + 1))) s k' := by
  refine ⟨A, m, c, i + 1, by omega, hm, heap_set hh, fun hp => ?_⟩
  obtain ⟨b, off, e, hb, hz⟩ := hc hp
  refine ⟨b, off, e, hb, fun j hj => ?_⟩
  obtain ⟨z, h1, h2⟩ := hz j hj
  exact ⟨z, by rw [cell_set (by omega)]; exact h1, h2⟩
theorem Str.drewN {w : World} {s k : Nat} (h : Str w s k) (n : Nat) : Str (w.drewN n) s k := h.nx ((Nx.refl w).drewN n)

/-- A row above the stream has been written. -/
theorem Str.row {w w' : World} {s k : Nat} {row : Option Nat} (h : Str w s k) (hg : w.grownBy w' row) (hr : ∀ j, row = some j → s < j) : Str w' s k := by
  have hlt := h.lt
  obtain ⟨A, n, c, i, hi, hn2, hh, hc⟩ := h
  refine ⟨A, n, c, i, hi, hn2, (hg.block s hlt (fun e => by have := hr s e.symm; omega)).trans hh, fun hp => ?_⟩
  obtain ⟨b, off, e, hb, hz⟩ := hc hp
  refine ⟨b, off, e, hb, fun j hj => ?_⟩
  obtain ⟨z, hz1, hz2⟩ := hz j hj
  exact ⟨z, hg.cell hz1 (fun e => by have := hr b e.symm; omega), hz2⟩

/-- A number from 0 to n - 1 (0 where n is less than 1). -/
def Lt0 (n : Int) (w : World) (e : Ending) (w' : World) : Prop := ∃ r : Int, 0 ≤ r ∧ (r < n ∨ r = 0) ∧ e = .returned (.int .i64 r) ∧ w = w'

set_option maxHeartbeats 400000 in
theorem w_Below (x n : Int) (w : World) (hn : n ≤ 4294967296) :
    Calls Tryz.prog 122 #[.int .i64 x, .int .i64 n] w (Lt0 n w) := by
  by_cases h1 : n < 1
  · go_enter Tryz.func122, Tryz.ntmps122
    go_wp2
    go_ret
    exact ⟨0, by omega, .inr rfl, rfl, rfl⟩
  · have b1 : x.tmod n < n := Int.tmod_lt_of_pos x (by omega)
    have b2 : -n < x.tmod n := by have := Int.lt_tmod_of_pos x (b := n) (by omega); omega
    by_cases h2 : x.tmod n < 0
    · go_enter Tryz.func122, Tryz.ntmps122
      go_wp2
      go_ret
      exact ⟨_, by omega, .inl (by omega), rfl, rfl⟩
    · go_enter Tryz.func122, Tryz.ntmps122
      go_wp2
      go_ret
      exact ⟨_, by omega, .inl (by omega), rfl, rfl⟩

/-- The stream's methods: a number from low to high; the stream goes on by m. -/
def StrInt (low high : Int) (s k : Nat) (w : World) (e : Ending) (w' : World) : Prop :=
  ∃ r : Int, low ≤ r ∧ r ≤ high ∧ e = .returned (.int .i64 r) ∧ Gr s w w' ∧ Str w' s k

set_option maxHeartbeats 1000000 in
theorem w_Next (n : Int) (s k : Nat) (w : World) (hS : Str w s k) (hk : k < 1000000) (hn : 1 ≤ n ∧ n ≤ 4294967296) :
    Calls Tryz.prog 54 #[.pointer (some ⟨s, 0, none⟩), .int .i64 n] w (StrInt 0 (n - 1) s (k + 1) w) := by
  obtain ⟨A, m, c, i, hi, hm, hh, hc⟩ := hS
  have c0 : w.cell? ⟨s, 0, none⟩ = some (.slice A m c) := cell_of_row w s 0 _ _ _ hh
  have c1 : w.cell? ⟨s, 1, none⟩ = some (.int .i64 (i : Int)) := cell_of_row w s 1 _ _ _ hh
  have f1 : w.frozen? ⟨s, 1, none⟩ = false := by simp [World.frozen?, hh]
  have HH := hide hh
  have HC := hide hc
  clear hc hh
  by_cases hm0 : m = 0
  · subst hm0
    go_enter Tryz.func54, Tryz.ntmps54
    go_wp2_with (go_at_call 122; refine (w_Below _ _ _ (by omega)).mono ?_; rintro e w' ⟨r, hr1, hr2, rfl, rfl⟩)
    go_ret
    exact ⟨r, hr1, by omega, rfl, (Gr.refl _ _).setS (.inl rfl) _, Str.step HH.out (by omega) (by omega) HC.out⟩
  · have hmp : 0 < m := by omega
    obtain ⟨b, off, rfl, hb, hz⟩ := HC.out hmp
    obtain ⟨z, hz1, hz2, hz3⟩ := hz (i % m) (Nat.mod_lt _ hmp)
    clear hz
    go_enter Tryz.func54, Tryz.ntmps54
    have hst : (w.setCell ⟨s, 1, none⟩ (.int .i64 ((i : Int) + 1))).cell? ⟨b, off + i % m, none⟩ = some (.int .i64 z) := by
      rw [World.cell?_setCell_other _ _ _ _ (by intro h; injection h with h1 h2; omega)]; exact hz1
    have t1 : ((i : Int)).tmod (m : Int) = (i : Int) % (m : Int) := Int.tmod_eq_emod_of_nonneg (by omega)
    have t2 : ((i : Int)).tdiv (m : Int) = (i : Int) / (m : Int) := Int.tdiv_eq_ediv_of_nonneg (by omega)
    have t3 : IntKind.i64.wrap ((i : Int)) = (i : Int) := IntWalk.i64_in _ (by omega)
    have t4 : i % m < m := Nat.mod_lt _ hmp
    go_wp2_with fail
    go_quiet (fail)
    go_wp2_with fail
    go_quiet (fail)
    go_wp2_with fail
    refine (w_Below _ _ _ (by omega)).mono ?_
    rintro e w' ⟨r, hr1, hr2, rfl, rfl⟩
    go_wp2_with fail
    refine (w_Below _ _ _ (by omega)).mono ?_
    rintro e w' ⟨r', hr1', hr2', rfl, rfl⟩
    go_wp2_with fail
    go_ret
    exact ⟨r', hr1', by omega, rfl, ((Gr.refl _ _).setS (.inl rfl) _).drewN _, (Str.step HH.out (by omega) (by omega) HC.out).drewN _⟩

set_option maxHeartbeats 400000 in
theorem w_Range (l h : Int) (s k : Nat) (w : World) (hS : Str w s k) (hk : k < 1000000) (hl : -4294967296 ≤ l ∧ l ≤ h ∧ h < 4294967296) (hn : h - l < 4294967296) :
    Calls Tryz.prog 58 #[.pointer (some ⟨s, 0, none⟩), .int .i64 l, .int .i64 h] w (StrInt l h s (k + 1) w) := by
  go_enter Tryz.func58, Tryz.ntmps58
  go_wp2_with (go_at_call 54; refine (w_Next _ _ _ _ hS hk (by omega)).mono ?_; rintro e w' ⟨r, hr1, hr2, rfl, hg, hS'⟩)
  go_ret
  exact ⟨_, by omega, by omega, rfl, hg, hS'⟩

/-- A stream's method that answers a bool. -/
def StrBool (s k : Nat) (w : World) (e : Ending) (w' : World) : Prop :=
  ∃ r : Bool, e = .returned (.bool r) ∧ Gr s w w' ∧ Str w' s k

set_option maxHeartbeats 400000 in
theorem w_Flip (n : Int) (s k : Nat) (w : World) (hS : Str w s k) (hk : k < 1000000) (hn : 1 ≤ n ∧ n ≤ 4294967296) :
    Calls Tryz.prog 12 #[.pointer (some ⟨s, 0, none⟩), .int .i64 n] w (StrBool s (k + 1) w) := by
  go_enter Tryz.func12, Tryz.ntmps12
  go_wp2_with (go_at_call 54; refine (w_Next _ _ _ _ hS hk hn).mono ?_; rintro e w' ⟨r, hr1, hr2, rfl, hg, hS'⟩)
  go_ret
  exact ⟨_, rfl, hg, hS'⟩

/-- A stream's method that answers one of some values. -/
def StrOf (cs : List Value) (s k : Nat) (w : World) (e : Ending) (w' : World) : Prop :=
  ∃ v, v ∈ cs ∧ e = .returned v ∧ Gr s w w' ∧ Str w' s k

set_option maxHeartbeats 400000 in
theorem w_Pick (g m : Nat) (cs : Array Value) (s k : Nat) (w : World) (hS : Str w s k) (hk : k < 1000000) (hg : w.heap[g]? = some (.cells cs 3 (0, 0))) (hne : g ≠ s) (hm : cs.size = m) (h0 : 0 < m) (h1 : m < 1000) :
    Calls Tryz.prog 11 #[.pointer (some ⟨s, 0, none⟩), .slice (some ⟨g, 0, none⟩) m m] w (StrOf cs.toList s (k + 1) w) := by
  go_enter Tryz.func11, Tryz.ntmps11
  go_wp2_with (go_at_call 54; refine (w_Next _ _ _ _ hS hk (by omega)).mono ?_; rintro e w' ⟨r, hr1, hr2, rfl, hgr, hS'⟩; (obtain ⟨q, rfl⟩ := Int.eq_ofNat_of_zero_le hr1); (have hcell : w'.cell? ⟨g, q, none⟩ = some (cs[q]'(by omega)) := World.grownBy.cell hgr ((cell_of_row w g q _ _ _ hg).trans (Array.getElem?_eq_getElem (by omega))) (by simp; omega)))
  go_ret
  exact ⟨_, Array.getElem_mem_toList _, rfl, hgr, hS'⟩
end Go.Proofs.YtklgknepamebdaaGreatDoor
/- The stream's methods that pick a number. -/
namespace Go.Proofs.YtklgknepamebdaaGreatDoor
open Go.RowKit

/-- A number of some list. -/
def StrIn (zs : List Int) (s k : Nat) (w : World) (e : Ending) (w' : World) : Prop := ∃ r ∈ zs, e = .returned (.int .i64 r) ∧ Gr s w w' ∧ Str w' s k
/-- 's.Pick(..)' of numbers that lie in a block of their own. -/
theorem w_PickI (g : Nat) (zs : List Int) (cs : Array Value) (s k : Nat) (w : World) (hS : Str w s k) (hk : k < 1000000) (hg : w.heap[g]? = some (.cells cs 3 (0, 0))) (hne : g ≠ s) (hcs : cs.toList = zs.map (Value.int .i64)) (h0 : zs ≠ []) (h1 : zs.length < 1000) :
    Calls Tryz.prog 11 #[.pointer (some ⟨s, 0, none⟩), .slice (some ⟨g, 0, none⟩) zs.length zs.length] w (StrIn zs s (k + 1) w) := by
  refine (w_Pick g zs.length cs s k w hS hk hg hne (by rw [← Array.length_toList, hcs, List.length_map]) (List.length_pos_iff.2 h0) h1).mono ?_
  rintro e w' ⟨v, hv, rfl, hg, hs⟩
  rw [hcs] at hv
  obtain ⟨z, hz, rfl⟩ := List.mem_map.1 hv
  exact ⟨z, hz, rfl, hg, hs⟩

set_option maxHeartbeats 1000000 in
theorem w_Odd (l h : Int) (s k : Nat) (w : World) (hS : Str w s k) (hk : k < 900000) (hl : -4294967296 ≤ l ∧ l ≤ h ∧ h < 4294967296) (hn : h - l < 4294967296) :
    Calls Tryz.prog 55 #[.pointer (some ⟨s, 0, none⟩), .int .i64 l, .int .i64 h] w (StrInt (-1099511627776) 1099511627776 s (k + 2) w) := by
  go_enter Tryz.func55, Tryz.ntmps55
  go_wp2_with (first
    | (go_at_call 12; refine (w_Flip _ _ _ _ hS (by omega) (by omega)).mono ?_; rintro e w1 ⟨b, rfl, hg1, hS1⟩)
    | (go_at_call 58; refine (w_Range _ _ _ _ _ hS1 (by omega) hl hn).mono ?_; rintro e w2 ⟨r, hr1, hr2, rfl, hg2, hS2⟩)
    | (go_at_call 11; refine (w_PickI _ [l - 1, h + 1, l, h, -1099511627776, 1099511627776] _ _ _ _ (hS1.nx ((Nx.refl _).alloc _)) (by omega) (hnew rfl) (by have := hS1.lt; omega) rfl (by simp) (by simp)).mono ?_; rintro e w2 ⟨r, hr, rfl, hg2, hS2⟩))
  · go_ret
    have hr' : r = l - 1 ∨ r = h + 1 ∨ r = l ∨ r = h ∨ r = -1099511627776 ∨ r = 1099511627776 := by simpa using hr
    exact ⟨r, by omega, by omega, rfl, (hg1.alloc _).trans hg2, hS2⟩
  · go_ret
    exact ⟨r, by omega, by omega, rfl, hg1.trans hg2, hS2⟩

end Go.Proofs.YtklgknepamebdaaGreatDoor
/- 'out = append(out, ys...)' on a row of the call's own. Of no program. -/
namespace Go.Proofs.YtklgknepamebdaaGreatDoor
open Go.RowKit

theorem run_append_nilsrc {P : Program} (w : World) (base : Nat) (t ty e : TypeId) (i : TypeInfo) (size : Nat) (ht : P.underlying t = some (.slice e)) (hi : P.info? e = some i)
    (v : Value) (n : Nat) (xs : List Value) (hown : w.ownsRow base e size v n xs) (c : Nat) : (Builtin.append_ #[t, t] ty #[v, .slice none 0 c]).run P w = .ok v w := by
  rcases hown.2 with ⟨rfl, rfl⟩ | ⟨g, cap, cur, rfl, _, _, hnc, _⟩
  · simp [Builtin.append_, run_underlying ht, sizeOf, typeInfo, hi, Builtin.lenOf, Builtin.firstCells]
  · simp [Builtin.append_, run_underlying ht, sizeOf, typeInfo, hi, Builtin.lenOf, Builtin.firstCells, hnc, storeCells]
/-- 'out = append(out, ys...)'. -/
theorem wpAppL {α : Type} {P : Program} {w : World} {ops : Array Oper} {rest : List Oper} {o : Oper} {a : Act} {Q : Exit → Act → World → Prop} (hgd : o.guard = none) (s x : Operand) (t : TypeId)
    (ho : o.op = .call { callee := .builtin .append, args := #[s, x], argTypes := #[t, t] })
    {e : TypeId} {K bytes : Nat} (E : ElemOf P t e K bytes) (enc : α → List Value) (hk : ∀ x, (enc x).length = K) (h1c : ∀ x, ∀ v ∈ enc x, v.oneCell' = true) (hK : 0 < K) (hB : bytes ≤ 1000)
    (base : Nat) (v : Value) (L : List α) (hs : a.eval s = v) (hown : w.ownsRow base e K v L.length (L.flatMap enc)) (A : Option Addr) (c : Nat) (ys : List α) (hx : a.eval x = .slice A ys.length c)
    {lo : Nat} (hR : Rd w lo A K enc ys) (hlen : L.length + ys.length ≤ 10000000) (hbase : base ≤ w.heap.size)
    (h : ∀ v' w', w'.ownsRow base e K v' (L ++ ys).length ((L ++ ys).flatMap enc) → w.grownBy w' v.ownBlock → wpList P ops Q rest (a.put o.dst v') w') : wpList P ops Q (o :: rest) a w := by
  obtain ⟨i, z, h1, h2, h3, h4, h5⟩ := E.hi
  cases A with
  | none =>
    have hy : ys = [] := by
      rcases ys with _ | ⟨y, ys⟩
      · rfl
      · obtain ⟨b, off, e, _⟩ := hR (by simp); cases e
    subst hy
    refine wpList_plain hgd fun K' hK' => ?_
    have hrun := run_append_nilsrc (P := P) w base t o.type e i K E.ht h1 v L.length _ hown c
    unfold Oper.wp execOp
    simp only [ho, resolve, invoke, builtin, Sem.run_bind, Sem.run_pure, Result.andThen_ok, List.map_toArray, List.map_cons, List.map_nil, hs, hx, List.length_nil, hrun]
    exact hK' _ _ (h v w (by simpa using hown) (World.grownBy.refl _ _))
  | some ad =>
    refine wpList_append_own w hgd s x t ho base e i z K bytes E.ht h1 h2 h3 h4 h5 hK v L.length _ hs hown ad ys.length c (ys.flatMap enc) hx (flat_len hk) ?_ ?_ (by unfold maxLen; omega) ?_ hbase ?_
    · intro j u hu
      have hj : j < ys.length * K := by have := (List.getElem?_eq_some_iff.1 hu).1; rw [flat_len hk] at this; exact this
      have hyl : 0 < ys.length := by
        rcases Nat.eq_zero_or_pos ys.length with h0 | h0
        · rw [h0] at hj; omega
        · exact h0
      obtain ⟨b, off, e, _, _, hc⟩ := hR hyl
      injection e with e; subst e
      have hq : j / K < ys.length := (Nat.div_lt_iff_lt_mul hK).2 hj
      have hr : j % K < K := Nat.mod_lt _ hK
      have e1 : j / K * K + j % K = j := by rw [Nat.mul_comm]; exact Nat.div_add_mod j K
      have hu2 : (enc ys[j / K])[j % K]? = some u := by
        have h6 : (enc ys[j / K])[j % K]? = some ((enc ys[j / K])[j % K]'(by rw [hk]; exact hr)) := List.getElem?_eq_getElem _
        have h7 := flat_get (xs := ys) hk (j / K) _ (List.getElem?_eq_getElem hq) (j % K) _ h6
        rw [e1, hu] at h7
        rw [h6, ← h7]
      have := hc (j / K) _ (List.getElem?_eq_getElem hq) (j % K) u hu2
      have e2 : (⟨b, off, none⟩ : Addr).add j = ⟨b, off + j, none⟩ := by unfold Addr.add; split <;> simp_all
      rw [e2, ← e1, ← Nat.add_assoc]
      exact this
    · intro u hu
      obtain ⟨y, _, hy⟩ := List.mem_flatMap.1 hu
      exact h1c y u hy
    · have : (L.length + ys.length) * bytes ≤ 10000000 * 1000 := Nat.mul_le_mul hlen hB
      omega
    · intro v' w' ho' hg' _
      exact h v' w' (by simpa using ho') hg'

end Go.Proofs.YtklgknepamebdaaGreatDoor
/- Rounding down: the program's and the reference's. -/
namespace Go.Proofs.YtklgknepamebdaaGreatDoor
open Go.RowKit

theorem w_Down (a b : Int) (w : World) (hb : 1 ≤ b ∧ b ≤ 4611686018427387904) (ha : -4611686018427387904 ≤ a ∧ a ≤ 4611686018427387904) :
    Calls Tryz.prog 139 #[.int .i64 a, .int .i64 b] w fun e w' => e = .returned (.int .i64 (a / b)) ∧ w = w' := by
  have q1 := tdiv_bd a b hb.1
  have q2 : -4611686018427387904 ≤ a.tdiv b ∧ a.tdiv b ≤ 4611686018427387904 := by split at q1 <;> omega
  clear q1
  have b1 : a.tmod b < b := Int.tmod_lt_of_pos a (by omega)
  have b2 : -b < a.tmod b := by have := Int.lt_tmod_of_pos a (b := b) (by omega); omega
  by_cases h : a.tmod b < 0
  · go_enter Tryz.func139, Tryz.ntmps139
    go_wp2
    go_ret
    exact ⟨ret_int (floor_neg a b hb.1 h), rfl⟩
  · go_enter Tryz.func139, Tryz.ntmps139
    go_wp2
    go_ret
    exact ⟨ret_int (floor_pos a b hb.1 (by omega)), rfl⟩

theorem w_floor (a b : Int) (w : World) (hb : 1 ≤ b ∧ b ≤ 4611686018427387904) (ha : -4611686018427387904 ≤ a ∧ a ≤ 4611686018427387904) :
    Calls Tryz.prog 194 #[.int .i64 a, .int .i64 b] w fun e w' => e = .returned (.int .i64 (a / b)) ∧ w = w' := by
  have q1 := tdiv_bd a b hb.1
  have q2 : -4611686018427387904 ≤ a.tdiv b ∧ a.tdiv b ≤ 4611686018427387904 := by split at q1 <;> omega
  clear q1
  have b1 : a.tmod b < b := Int.tmod_lt_of_pos a (by omega)
  have b2 : -b < a.tmod b := by have := Int.lt_tmod_of_pos a (b := b) (by omega); omega
  by_cases h : a.tmod b < 0
  · go_enter Tryz.func194, Tryz.ntmps194
    go_wp2
    go_ret
    exact ⟨ret_int (floor_neg a b hb.1 h), rfl⟩
  · go_enter Tryz.func194, Tryz.ntmps194
    go_wp2
    go_ret
    exact ⟨ret_int (floor_pos a b hb.1 (by omega)), rfl⟩

end Go.Proofs.YtklgknepamebdaaGreatDoor
/- Worlds that only draw and lay blocks. Of no program. -/
namespace Go.Proofs.YtklgknepamebdaaGreatDoor
open Go.RowKit Go.Sort

/-- Draws, and new blocks that stay as they were laid. -/
def Lays (w w' : World) : Prop := ∃ q os, w' = grow (w.drewN q) os
theorem Lays.refl (w : World) : Lays w w := ⟨0, #[], by simp [grow]; rfl⟩
theorem Lays.trans {a b c : World} (h : Lays a b) (k : Lays b c) : Lays a c := by
  obtain ⟨q, os, rfl⟩ := h
  obtain ⟨q', os', rfl⟩ := k
  refine ⟨q + q', os ++ os', ?_⟩
  have e : (grow (a.drewN q) os).drewN q' = grow ((a.drewN q).drewN q') os := rfl
  rw [e, grow_grow, World.drewN_drewN]
theorem Lays.drew {a w : World} (h : Lays a w) : Lays a w.drew := h.trans ⟨1, #[], by simp [grow]; rfl⟩
theorem Lays.drewN {a w : World} (h : Lays a w) (n : Nat) : Lays a (w.drewN n) := h.trans ⟨n, #[], by simp [grow]; rfl⟩
theorem Lays.alloc {a w : World} (h : Lays a w) (o : Obj) : Lays a (w.alloc o) := h.trans ⟨0, #[o], by rw [alloc_eq_grow]; rfl⟩
theorem Lays.nx {a w : World} (h : Lays a w) : Nx a w := by
  obtain ⟨q, os, rfl⟩ := h
  refine ⟨rfl, rfl, rfl, by simp [grow], fun k hk => ?_⟩
  show ((a.heap ++ os)[k]?) = _
  rw [Array.getElem?_append_left (by exact hk)]
theorem Lays.cell {a w : World} (h : Lays a w) {p : Addr} {v : Value} (hc : a.cell? p = some v) : w.cell? p = some v :=
  (Below.cell h.nx (World.block_lt_of_cell? a _ hc)).trans hc

theorem region_still_tail {P : Program} {id : Nat} {Q : Exit → Act → World → Prop} {a : Act} {w : World} {l : List Oper} (n : Nat) (hm : P.follows .mixedOrders = true) (hB : Region.lexTailB .any l.toArray n = true)
    (h : wpStill P l.toArray w.drew (fun a' => wpList P l.toArray Q (l.drop n) a' w.drew) (l.take n) a) : (Code.region id l.toArray true).wp P Q a w := wp_region_still_tail n hm hB h

end Go.Proofs.YtklgknepamebdaaGreatDoor
/- A row of the call's own, as the sort's contracts read it. Of no program. -/
namespace Go.Proofs.YtklgknepamebdaaGreatDoor
open Go.RowKit Go.Sort Go.Proofs Go.Shelf

section
variable {α : Type} [Inhabited α] {enc : α → List Value} {K : Nat}
theorem flatK_toList (hk : ∀ x, (enc x).length = K) (hK : 0 < K) (d : Array α) : (flatK enc K d).toList = d.toList.flatMap enc := by
  apply List.ext_getElem?
  intro t
  by_cases ht : t < d.size * K
  · have h1 : t / K < d.size := (Nat.div_lt_iff_lt_mul hK).2 ht
    have h2 : t % K < K := Nat.mod_lt _ hK
    have e : t / K * K + t % K = t := by rw [Nat.mul_comm]; exact Nat.div_add_mod t K
    have hx : d.toList[t / K]? = some d[t / K]! := by
      rw [Array.getElem?_toList, getElem!_pos d _ h1, Array.getElem?_eq_getElem h1]
    have hu : (enc d[t / K]!)[t % K]? = some (enc d[t / K]!)[t % K]! := by
      have h5 : t % K < (enc d[t / K]!).length := by rw [hk]; exact h2
      rw [getElem!_pos (enc d[t / K]!) (t % K) h5]
      exact List.getElem?_eq_getElem h5
    have h3 := flat_get (xs := d.toList) hk (t / K) _ hx (t % K) _ hu
    rw [e] at h3
    rw [h3, Array.getElem?_toList]
    have hs : t < (flatK enc K d).size := by rw [size_flatK]; exact ht
    rw [Array.getElem?_eq_getElem hs, ← getElem!_pos (flatK enc K d) t hs, get_flatK _ _ _ _ ht]
  · rw [List.getElem?_eq_none (by rw [Array.length_toList, size_flatK]; omega), List.getElem?_eq_none (by rw [flat_len hk, Array.length_toList]; omega)]

variable {w : World} {base g cap n : Nat} {e : TypeId} {xs : List α}
theorem holds_of_own (hk : ∀ x, (enc x).length = K) (hK : 0 < K) (hn : xs.length = n) (h : w.ownsRow base e K (.slice (some ⟨g, 0, none⟩) n cap) n (xs.flatMap enc)) : HoldsK enc K w g 0 xs.toArray := by
  intro j hj
  rw [size_flatK] at hj
  have hj' : j < n * K := by rw [← hn]; simpa using hj
  have hs : j < (flatK enc K xs.toArray).size := by rw [size_flatK]; exact hj
  refine ⟨?_, by rw [Nat.zero_add]; exact h.frozenAt j⟩
  rw [Nat.zero_add, h.cellAt j hj', ← flatK_toList hk hK xs.toArray, Array.getElem?_toList, Array.getElem?_eq_getElem hs, getElem!_pos (flatK enc K xs.toArray) j hs]
  rfl

theorem own_of_sorted (hk : ∀ x, (enc x).length = K) (hK : 0 < K) (h : w.ownsRow base e K (.slice (some ⟨g, 0, none⟩) n cap) n (xs.flatMap enc)) (ys : List α) (hy : ys.length = n) (m : Nat) (os : Array Obj) :
    (sortWorldK enc K w g 0 m ys.toArray os).ownsRow base e K (.slice (some ⟨g, 0, none⟩) n cap) n (ys.flatMap enc) ∧ Gr g w (sortWorldK enc K w g 0 m ys.toArray os) := by
  have hlt := (h.lt g rfl)
  have hF : (flatK enc K ys.toArray).size = n * K := by rw [size_flatK]; simp [hy]
  constructor
  · rcases h.2 with ⟨h0, _⟩ | ⟨g', cap', cur, hv, hg, hh, hnc, hcm, hcs, ht⟩
    · cases h0
    · cases hv
      refine ⟨by rw [flat_len hk, hy], .inr ⟨g, cap, putCells id 0 (flatK enc K ys.toArray) cur, rfl, hlt.1, ?_, hnc, hcm, by simp [putCells, hcs], ?_⟩⟩
      · unfold sortWorldK
        rw [heap_grow_old _ _ (by simpa [putRowK] using hlt.2)]
        simp [putRowK, putRow, mapBlock, Sort.ahead, Array.getElem?_modify, hh, onCells]
      · have hle : n * K ≤ cur.size := by rw [hcs]; exact Nat.mul_le_mul_right K hnc
        apply List.ext_getElem?
        intro j
        by_cases hj : j < n * K
        · rw [List.getElem?_take_of_lt hj, Array.getElem?_toList]
          have hjc : j < cur.size := by omega
          have hs : j < (flatK enc K ys.toArray).size := by rw [hF]; exact hj
          have e1 := flatK_toList hk hK ys.toArray
          have e2 : (ys.flatMap enc)[j]? = some (flatK enc K ys.toArray)[j]! := by
            show (ys.toArray.toList.flatMap enc)[j]? = _
            rw [← e1, Array.getElem?_toList, Array.getElem?_eq_getElem hs, getElem!_pos (flatK enc K ys.toArray) j hs]
          rw [e2]
          simp [putCells, hjc, hF, hj]
        · rw [List.getElem?_take_eq_none (by omega), List.getElem?_eq_none (by rw [flat_len hk, hy]; omega)]
  · refine ⟨rfl, rfl, rfl, by simp [sortWorldK, putRowK, grow], fun k hkk hne => ?_⟩
    unfold sortWorldK
    rw [heap_grow_old _ _ (by simpa [putRowK] using hkk)]
    have : g ≠ k := fun e => hne (by rw [e])
    simp [putRowK, putRow, mapBlock, Sort.ahead, Array.getElem?_modify, this]
end

end Go.Proofs.YtklgknepamebdaaGreatDoor
/- Plain: sorting by insertion is stable. -/
namespace Go.Proofs.YtklgknepamebdaaGreatDoor
open Go.Sort Go.Proofs
variable {α : Type} [Inhabited α]
theorem get_bang {d : Array α} {pre suf : List α} {x : α} (h : d.toList = pre ++ x :: suf) : d[pre.length]! = x := by
  have h1 : d[pre.length]? = some x := by rw [← Array.getElem?_toList, h, List.getElem?_append_right (Nat.le_refl _)]; simp
  rw [getElem!_def, h1]
theorem swp_list {d : Array α} {q suf : List α} {x y : α} (h : d.toList = q ++ y :: x :: suf) : (swp d (q.length + 1) q.length).toList = q ++ x :: y :: suf := by
  have h1 : d[q.length]! = y := get_bang h
  have h2 : d[q.length + 1]! = x := by
    have : d.toList = (q ++ [y]) ++ x :: suf := by rw [h]; simp
    have := get_bang this
    simpa using this
  unfold swp
  rw [h1, h2]
  simp only [Array.toList_setIfInBounds, h]
  rw [List.set_append_right _ _ (by omega), show q.length + 1 - q.length = 1 by omega, List.set_cons_succ, List.set_cons_zero, List.set_append_right _ _ (by omega), Nat.sub_self, List.set_cons_zero]
theorem inner_list (lt : α → α → Bool) : ∀ (n : Nat) (pre suf : List α) (x : α) (d : Array α), pre.length = n → d.toList = pre ++ x :: suf → ∃ p1 p2, pre = p1 ++ p2 ∧ (insInner lt 0 n d).toList = p1 ++ x :: (p2 ++ suf) ∧ (∀ y ∈ p2, lt x y = true) ∧ (∀ q y, p1 = q ++ [y] → lt x y = false)
  | 0, pre, suf, x, d, hn, hd => by
    have : pre = [] := List.eq_nil_of_length_eq_zero hn
    subst this
    exact ⟨[], [], rfl, by simpa [insInner] using hd, by simp, by simp⟩
  | n + 1, pre, suf, x, d, hn, hd => by
    have hne : pre ≠ [] := by intro e; subst e; simp at hn
    obtain ⟨q, y, rfl⟩ : ∃ q y, pre = q ++ [y] := ⟨pre.dropLast, pre.getLast hne, (List.dropLast_concat_getLast hne).symm⟩
    have hq : q.length = n := by simpa using hn
    have hx : d[n + 1]! = x := by rw [← hn]; exact get_bang hd
    have hy : d[n]! = y := by rw [← hq]; exact get_bang (suf := x :: suf) (by rw [hd]; simp)
    unfold insInner
    rw [hx, hy]
    by_cases hl : lt x y = true
    · rw [if_pos (by simp [hl])]
      obtain ⟨p1, p2, e1, e2, e3, e4⟩ := inner_list lt n q (y :: suf) x (swp d (n + 1) n) hq (by rw [← hq]; exact swp_list (by rw [hd]; simp))
      refine ⟨p1, p2 ++ [y], by rw [e1]; simp, by rw [e2]; simp, fun z hz => ?_, e4⟩
      rcases List.mem_append.1 hz with hz | hz
      · exact e3 z hz
      · simp at hz; subst hz; exact hl
    · rw [if_neg (by simp [hl])]
      refine ⟨q ++ [y], [], by simp, by simpa using hd, by simp, fun q' y' e => ?_⟩
      have := List.append_inj' e rfl
      simp at this
      rw [← this.2]
      simpa using hl
/-- Sorting by insertion is stable: S is the order at first, R the order behind it. -/
theorem outer_list (lt : α → α → Bool) {R S : α → α → Prop} (h1 : ∀ x y, lt x y = true → R x y) (h2 : ∀ x y, S y x → lt x y = false → R y x) (htr : ∀ x y z, R x y → R y z → R x z) :
    ∀ (m : Nat) (b i : Nat) (d : Array α) (pre suf : List α), b - i = m → i ≤ b → pre.length = i → d.toList = pre ++ suf → b = (pre ++ suf).length → pre.Pairwise R → (∀ y ∈ pre, ∀ x ∈ suf, S y x) → suf.Pairwise S → ((insOuter lt 0 b i d).toList.Perm (pre ++ suf) ∧ (insOuter lt 0 b i d).toList.Pairwise R)
  | 0, b, i, d, pre, suf, hm, hib, hp, hd, hb, hR, hS, hs => by
    have : suf = [] := List.eq_nil_of_length_eq_zero (by simp at hb; omega)
    subst this
    rw [insOuter_stop lt 0 b i d (by omega), hd]
    exact ⟨List.Perm.refl _, by simpa using hR⟩
  | m + 1, b, i, d, pre, suf, hm, hib, hp, hd, hb, hR, hS, hs => by
    cases suf with
    | nil => simp at hb; omega
    | cons x suf =>
      rw [insOuter_go lt 0 b i d (by omega)]
      obtain ⟨p1, p2, e1, e2, e3, e4⟩ := inner_list lt i pre suf x d hp hd
      have hsx := List.pairwise_cons.1 hs
      have hR' : (p1 ++ x :: p2).Pairwise R := by
        subst e1
        rw [List.pairwise_append] at hR ⊢
        have hlast : ∀ y ∈ p1, R y x := by
          intro y hy
          have hne : p1 ≠ [] := List.ne_nil_of_mem hy
          obtain ⟨q, z, e⟩ : ∃ q z, p1 = q ++ [z] := ⟨p1.dropLast, p1.getLast hne, (List.dropLast_concat_getLast hne).symm⟩
          have hz : R z x := h2 x z (hS z (by simp [e]) x (by simp)) (e4 q z e)
          rw [e] at hy
          rcases List.mem_append.1 hy with hy | hy
          · have hp := hR.1
            rw [e, List.pairwise_append] at hp
            exact htr y z x (hp.2.2 y hy z (by simp)) hz
          · simp at hy; subst hy; exact hz
        refine ⟨hR.1, List.pairwise_cons.2 ⟨fun y hy => h1 x y (e3 y hy), hR.2.1⟩, fun y hy z hz => ?_⟩
        rcases List.mem_cons.1 hz with rfl | hz
        · exact hlast y hy
        · exact hR.2.2 y hy z hz
      have hperm : (p1 ++ x :: p2).Perm (pre ++ [x]) := by
        subst e1
        exact (List.perm_middle).trans (List.perm_append_singleton x (p1 ++ p2)).symm
      have hl : (p1 ++ x :: p2).length = i + 1 := by have := hperm.length_eq; simp at this ⊢; omega
      have ih := outer_list lt h1 h2 htr m b (i + 1) (insInner lt 0 i d) (p1 ++ x :: p2) suf (by omega) (by simp at hb; omega) hl (by rw [e2]; simp) (by simp at hb hl ⊢; omega) hR'
        (fun y hy z hz => by
          have hy' := hperm.mem_iff.1 hy
          rcases List.mem_append.1 hy' with hy' | hy'
          · exact hS y hy' z (by simp [hz])
          · simp at hy'; subst hy'; exact hsx.1 z hz) hsx.2
      refine ⟨ih.1.trans ?_, ih.2⟩
      have := hperm.append_right suf
      simpa using this
theorem ins_stable (lt : α → α → Bool) {R S : α → α → Prop} (h1 : ∀ x y, lt x y = true → R x y) (h2 : ∀ x y, S y x → lt x y = false → R y x) (htr : ∀ x y z, R x y → R y z → R x z) (d : Array α) (hS : d.toList.Pairwise S) :
    (insertionSort lt d 0 d.size).toList.Perm d.toList ∧ (insertionSort lt d 0 d.size).toList.Pairwise R := by
  unfold insertionSort
  cases hd : d.toList with
  | nil =>
    have : d.size = 0 := by rw [← Array.length_toList, hd]; rfl
    rw [insOuter_stop lt 0 _ _ d (by omega), hd]
    exact ⟨List.Perm.refl _, List.Pairwise.nil⟩
  | cons x l =>
    rw [hd] at hS
    have hx := List.pairwise_cons.1 hS
    have hsz : d.size = l.length + 1 := by rw [← Array.length_toList, hd]; rfl
    exact outer_list lt h1 h2 htr _ d.size 1 d [x] l rfl (by omega) rfl hd (by rw [hsz]; simp) (by simp) (fun y hy z hz => by simp at hy; subst hy; exact hx.1 z hz) hx.2
end Go.Proofs.YtklgknepamebdaaGreatDoor
