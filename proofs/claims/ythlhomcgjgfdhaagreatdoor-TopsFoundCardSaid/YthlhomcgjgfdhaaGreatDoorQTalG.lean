/- The stream's right tallies, and that they are right. -/
import Derived.Test.YthlhomcgjgfdhaaGreatDoorQG6
namespace Go.Proofs.YthlhomcgjgfdhaaGreatDoor
open Go.RowKit Go.Sort Go.Shelf Go.Maps

/-- A literal of numbers in a block of its own. -/
def LitB (w : World) (G : Nat) (zs : List Int) : Prop := w.heap[G]? = some (.cells (zs.map (Value.int .i64)).toArray 3 (0, 0))
theorem LitB.cell {w : World} {G : Nat} {zs : List Int} (h : LitB w G zs) (i : Nat) (hi : i < zs.length) : w.cell? ⟨G, i, none⟩ = some (.int .i64 zs[i]) := by
  rw [cell_of_row w G i _ _ _ h]; simp [hi]
theorem own_ne {w : World} {base : Nat} {e t : TypeId} {K n : Nat} {v : Value} {xs : List Value} {G : Nat} {cs : Array Value} (h : w.ownsRow base e K v n xs) (hb : w.heap[G]? = some (.cells cs t (0, 0))) (hne : t ≠ e) : v.ownBlock ≠ some G := by
  rcases h.2 with ⟨rfl, _⟩ | ⟨g, cap, cur, rfl, _, hg, _⟩
  · intro e; cases e
  · intro e
    injection e with e
    subst e
    rw [hb] at hg
    injection hg with hg
    injection hg with _ h2 _
    exact hne h2
theorem LitB.grown {w w' : World} {row : Option Nat} {G : Nat} {zs : List Int} (h : LitB w G zs) (hg : w.grownBy w' row) (hr : row ≠ some G) : LitB w' G zs := by
  have hlt : G < w.heap.size := (Array.getElem?_eq_some_iff.1 h).1
  unfold LitB
  rw [hg.block G hlt (fun e => hr e.symm)]
  exact h
theorem LitB.nx {w w' : World} {G : Nat} {zs : List Int} (h : LitB w G zs) (hn : Nx w w') : LitB w' G zs := h.grown (hn.gr none) (by simp)
theorem LitB.lt {w : World} {G : Nat} {zs : List Int} (h : LitB w G zs) : G < w.heap.size := (Array.getElem?_eq_some_iff.1 h).1


def keyG (t : Tally) : Int × Int × Int := (t.x, t.y, t.hour)
def gridT : List (Int × Int × Int) := [-1, 0, 1, 10000].flatMap (fun x => [0, 1].flatMap (fun y => [0, 8, 167].map (fun h => (x, y, h))))
/-- Tallies out of the grid's first q places, in their order. -/
def RtOk (L : List Tally) (q : Nat) : Prop := L.length ≤ q ∧ (L.map keyG).Sublist (gridT.take q) ∧ ∀ t ∈ L, 1 ≤ t.many ∧ t.many ≤ 100
theorem RtOk.nil : RtOk [] (6 * 0) := ⟨Nat.zero_le _, by simp, fun t ht => by cases ht⟩
theorem RtOk.skip {L : List Tally} {q : Nat} (h : RtOk L q) : RtOk L (q + 1) := ⟨by have := h.1; omega, h.2.1.trans (List.take_sublist_take_left (by omega)), h.2.2⟩
theorem RtOk.add {L : List Tally} {q : Nat} {x y hh m : Int} (h : RtOk L q) (hk : gridT[q]? = some (x, y, hh)) (hm : 1 ≤ m ∧ m ≤ 100) : RtOk (L ++ [⟨x, y, hh, m⟩]) (q + 1) := by
  obtain ⟨hq, he⟩ := List.getElem?_eq_some_iff.1 hk
  refine ⟨by have := h.1; simp; omega, ?_, fun t ht => ?_⟩
  · rw [List.take_succ_eq_append_getElem hq, List.map_append, he]
    exact List.Sublist.append h.2.1 (List.Sublist.refl _)
  · rcases List.mem_append.1 ht with ht | ht
    · exact h.2.2 t ht
    · rw [List.mem_singleton.1 ht]; exact hm
theorem grid_at {n m j : Nat} {x y hh : Int} (hn : n < 4) (hm : m < 2) (hj : j < 3) (hx : ([-1, 0, 1, 10000] : List Int)[n]? = some x) (hy : ([0, 1] : List Int)[m]? = some y) (hh' : ([0, 8, 167] : List Int)[j]? = some hh) : gridT[6 * n + 3 * m + j]? = some (x, y, hh) := by
  have h : ∀ (n : Fin 4) (m : Fin 2) (j : Fin 3), gridT[6 * n.val + 3 * m.val + j.val]? = some ((([-1, 0, 1, 10000] : List Int)[n.val]?).getD 0, (([0, 1] : List Int)[m.val]?).getD 0, (([0, 8, 167] : List Int)[j.val]?).getD 0) := by decide
  have h1 := h ⟨n, hn⟩ ⟨m, hm⟩ ⟨j, hj⟩
  simp only [hx, hy, hh', Option.getD_some] at h1
  exact h1
theorem RtOk.valid {L : List Tally} {q : Nat} (h : RtOk L q) : ∀ t ∈ L, (-1 ≤ t.x ∧ t.x ≤ 10000) ∧ (0 ≤ t.y ∧ t.y ≤ 1) ∧ (0 ≤ t.hour ∧ t.hour ≤ 167) ∧ 1 ≤ t.many ∧ t.many ≤ 100 := by
  intro t ht
  have h1 : keyG t ∈ gridT := List.mem_of_mem_take (h.2.1.subset (List.mem_map.2 ⟨t, ht, rfl⟩))
  have h2 : ∀ k ∈ gridT, (-1 ≤ k.1 ∧ k.1 ≤ 10000) ∧ (0 ≤ k.2.1 ∧ k.2.1 ≤ 1) ∧ (0 ≤ k.2.2 ∧ k.2.2 ≤ 167) := by decide
  obtain ⟨a, b, c⟩ := h2 _ h1
  exact ⟨a, b, c, h.2.2 t ht⟩
/-- Right tallies in a row of their own. -/
def StrTal (s k : Nat) (w : World) (e : Ending) (w' : World) : Prop :=
  ∃ (v : Value) (L : List Tally), e = .returned v ∧ RtOk L 24 ∧ w'.ownsRow w.heap.size 55 4 v L.length (L.flatMap encTally) ∧ Gr s w w' ∧ Str w' s k

set_option maxRecDepth 100000 in
set_option maxHeartbeats 4000000 in
theorem w_RightTG (s k : Nat) (w : World) (hS : Str w s k) (hk : k < 800000) :
    Calls Tryz.prog 38 #[.pointer (some ⟨s, 0, none⟩)] w (StrTal s (k + 60) w) := by
  have hsl := hS.lt
  have HS := hide hS
  clear hS
  go_enter Tryz.func38, Tryz.ntmps38
  go_wp2_with fail
  obtain ⟨w1, hw1⟩ : ∃ w1, w1 = w.alloc (.cells #[.int .i64 (-1), .int .i64 0, .int .i64 1, .int .i64 10000] 3) := ⟨_, rfl⟩
  have hN1 : Nx w w1 := by rw [hw1]; exact (Nx.refl _).alloc _
  have hB1 : LitB w1 w.heap.size [-1, 0, 1, 10000] := by rw [hw1]; exact hnew rfl
  have hS1 : Str w1 s k := HS.out.nx hN1
  have hG1 : Gr s w w1 := by rw [hw1]; exact (Gr.refl _ _).alloc _
  have HB1 := hide hB1
  have HS1 := hide hS1
  rw [← hw1]
  clear hw1 hB1 hS1
  go_loopw [3, 5, 7, 9, 12, 18, 24] (fun v _ _ _ i _ _ wr => ∃ (n : Nat) (L : List Tally), n ≤ 4 ∧ i = .int .i64 n ∧ RtOk L (6 * n) ∧ wr.ownsRow w.heap.size 55 4 v L.length (L.flatMap encTally) ∧ Gr s w wr ∧ Str wr s (k + 12 * n) ∧ LitB wr w.heap.size [-1, 0, 1, 10000]) (fun _ _ _ _ i _ _ _ => 4 - (intOf i).toNat)
  case atStart => exact ⟨0, [], by omega, rfl, RtOk.nil, World.ownsRow_nil _ _ _ _, hG1, HS1.out, HB1.out⟩
  case round =>
    obtain ⟨n, L, hn, rfl, hL, hown, hgr, hSr, hB⟩ := hrel
    by_cases hlt : n < 4
    · have Tn : decide ((n : Int) < 4) = true := decide_eq_true (by omega)
      have cx := hB.cell n (by simpa using hlt)
      have hxq : ([-1, 0, 1, 10000] : List Int)[n]? = some (([-1, 0, 1, 10000] : List Int)[n]'(by simpa using hlt)) := List.getElem?_eq_getElem _
      generalize ([-1, 0, 1, 10000] : List Int)[n]'(by simpa using hlt) = x at *
      have HXQ := hide hxq
      clear hxq
      go_wp2_with fail
      obtain ⟨w2, hw2⟩ : ∃ w2, w2 = wr.alloc (.cells #[.int .i64 0, .int .i64 1] 3) := ⟨_, rfl⟩
      have hn2 : Nx wr w2 := by rw [hw2]; exact (Nx.refl _).alloc _
      have hB2 : LitB w2 wr.heap.size [0, 1] := by rw [hw2]; exact hnew rfl
      have hA2 := hide (And.intro (own_nx hown hn2) (And.intro (show Gr s w w2 by rw [hw2]; exact hgr.alloc _) (And.intro (hSr.nx hn2) (And.intro (hB.nx hn2) hB2))))
      have hsG2 : s < wr.heap.size := by have := hgr.sz; omega
      have hwG2 : w.heap.size < wr.heap.size := hB.lt
      rw [← hw2]
      clear hw2 hn2 hB2 hown hgr hSr hB cx
      generalize wr.heap.size = G2 at *
      go_loopw [3, 7, 9, 18, 24] (fun v _ _ i _ wr => ∃ (m : Nat) (L : List Tally), m ≤ 2 ∧ i = .int .i64 m ∧ RtOk L (6 * n + 3 * m) ∧ wr.ownsRow w.heap.size 55 4 v L.length (L.flatMap encTally) ∧ Gr s w wr ∧ Str wr s (k + 12 * n + 6 * m) ∧ LitB wr w.heap.size [-1, 0, 1, 10000] ∧ LitB wr G2 [0, 1]) (fun _ _ _ i _ _ => 2 - (intOf i).toNat)
      case atStart => exact ⟨0, L, by omega, rfl, hL, hA2.out.1, hA2.out.2.1, hA2.out.2.2.1, hA2.out.2.2.2.1, hA2.out.2.2.2.2⟩
      case round =>
        obtain ⟨m, L, hm, rfl, hL, hown, hgr, hSr, hB, hB2⟩ := hrel
        by_cases hlm : m < 2
        · have Tm : decide ((m : Int) < 2) = true := decide_eq_true (by omega)
          have cy := hB2.cell m (by simpa using hlm)
          have hyq : ([0, 1] : List Int)[m]? = some (([0, 1] : List Int)[m]'(by simpa using hlm)) := List.getElem?_eq_getElem _
          generalize ([0, 1] : List Int)[m]'(by simpa using hlm) = y at *
          have HYQ := hide hyq
          clear hyq
          go_wp2_with fail
          obtain ⟨w3, hw3⟩ : ∃ w3, w3 = wr.alloc (.cells #[.int .i64 0, .int .i64 8, .int .i64 167] 3) := ⟨_, rfl⟩
          have hn3 : Nx wr w3 := by rw [hw3]; exact (Nx.refl _).alloc _
          have hB3 : LitB w3 wr.heap.size [0, 8, 167] := by rw [hw3]; exact hnew rfl
          have hA3 := hide (And.intro (own_nx hown hn3) (And.intro (show Gr s w w3 by rw [hw3]; exact hgr.alloc _) (And.intro (hSr.nx hn3) (And.intro (hB.nx hn3) (And.intro (hB2.nx hn3) hB3)))))
          have hsG3 : s < wr.heap.size := by have := hgr.sz; omega
          have hwG3 : G2 < wr.heap.size := hB2.lt
          rw [← hw3]
          clear hw3 hn3 hB3 hown hgr hSr hB hB2 cy
          generalize wr.heap.size = G3 at *
          go_loopw [3, 9, 24] (fun v _ i wr => ∃ (j : Nat) (L : List Tally), j ≤ 3 ∧ i = .int .i64 j ∧ RtOk L (6 * n + 3 * m + j) ∧ wr.ownsRow w.heap.size 55 4 v L.length (L.flatMap encTally) ∧ Gr s w wr ∧ Str wr s (k + 12 * n + 6 * m + 2 * j) ∧ LitB wr w.heap.size [-1, 0, 1, 10000] ∧ LitB wr G2 [0, 1] ∧ LitB wr G3 [0, 8, 167]) (fun _ _ i _ => 3 - (intOf i).toNat)
          case atStart => exact ⟨0, L, by omega, rfl, hL, hA3.out.1, hA3.out.2.1, hA3.out.2.2.1, hA3.out.2.2.2.1, hA3.out.2.2.2.2.1, hA3.out.2.2.2.2.2⟩
          case round =>
            obtain ⟨j, L, hj, rfl, hL, hown, hgr, hSr, hB, hB2, hB3⟩ := hrel
            have hLq := hL.1
            by_cases hlj : j < 3
            · have Tj : decide ((j : Int) < 3) = true := decide_eq_true (by omega)
              have ch := hB3.cell j (by simpa using hlj)
              have hhq : ([0, 8, 167] : List Int)[j]? = some (([0, 8, 167] : List Int)[j]'(by simpa using hlj)) := List.getElem?_eq_getElem _
              generalize ([0, 8, 167] : List Int)[j]'(by simpa using hlj) = hh at *
              have HKY := hide (grid_at hlt hlm hlj HXQ.out HYQ.out hhq)
              clear hhq
              have hsz := hgr.sz
              go_wp2_with fail
              refine (w_Flip _ _ _ _ hSr (by omega) (by omega)).mono ?_
              rintro e w4 ⟨b, rfl, hg4, hS4⟩
              have hown4 := own_gr hown hg4 hsl
              have hgr4 := hgr.trans hg4
              have hBB4 := hide (And.intro (hB.grown hg4 (by simp; omega)) (And.intro (hB2.grown hg4 (by simp; omega)) (hB3.grown hg4 (by simp; omega))))
              clear hB hB2 hB3 ch
              cases b
              · go_wp2
                go_roundw
                case rel => exact ⟨j + 1, L, by omega, by go_num, hL.skip, hown4, hgr4, hS4.more (by omega), hBB4.out.1, hBB4.out.2.1, hBB4.out.2.2⟩
                case measure => simp [intOf]; omega
              · go_wp2_with fail
                have hsl4 := hgr4.sz
                refine (w_PickI _ [1, 2, 5, 5, 100] _ _ _ _ (hS4.nx ((Nx.refl _).alloc _)) (by omega) (hnew rfl) (by have := hS4.lt; omega) rfl (by simp) (by simp)).mono ?_
                rintro e w5 ⟨r5, hr5, rfl, hg5, hS5⟩
                have HR5 := hide (show 1 ≤ r5 ∧ r5 ≤ 100 by simp only [List.mem_cons, List.not_mem_nil, or_false] at hr5; omega)
                have hown5 := own_gr (hown4.alloc (.cells #[.int .i64 1, .int .i64 2, .int .i64 5, .int .i64 5, .int .i64 100] 3)) hg5 hsl
                have hgr5 := (hgr4.alloc _).trans hg5
                have hBB5 := hide (And.intro ((hBB4.out.1.nx ((Nx.refl _).alloc _)).grown hg5 (by simp; omega)) (And.intro ((hBB4.out.2.1.nx ((Nx.refl _).alloc _)).grown hg5 (by simp; omega)) ((hBB4.out.2.2.nx ((Nx.refl _).alloc _)).grown hg5 (by simp; omega))))
                have hsz5 := hgr5.sz
                clear hown hown4
                go_wp2_with (at_builtin; refine wpApp rfl _ _ _ rfl el_Tally encTally encTally_len encTally_one (by omega) (by omega) w.heap.size _ L rfl (hown5.alloc _) _ ⟨x, y, hh, r5⟩ _ rfl (hnew rfl) rfl (by omega) (by simp; omega) ?_; intro v6 w6 hown6 hg6)
                have hown5' := hown5.alloc (.cells #[.int .i64 x, .int .i64 y, .int .i64 hh, .int .i64 r5] 55)
                have hgr6 := (hgr5.alloc _).grown hg6 (fun j hj => .inr (own_blk_lt hown5 j hj))
                have hS6 := (hS5.nx ((Nx.refl _).alloc _)).row hg6 (fun j hj => by have := own_blk_lt hown5 j hj; omega)
                have hBB6 := hide (And.intro ((hBB5.out.1.nx ((Nx.refl _).alloc _)).grown hg6 (own_ne hown5' (hBB5.out.1.nx ((Nx.refl _).alloc _)) (by decide))) (And.intro ((hBB5.out.2.1.nx ((Nx.refl _).alloc _)).grown hg6 (own_ne hown5' (hBB5.out.2.1.nx ((Nx.refl _).alloc _)) (by decide))) ((hBB5.out.2.2.nx ((Nx.refl _).alloc _)).grown hg6 (own_ne hown5' (hBB5.out.2.2.nx ((Nx.refl _).alloc _)) (by decide)))))
                go_roundw
                case rel => exact ⟨j + 1, L ++ [⟨x, y, hh, r5⟩], by omega, by go_num, hL.add HKY.out HR5.out, hown6, hgr6, hS6.more (by omega), hBB6.out.1, hBB6.out.2.1, hBB6.out.2.2⟩
                case measure => simp [intOf]; omega
            · go_wp2
              go_roundw
              case rel => exact ⟨m + 1, L, by omega, by go_num, (by have e : 6 * n + 3 * m + j = 6 * n + 3 * (m + 1) := (by omega); rw [← e]; exact hL), hown, hgr, hSr.more (by omega), hB, hB2⟩
              case measure => simp [intOf]; omega
        · go_wp2
          go_roundw
          case rel => exact ⟨n + 1, L, by omega, by go_num, (by have e : 6 * n + 3 * m = 6 * (n + 1) := (by omega); rw [← e]; exact hL), hown, hgr, hSr.more (by omega), hB⟩
          case measure => simp [intOf]; omega
    · go_wp2
      go_ret
      exact ⟨_, L, rfl, (by have e : 6 * n = 24 := (by omega); rw [← e]; exact hL), hown, hgr, hSr.more (by omega)⟩
end Go.Proofs.YthlhomcgjgfdhaaGreatDoor
