/- Events in rows. -/
import Derived.Test.YtfkmbeppckelfaaGreatDoorQG10
import Derived.Test.YtfkmbeppckelfaaGreatDoorQRfN
import Derived.Deep.Onto
import Derived.Test.YtfkmbeppckelfaaGreatDoorQG1
import Derived.Test.YtfkmbeppckelfaaGreatDoorQG5
import Derived.Test.YtfkmbeppckelfaaGreatDoorQG2
namespace Go.Proofs.YtfkmbeppckelfaaGreatDoor
open Go.RowKit Go.Maps

def ev0 : Ev := ⟨eB, 0, 0, 0, eB, eB, eB, 0, 0, eB, 0⟩
theorem el_Evt : ElemOf Tryz.prog 26 31 11 128 := ElemOf.mk' (z := .agg (evA ev0)) Tryz.underlying26 (by kernel_rfl) rfl
theorem encEvt_one (x : Ev) : ∀ v ∈ encEvt x, v.oneCell' = true := by
  intro v hv; simp [encEvt] at hv
  rcases hv with rfl | rfl | rfl | rfl | rfl | rfl | rfl | rfl | rfl | rfl | rfl <;> rfl
/-- A row of one's own with its capacity. -/
theorem own_rd {α : Type} {w : World} {K : Nat} {enc : α → List Value} {xs : List α} {base : Nat} {e : TypeId} {v : Value} (hk : ∀ x, (enc x).length = K) (h : w.ownsRow base e K v xs.length (xs.flatMap enc)) :
    ∃ A c, v = .slice A xs.length c ∧ xs.length ≤ c ∧ Rd w base A K enc xs ∧ (∀ g off q, A = some ⟨g, off, q⟩ → off = 0 ∧ q = none ∧ base ≤ g ∧ g < w.heap.size) := by
  have h0 := h
  obtain ⟨A, c, ev, hR, hA⟩ := Rd.of_own hk rfl h0
  refine ⟨A, c, ev, ?_, hR, fun g off q e => ?_⟩
  · rcases h.2 with ⟨e2, h1⟩ | ⟨g, cap, cur, e2, _, _, h1, _⟩
    · omega
    · rw [ev] at e2; injection e2 with _ _ e3; omega
  · obtain ⟨g', e1, e2, e3⟩ := hA _ e
    injection e1 with a1 a2 a3
    exact ⟨a2, a3, by omega, by omega⟩
end Go.Proofs.YtfkmbeppckelfaaGreatDoor
/- Which events were taken back: the reference's list. -/
namespace Go.Proofs.YtfkmbeppckelfaaGreatDoor
open Go.RowKit

theorem el_IntE : ElemOf Tryz.prog 22 3 1 8 := ElemOf.mk' (z := .int .i64 0) Tryz.underlying22 (by kernel_rfl) rfl
theorem encIE_len (z : Int) : (encI z).length = 1 := rfl
theorem encIE_one (z : Int) : ∀ v ∈ encI z, v.oneCell' = true := by
  intro v hv; simp [encI] at hv; subst hv; rfl
theorem undI_undoes (l : List Ev) (i : Nat) (o : Ev) : undI l (i : Int) o = undoesB l i o := by
  unfold undI undoesB
  rw [tgtI_eq]
  have h1 : (o.kind == 9) = decide (o.kind = 9) := rfl
  rw [h1]
  congr 1
  cases h : tgtF l o.from_ o.number with
  | none => simp <;> omega
  | some j =>
    simp only [Option.some.injEq]
    rw [Bool.eq_iff_iff]
    simp
    omega
/-- The numbers of those that were taken back, of the first k. -/
def undoneL (l : List Ev) : Nat → List Int
  | 0 => []
  | k + 1 => if goneB l k = true then undoneL l k ++ [(k : Int)] else undoneL l k
theorem undoneL_len (l : List Ev) : ∀ k, (undoneL l k).length ≤ k
  | 0 => Nat.le_refl _
  | k + 1 => by
    have := undoneL_len l k
    unfold undoneL
    split
    · simp; omega
    · omega
theorem undoneL_mem (l : List Ev) (z : Int) : ∀ k, z ∈ undoneL l k ↔ ∃ i : Nat, z = i ∧ i < k ∧ goneB l i = true
  | 0 => by simp [undoneL]
  | k + 1 => by
    unfold undoneL
    have ih := undoneL_mem l z k
    split
    · rename_i h
      rw [List.mem_append, ih]
      constructor
      · rintro (⟨i, a, b, c⟩ | h2)
        · exact ⟨i, a, by omega, c⟩
        · simp at h2; exact ⟨k, h2, by omega, h⟩
      · rintro ⟨i, a, b, c⟩
        rcases Nat.lt_or_ge i k with h1 | h1
        · exact .inl ⟨i, a, h1, c⟩
        · right; have : i = k := by omega
          subst this; simp [a]
    · rename_i h
      rw [ih]
      constructor
      · rintro ⟨i, a, b, c⟩; exact ⟨i, a, by omega, c⟩
      · rintro ⟨i, a, b, c⟩
        rcases Nat.lt_or_ge i k with h1 | h1
        · exact ⟨i, a, h1, c⟩
        · have : i = k := by omega
          subst this; exact absurd c h
theorem enters_undone1 : Enters 92 := enters_of Tryz.func92 (by kernel_rfl) rfl
theorem enters_undF1 : Enters 133 := enters_of Tryz.func133 (by kernel_rfl) rfl
set_option maxRecDepth 100000 in
set_option maxHeartbeats 2000000 in
theorem w_UndoneOf (lo : Nat) (A : Option Addr) (c : Nat) (l : List Ev) (w : World) (hR : Rd w lo A 11 encEvt l) (hl : l.length ≤ 1000) :
    Calls Tryz.prog 53 #[.slice A l.length c] w fun e w' => ∃ v, e = .returned v ∧ w'.ownsRow w.heap.size 3 1 v (undoneL l l.length).length ((undoneL l l.length).flatMap encI) ∧ Nx w w' := by
  have HR := hide hR
  have HL := hide hl
  obtain ⟨n, hn⟩ : ∃ n, n = l.length := ⟨_, rfl⟩
  have hnl : n ≤ 1000 := by omega
  rw [← hn]
  have HN := hide hn
  obtain ⟨w1, hw1⟩ : ∃ w1, w1 = w.alloc (.cells #[.slice A n c] 26 (0, 0)) := ⟨_, rfl⟩
  have hn1 : Nx w w1 := hw1 ▸ (Nx.refl w).alloc _
  have hb1 : w1.heap[w.heap.size]? = some (.cells #[.slice A n c] 26 (0, 0)) := by rw [hw1]; exact heap_alloc_new w _
  have hq : w1.cell? ⟨w.heap.size, 0, none⟩ = some (.slice A n c) := cell_of_row w1 _ 0 _ _ _ hb1
  have hql := (Array.getElem?_eq_some_iff.1 hb1).1
  obtain ⟨q1, hq1⟩ : ∃ q1, q1 = w.heap.size := ⟨_, rfl⟩
  rw [← hq1] at hq hql
  have HQ1 := hide hq1
  have HN1 := hide hn1
  clear hR hl hn hb1 hn1
  go_enter Tryz.func53, Tryz.ntmps53
  go_upto_region 1 with fail
  rw [← hw1, ← hq1]
  clear hw1 hq1
  go_wp2_with fail
  go_loopw [3, 8] (fun v i wr => ∃ k : Nat, k ≤ n ∧ i = .int .i64 k ∧ Nx w1 wr ∧ wr.ownsRow w1.heap.size 3 1 v (undoneL l k).length ((undoneL l k).flatMap encI)) (fun _ i _ => n - (intOf i).toNat)
  case atStart => exact ⟨0, Nat.zero_le _, rfl, Nx.refl _, World.ownsRow_nil _ _ _ _⟩
  case round =>
    obtain ⟨k, hk, rfl, hnx, hown⟩ := hrel
    by_cases hlt : k < n
    · have hlt' : k < l.length := by have := HN.out; omega
      obtain ⟨b, off, rfl, _, hb, hbr, hc⟩ := HR.out.open_ (HN1.out.trans hnx) (by omega)
      obtain ⟨c0, c1, c2, c3, c4, c5, c6, c7, c8, c9, c10⟩ := ev_cells (hc k hlt')
      clear hc
      have hka : kindAt l k = l[k].kind := kindAt_some (List.getElem?_eq_getElem hlt')
      generalize l[k] = x at *
      obtain ⟨so, no, at_, ki, ri, ca, nd, up, dn, fo, nu⟩ := x
      simp only at c0 c1 c2 c3 c4 c5 c6 c7 c8 c9 c10 hka
      have hg : goneB l k = (decide (ki ≠ 9) && l.any (undoesB l k)) := by unfold goneB; rw [hka]
      have hlen := undoneL_len l k
      have HOW := hide hown
      have HG := hide hg
      have HLE := hide hlen
      clear hown hg hka hlen
      obtain ⟨g, hgq⟩ : ∃ g, g = wr.heap.size := ⟨_, rfl⟩
      obtain ⟨wa, hwa⟩ : ∃ wa, wa = (wr.alloc (.cells #[.int .i64 (k : Int)] 3 (0, 0))).alloc (.cells #[.string so, .int .i64 no, .int .i64 at_, .int .i64 ki, .string ri, .string ca, .string nd, .int .i64 up, .int .i64 dn, .string fo, .int .i64 nu] 31 (0, 0)) := ⟨_, rfl⟩
      have hna : Nx wr wa := hwa ▸ ((Nx.refl wr).alloc _).alloc _
      have hbi : wa.heap[g]? = some (.cells #[.int .i64 (k : Int)] 3 (0, 0)) := by
        rw [hwa, hgq]; exact (((Nx.refl _).alloc _).block _ (by simp)).trans (heap_alloc_new wr _)
      have hbe : wa.heap[g + 1]? = some (.cells #[.string so, .int .i64 no, .int .i64 at_, .int .i64 ki, .string ri, .string ca, .string nd, .int .i64 up, .int .i64 dn, .string fo, .int .i64 nu] 31 (0, 0)) := by
        rw [hwa, hgq]
        have := heap_alloc_new (wr.alloc (.cells #[.int .i64 (k : Int)] 3 (0, 0))) (.cells #[.string so, .int .i64 no, .int .i64 at_, .int .i64 ki, .string ri, .string ca, .string nd, .int .i64 up, .int .i64 dn, .string fo, .int .i64 nu] 31 (0, 0))
        simpa using this
      have hgl := (Array.getElem?_eq_some_iff.1 hbi).1
      have i0 : wa.cell? ⟨g, 0, none⟩ = some (.int .i64 (k : Int)) := cell_of_row wa _ 0 _ _ _ hbi
      have e3 : wa.cell? ⟨g + 1, 3, none⟩ = some (.int .i64 ki) := cell_of_row wa _ 3 _ _ _ hbe
      have hqr := nx_cell (hnx.trans hna) hql hq
      have hqla := Nat.lt_of_lt_of_le hql (hnx.trans hna).sz
      have hRa := HR.out.nx ((HN1.out.trans hnx).trans hna)
      have hcf := w_ContFE2 92 (undI l k) (.pointer (some ⟨q1, 0, none⟩)) (.pointer (some ⟨g, 0, none⟩)) enters_undone1 lo (some ⟨b, off, none⟩) c l wa (fun y W _ hn => w_undone1 lo q1 g (some ⟨b, off, none⟩) c l k y W (hRa.nx hn) (by have := HL.out; omega) (by rw [← HN.out]; exact nx_cell hn hqla hqr) (nx_cell hn hgl i0) (Nat.lt_of_lt_of_le hqla hn.sz) (Nat.lt_of_lt_of_le hgl hn.sz)) hRa (by have := HL.out; omega)
      rw [show undI l (k : Int) = undoesB l k from funext (undI_undoes l k), ← HN.out] at hcf
      have HCF := hide hcf
      have HNA := hide hna
      have HNX := hide hnx
      have HBI := hide hbi
      obtain ⟨an, han⟩ : ∃ an, an = l.any (undoesB l k) := ⟨_, rfl⟩
      rw [← han] at HCF HG
      have hgw : w1.heap.size ≤ g := by rw [hgq]; exact HNX.out.sz
      have HOA := hide (own_nx HOW.out HNA.out)
      clear hbi hbe hcf hRa hna hnx han hq
      go_upto_region 5 with fail
      rw [← hgq, ← hwa]
      clear hwa hgq c0 c1 c2 c3 c4 c5 c6 c7 c8 c9 c10
      have q9 : (ki != 9) = true ∨ (ki != 9) = false := by cases (ki != 9) <;> simp
      rcases q9 with q9 | q9
      · have hk9 : ki ≠ 9 := by simpa using q9
        cases an with
        | true =>
          have hu := hide (show undoneL l (k + 1) = undoneL l k ++ [(k : Int)] by rw [undoneL, if_pos (by rw [HG.out]; simp [hk9])])
          have hla := HLE.out
          clear hk9
          go_wp2_with (first
            | (go_at_call 91; refine HCF.out.mono ?_; rintro e w5 ⟨rfl, hn5⟩; (have j0 := nx_cell hn5 hgl i0); (have HO5 := hide (own_nx HOA.out hn5)); (have hz5 : w1.heap.size ≤ w5.heap.size := Nat.le_trans (Nat.le_trans HNX.out.sz HNA.out.sz) hn5.sz); (have HN5 := hide ((HNX.out.trans HNA.out).trans hn5)); clear hn5)
            | (at_builtin; refine wpApp rfl _ _ _ rfl el_IntE encI encIE_len encIE_one (by omega) (by omega) w1.heap.size _ (undoneL l k) rfl (HO5.out.alloc _) _ (k : Int) _ rfl (hnew (by simp)) rfl (by omega) (by simp; omega) ?_; intro v8 w8 hown8 hg8; (have HO8 := hide hown8); (have HG8 := hide hg8); clear hown8 hg8))
          go_roundw
          case rel =>
            refine ⟨k + 1, by omega, by go_num, (HN5.out.alloc _).grown HG8.out (fun j hj => own_blk_lt HO5.out j hj), ?_⟩
            rw [hu.out]; exact HO8.out
          case measure => simp [intOf]; omega
        | false =>
          have hu := hide (show undoneL l (k + 1) = undoneL l k by rw [undoneL, if_neg (by rw [HG.out]; simp)])
          clear hk9
          go_wp2_with (go_at_call 91; refine HCF.out.mono ?_; rintro e w5 ⟨rfl, hn5⟩; (have HO5 := hide (own_nx HOA.out hn5)); (have HN5 := hide ((HNX.out.trans HNA.out).trans hn5)); clear hn5)
          go_roundw
          case rel => exact ⟨k + 1, by omega, by go_num, HN5.out, by rw [hu.out]; exact HO5.out⟩
          case measure => simp [intOf]; omega
      · have hu := hide (show undoneL l (k + 1) = undoneL l k by
          have h9 : ki = 9 := by simpa using q9
          rw [undoneL, if_neg (by rw [HG.out, h9]; simp)])
        go_wp2_with fail
        go_roundw
        case rel => exact ⟨k + 1, by omega, by go_num, HNX.out.trans HNA.out, by rw [hu.out]; exact HOA.out⟩
        case measure => simp [intOf]; omega
    · obtain rfl : k = n := by omega
      have HNX := hide hnx
      have HOW := hide hown
      clear hnx hown
      go_wp2_with fail
      go_ret
      have hsz := HN1.out.sz
      exact ⟨_, rfl, World.ownsRow.mono HOW.out hsz, HN1.out.trans HNX.out⟩
end Go.Proofs.YtfkmbeppckelfaaGreatDoor
/- slices.Contains of ints. -/
namespace Go.Proofs.YtfkmbeppckelfaaGreatDoor
open Go.RowKit

set_option maxRecDepth 100000 in
set_option maxHeartbeats 1000000 in
theorem w_IdxI (lo : Nat) (A : Option Addr) (c : Nat) (l : List Int) (z : Int) (w : World) (hR : Rd w lo A 1 encI l) (hl : l.length ≤ 65536) :
    Calls Tryz.prog 72 #[.slice A l.length c, .int .i64 z] w fun e w' => ∃ r : Int, e = .returned (.int .i64 r) ∧ decide (0 ≤ r) = decide (z ∈ l) ∧ w = w' := by
  have HR := hide hR
  obtain ⟨n, hn⟩ : ∃ n, n = l.length := ⟨_, rfl⟩
  rw [← hn] at hl ⊢
  have HN := hide hn
  clear hR hn
  go_enter Tryz.func72, Tryz.ntmps72
  go_wp2_with fail
  go_loopw [5, 8] (fun _ i wr => ∃ k : Nat, k ≤ n ∧ i = .int .i64 k ∧ w = wr ∧ z ∉ l.take k) (fun _ i _ => n - (intOf i).toNat)
  case atStart => exact ⟨0, Nat.zero_le _, rfl, rfl, by simp⟩
  case round =>
    obtain ⟨k, hk, rfl, rfl, hno⟩ := hrel
    have HNO := hide hno
    clear hno
    by_cases hlt : k < n
    · have hlt' : k < l.length := by have := HN.out; omega
      obtain ⟨b, off, eb, _, hb, _, hc⟩ := HR.out.open_ (Nx.refl w) (by have := HN.out; omega)
      have c0 : w.cell? ⟨b, off + k, none⟩ = some (.int .i64 l[k]) := by have := hc k hlt' 0 _ rfl; simpa using this
      have hmem := hide (show l[k] ∈ l from List.getElem_mem hlt')
      have htk := hide (show l.take (k + 1) = l.take k ++ [l[k]] by rw [List.take_add_one, List.getElem?_eq_getElem hlt']; rfl)
      clear hc
      generalize l[k] = y at *
      subst eb
      have q1 : (0 : Int) ≤ (k : Int) := by omega
      have q2 : (k : Int) < (n : Int) := by omega
      by_cases hyz : z = y
      · have te : (z == y) = true := by simpa using hyz
        have HY := hide hyz
        clear hyz
        go_wp2_with fail
        go_ret
        refine ⟨_, rfl, ?_, rfl⟩
        rw [HY.out]
        rw [decide_eq_decide]
        exact ⟨fun _ => hmem.out, fun _ => by omega⟩
      · have te : (z == y) = false := by simpa using hyz
        have HY := hide hyz
        clear hyz
        go_wp2_with fail
        go_roundw
        case rel =>
          refine ⟨k + 1, by omega, by go_num, by trivial, ?_⟩
          rw [htk.out, List.mem_append]
          rintro (h | h)
          · exact HNO.out h
          · exact HY.out (by simpa using h)
        case measure => simp [intOf]; omega
    · go_wp2_with fail
      go_ret
      refine ⟨_, rfl, ?_, rfl⟩
      rw [decide_eq_decide]
      constructor
      · intro h; omega
      · intro h
        have := HNO.out
        rw [List.take_of_length_le (by have := HN.out; omega)] at this
        exact absurd h this
theorem w_ContI (lo : Nat) (A : Option Addr) (c : Nat) (l : List Int) (z : Int) (w : World) (hR : Rd w lo A 1 encI l) (hl : l.length ≤ 65536) :
    Calls Tryz.prog 32 #[.slice A l.length c, .int .i64 z] w fun e w' => e = .returned (.bool (decide (z ∈ l))) ∧ w = w' := by
  have HC := hide (w_IdxI lo A c l z w hR hl)
  generalize decide (z ∈ l) = q at *
  generalize l.length = n at *
  clear hR hl
  go_enter Tryz.func32, Tryz.ntmps32
  go_wp2_with fail
  refine HC.out.mono ?_
  rintro e w2 ⟨r, rfl, hr, rfl⟩
  have h2 : decide (r ≥ 0) = q := hr
  go_wp2_with fail
  go_ret
  exact ⟨rfl, rfl⟩
end Go.Proofs.YtfkmbeppckelfaaGreatDoor
