/- Why an undo is refused: the reference's. -/
import Derived.Test.YtfkmbeppckelfaaGreatDoorQG19
import Derived.Test.YtfkmbeppckelfaaGreatDoorQG5
import Derived.Deep.DeepCutAuto
namespace Go.Proofs.YtfkmbeppckelfaaGreatDoor
open Go.RowKit

set_option maxRecDepth 100000 in
set_option maxHeartbeats 4000000 in
theorem w_undoFault (lo : Nat) (A : Option Addr) (c k : Nat) (l : List Ev) (x : Ev) (w : World) (hR : Rd w lo A 11 encEvt l) (hl : l.length ≤ 1000) (hc : l.length ≤ c) (hx : l[k]? = some x) :
    Calls Tryz.prog 94 #[.slice A l.length c, .int .i64 (k : Int)] w fun e w' => e = .returned (.int .i64 (undoW l k x)) ∧ Nx w w' := by
  have hkl : k < l.length := (List.getElem?_eq_some_iff.1 hx).1
  have hxe : l[k] = x := (List.getElem?_eq_some_iff.1 hx).2
  obtain ⟨b, off, rfl, _, hb, hbr, hcs⟩ := hR.open_ (Nx.refl w) (by omega)
  obtain ⟨c0, c1, c2, c3, c4, c5, c6, c7, c8, c9, c10⟩ := ev_cells (hcs k hkl)
  have hkinds : ∀ t y, l[t]? = some y → w.cell? ⟨b, off + t * 11 + 3, none⟩ = some (.int .i64 y.kind) := by
    intro t y hy
    obtain ⟨ht, ey⟩ := List.getElem?_eq_some_iff.1 hy
    exact hcs t ht 3 (.int .i64 y.kind) (by rw [ey]; rfl)
  rw [hxe] at c0 c1 c2 c3 c4 c5 c6 c7 c8 c9 c10
  obtain ⟨n, hn⟩ : ∃ n, n = l.length := ⟨_, rfl⟩
  rw [← hn]
  obtain ⟨w1, hw1⟩ : ∃ w1, w1 = w.alloc (.cells #[.slice (some ⟨b, off, none⟩) n c] 26 (0, 0)) := ⟨_, rfl⟩
  have hn1 : Nx w w1 := hw1 ▸ (Nx.refl w).alloc _
  have hb1 : w1.heap[w.heap.size]? = some (.cells #[.slice (some ⟨b, off, none⟩) n c] 26 (0, 0)) := by rw [hw1]; exact heap_alloc_new w _
  have hq : w1.cell? ⟨w.heap.size, 0, none⟩ = some (.slice (some ⟨b, off, none⟩) n c) := cell_of_row w1 _ 0 _ _ _ hb1
  have hql := (Array.getElem?_eq_some_iff.1 hb1).1
  obtain ⟨q1, hq1⟩ : ∃ q1, q1 = w.heap.size := ⟨_, rfl⟩
  rw [← hq1] at hq hql
  have HU := hide (fun W (hn' : Nx w1 W) => w_undoes lo (some ⟨b, off, none⟩) c l x W ((hR.nx hn1).nx hn') (by omega))
  rw [← hn] at HU
  have d0 := nx_cell hn1 hb c0
  have d1 := nx_cell hn1 hb c1
  have d2 := nx_cell hn1 hb c2
  have d3 := nx_cell hn1 hb c3
  have d4 := nx_cell hn1 hb c4
  have d5 := nx_cell hn1 hb c5
  have d6 := nx_cell hn1 hb c6
  have d7 := nx_cell hn1 hb c7
  have d8 := nx_cell hn1 hb c8
  have d9 := nx_cell hn1 hb c9
  have d10 := nx_cell hn1 hb c10
  have hbl := Nat.lt_of_lt_of_le hb hn1.sz
  have hkn : k < n := by omega
  have hkz : (k : Int) < (n : Int) := by omega
  obtain ⟨tg, htg⟩ : ∃ tg, tg = tgtI l x.from_ x.number := ⟨_, rfl⟩
  rw [← htg] at HU
  have HTG := hide htg
  have HN := hide hn
  have HN1 := hide hn1
  have HR := hide hR
  have HKI := hide hkinds
  have hcn : n ≤ c := by omega
  have HLN := hide hl
  clear hR hcs hkinds hb1 hn1 htg hn c0 c1 c2 c3 c4 c5 c6 c7 c8 c9 c10 hl hc hx hxe
  go_enter Tryz.func94, Tryz.ntmps94
  go_upto_region 1 with fail
  rw [← hw1, ← hq1]
  clear hw1 hq1
  go_cut [5] (fun v wx => ∃ q : Nat, v = .pointer (some ⟨q, 0, none⟩) ∧ wx.heap[q]? = some (.cells #[.int .i64 tg] 3 (0, 0)) ∧ Nx w1 wx)
  case first =>
    have P0 : (w1.alloc (.cells #[.int .i64 0] 3 (0, 0))).drew.heap[w1.heap.size]? = some (.cells #[.int .i64 0] 3 (0, 0)) := heap_alloc_new w1 _
    have P2 : w1.heap.size < (w1.alloc (.cells #[.int .i64 0] 3 (0, 0))).drew.heap.size := (Array.getElem?_eq_some_iff.1 P0).1
    have P3 : ∀ w3, Nx (w1.alloc (.cells #[.int .i64 0] 3 (0, 0))).drew w3 → w3.heap[w1.heap.size]? = some (.cells #[.int .i64 0] 3 (0, 0)) := fun w3 h => (h.block _ P2).trans P0
    have HP3 := hide P3
    clear P0 P2 P3
    go_region_with (first
      | (go_at_call 93; refine (HU.out (w1.alloc (.cells #[.int .i64 0] 3 (0, 0))).drew (((Nx.refl _).alloc _).drew)).mono ?_; rintro e w3 ⟨rfl, hn3⟩; (have p3 := HP3.out w3 hn3); (have k2 : w3.cell? ⟨w1.heap.size, 0, none⟩ = some (.int .i64 0) := cell_of_row w3 _ 0 _ _ _ p3); (have k3 : w3.frozen? ⟨w1.heap.size, 0, none⟩ = false := by simp [World.frozen?, p3]))
      | (go_at_call 93; refine (HU.out w1.drew ((Nx.refl _).drew)).mono ?_; rintro e w3 ⟨rfl, hn3⟩))
    all_goals (go_wp2; go_meet)
    all_goals first
      | exact ⟨_, rfl, heap_alloc_new w3 _, ((Nx.refl w1).drew.trans hn3).alloc _⟩
      | exact ⟨_, rfl, heap_set p3, (((Nx.refl w1).alloc _).drew.trans hn3).setg (Nat.le_refl _) _⟩
  case rest =>
    obtain ⟨q2, rfl, hbq, hnc⟩ := hcut
    obtain ⟨w2, hw2⟩ : ∃ w2, w2 = wc := ⟨_, rfl⟩
    rw [← hw2] at hbq hnc ⊢
    have hq2l := (Array.getElem?_eq_some_iff.1 hbq).1
    have e0 : w2.cell? ⟨q2, 0, none⟩ = some (.int .i64 tg) := cell_of_row w2 _ 0 _ _ _ hbq
    have e1 := nx_cell hnc hql hq
    have hq1l := Nat.lt_of_lt_of_le hql hnc.sz
    have HN2 := hide (HN1.out.trans hnc)
    have HNC := hide hnc
    have hRt := (HR.out.take k).nx HN2.out
    clear hw2 hbq d0 d1 d2 d3 d4 d5 d6 d7 d8 d9 d10 hq hnc HU
    have hlt : (l.take k).length = k := by rw [List.length_take]; omega
    cases ht : tgtF l x.from_ x.number with
    | none =>
      have htg1 : tg = -1 := by rw [HTG.out, tgtI_eq, ht]
      have hr := hide (show undoW l k x = 8 by unfold undoW; rw [ht])
      subst htg1
      clear ht hRt hlt
      go_wp2_with fail
      go_ret
      exact ⟨by rw [hr.out] <;> rfl, HN2.out⟩
    | some t =>
      have htg1 : tg = (t : Int) := by rw [HTG.out, tgtI_eq, ht]
      obtain ⟨y, hy, _, _⟩ := tgt_some ht
      have htl : t < n := by have := (List.getElem?_eq_some_iff.1 hy).1; have := HN.out; omega
      have htz : (t : Int) < (n : Int) := by omega
      have ck := nx_cell HN2.out hb (HKI.out t y hy)
      have hr0 : undoW l k x = if y.kind = 9 then 4 else if (l.take k).any (undoesB l t) then 6 else 0 := by unfold undoW; rw [ht]; simp only [kindAt_some hy]
      obtain ⟨kk, hkk⟩ : ∃ kk, kk = y.kind := ⟨_, rfl⟩
      rw [← hkk] at ck hr0
      subst htg1
      have hcf := w_ContFE2 133 (undI l t) (.pointer (some ⟨q1, 0, none⟩)) (.pointer (some ⟨q2, 0, none⟩)) enters_undF1 lo (some ⟨b, off, none⟩) c (l.take k) w2 (fun y W _ hn => w_undF1 lo q1 q2 (some ⟨b, off, none⟩) c l t y W ((HR.out.nx HN2.out).nx hn) (by have := HLN.out; omega) (by rw [← HN.out]; exact nx_cell hn hq1l e1) (nx_cell hn hq2l e0) (Nat.lt_of_lt_of_le hq1l hn.sz) (Nat.lt_of_lt_of_le hq2l hn.sz)) hRt (by rw [hlt]; have := HLN.out; omega)
      rw [show undI l (t : Int) = undoesB l t from funext (undI_undoes l t), hlt] at hcf
      obtain ⟨an, han⟩ : ∃ an, an = (l.take k).any (undoesB l t) := ⟨_, rfl⟩
      rw [← han] at hcf hr0
      have HCF := hide hcf
      have HR0 := hide hr0
      clear ht hRt hlt hcf han hy hkk hr0
      have hq9 : kk = 9 ∨ (kk == 9) = false := by simp; omega
      rcases hq9 with rfl | hq9
      · have hr := hide (show undoW l k x = 4 by rw [HR0.out]; rfl)
        go_wp2_with fail
        go_ret
        exact ⟨by rw [hr.out] <;> rfl, HN2.out⟩
      · have hk9 : ¬ kk = 9 := by simpa using hq9
        cases an with
        | true =>
          have hr := hide (show undoW l k x = 6 by rw [HR0.out, if_neg hk9]; rfl)
          clear hk9
          go_wp2_with (go_at_call 91; refine HCF.out.mono ?_; rintro e w5 ⟨rfl, hn5⟩)
          go_ret
          exact ⟨by rw [hr.out] <;> rfl, HN2.out.trans hn5⟩
        | false =>
          have hr := hide (show undoW l k x = 0 by rw [HR0.out, if_neg hk9]; rfl)
          clear hk9
          go_wp2_with (go_at_call 91; refine HCF.out.mono ?_; rintro e w5 ⟨rfl, hn5⟩)
          go_ret
          exact ⟨by rw [hr.out] <;> rfl, HN2.out.trans hn5⟩
end Go.Proofs.YtfkmbeppckelfaaGreatDoor
