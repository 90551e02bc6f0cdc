/- The reference's step. -/
import Derived.Test.YtfkmbeppckelfaaGreatDoorQRfD
import Derived.Test.YtfkmbeppckelfaaGreatDoorQRfP
import Derived.Test.YtfkmbeppckelfaaGreatDoorQG19
import Derived.Test.YtfkmbeppckelfaaGreatDoorQG10
import Derived.Test.YtfkmbeppckelfaaGreatDoorQG1
import Derived.Test.YtfkmbeppckelfaaGreatDoorQG5
import Derived.Sort.KeysCollected
import Derived.Lib.SlKeysI
import Derived.Test.YtfkmbeppckelfaaGreatDoorQG11
import Derived.Test.YtfkmbeppckelfaaGreatDoorQShelfR
import Derived.Shelf.SlIter.Nil
import Derived.Shelf.SlIterI.Nil
import Derived.Shelf.SortM.Plain
import Derived.Shelf.SortM.SortNone
import Derived.Laws.StructEq
import Derived.Test.YtfkmbeppckelfaaGreatDoorQEvG
namespace Go.Proofs.YtfkmbeppckelfaaGreatDoor
open Go.RowKit Go.Maps

theorem undone_mem (l : List Ev) (k : Nat) (hk : k < l.length) : decide ((k : Int) ∈ undoneL l l.length) = goneB l k := by
  rw [Bool.eq_iff_iff, decide_eq_true_eq, undoneL_mem]
  constructor
  · rintro ⟨i, a, _, c⟩
    have : k = i := by omega
    subst this; exact c
  · intro h; exact ⟨k, rfl, hk, h⟩
theorem evb_cells {w : World} {b : Nat} {so ri ca nd fo : ByteArray} {no at_ ki up dn nu : Int} (h : w.heap[b]? = some (.cells #[.string so, .int .i64 no, .int .i64 at_, .int .i64 ki, .string ri, .string ca, .string nd, .int .i64 up, .int .i64 dn, .string fo, .int .i64 nu] 31 (0, 0))) :
    w.cell? ⟨b, 0, none⟩ = some (.string so) ∧ w.cell? ⟨b, 1, none⟩ = some (.int .i64 no) ∧ w.cell? ⟨b, 2, none⟩ = some (.int .i64 at_) ∧ w.cell? ⟨b, 3, none⟩ = some (.int .i64 ki) ∧ w.cell? ⟨b, 4, none⟩ = some (.string ri) ∧ w.cell? ⟨b, 5, none⟩ = some (.string ca) ∧ w.cell? ⟨b, 6, none⟩ = some (.string nd) ∧ w.cell? ⟨b, 7, none⟩ = some (.int .i64 up) ∧ w.cell? ⟨b, 8, none⟩ = some (.int .i64 dn) ∧ w.cell? ⟨b, 9, none⟩ = some (.string fo) ∧ w.cell? ⟨b, 10, none⟩ = some (.int .i64 nu) :=
  ⟨cell_of_row w b 0 _ _ _ h, cell_of_row w b 1 _ _ _ h, cell_of_row w b 2 _ _ _ h, cell_of_row w b 3 _ _ _ h, cell_of_row w b 4 _ _ _ h, cell_of_row w b 5 _ _ _ h, cell_of_row w b 6 _ _ _ h, cell_of_row w b 7 _ _ _ h, cell_of_row w b 8 _ _ _ h, cell_of_row w b 9 _ _ _ h, cell_of_row w b 10 _ _ _ h⟩
/-- What the reference's step answers. -/
def StepEnd (d rb cb bb N : Nat) (r : DayR × Int) (w : World) (e : Ending) (w' : World) : Prop := e = .returned (.int .i64 r.2) ∧ DayRW w' d rb cb bb (N + 3) r.1 ∧ FrR rb cb bb w w'
set_option maxRecDepth 100000 in
set_option maxHeartbeats 2000000 in
theorem w_stepR (lo lo2 : Nat) (A U : Option Addr) (c uc k : Nat) (l : List Ev) (x : Ev) (d rb cb bb N : Nat) (D : DayR) (w : World) (hR : Rd w lo A 11 encEvt l) (hU : Rd w lo2 U 1 encI (undoneL l l.length)) (hD : DayRW w d rb cb bb N D) (hl : l.length ≤ 1000) (hc : l.length ≤ c) (hx : l[k]? = some x) (hok : okEv x) (hN : N ≤ 60000) :
    Calls Tryz.prog 54 #[.pointer (some ⟨d, 0, none⟩), .slice A l.length c, .int .i64 (k : Int), .slice U (undoneL l l.length).length uc] w (StepEnd d rb cb bb N (stepL l k x D) w) := by
  have hkl : k < l.length := (List.getElem?_eq_some_iff.1 hx).1
  have hxe : l[k] = x := (List.getElem?_eq_some_iff.1 hx).2
  obtain ⟨b, off, rfl, _, hb, hbr, hcs⟩ := hR.open_ (Nx.refl w) (by omega)
  obtain ⟨c0, c1, c2, c3, c4, c5, c6, c7, c8, c9, c10⟩ := ev_cells (hcs k hkl)
  rw [hxe] at c0 c1 c2 c3 c4 c5 c6 c7 c8 c9 c10
  have hul := undoneL_len l l.length
  obtain ⟨so, no, at_, ki, ri, ca, nd, up, dn, fo, nu⟩ := x
  simp only at c0 c1 c2 c3 c4 c5 c6 c7 c8 c9 c10
  obtain ⟨w1, hw1⟩ : ∃ w1, w1 = w.alloc (.cells #[.string so, .int .i64 no, .int .i64 at_, .int .i64 ki, .string ri, .string ca, .string nd, .int .i64 up, .int .i64 dn, .string fo, .int .i64 nu] 31 (0, 0)) := ⟨_, rfl⟩
  obtain ⟨bx, hbx⟩ : ∃ bx, bx = w.heap.size := ⟨_, rfl⟩
  have hn1 : Nx w w1 := hw1 ▸ (Nx.refl w).alloc _
  have hb1 : w1.heap[bx]? = some (.cells #[.string so, .int .i64 no, .int .i64 at_, .int .i64 ki, .string ri, .string ca, .string nd, .int .i64 up, .int .i64 dn, .string fo, .int .i64 nu] 31 (0, 0)) := by rw [hw1, hbx]; exact heap_alloc_new w _
  have hbl := (Array.getElem?_eq_some_iff.1 hb1).1
  obtain ⟨a0, a1, a2, a3, a4, a5, a6, a7, a8, a9, a10⟩ := evb_cells hb1
  have HC := hide (w_ContI lo2 U uc (undoneL l l.length) k w1 (hU.nx hn1) (by omega))
  rw [undone_mem l k hkl] at HC
  have HUF := hide (w_undoFault lo (some ⟨b, off, none⟩) c k l ⟨so, no, at_, ki, ri, ca, nd, up, dn, fo, nu⟩ w1 (hR.nx hn1) hl hc hx)
  have hwy := w_why d rb cb bb N D ⟨so, no, at_, ki, ri, ca, nd, up, dn, fo, nu⟩ w1 (hD.nx hn1) hok
  have hdo := fun W (hn : Nx w1 W) => w_do d rb cb bb N D so no at_ ki ri ca nd up dn fo nu W ((hD.nx hn1).nx hn) hok hN
  unfold evA at hwy
  simp only at hwy
  have HWY := hide hwy
  have HDO := hide hdo
  have HD1 := hide (hD.nx hn1)
  have HN1 := hide hn1
  have HB1 := hide hb1
  obtain ⟨r, hr⟩ : ∃ r, r = stepL l k ⟨so, no, at_, ki, ri, ca, nd, up, dn, fo, nu⟩ D := ⟨_, rfl⟩
  rw [← hr]
  have hst : r = if goneB l k = true then (D, 0) else if ki = 9 then (D, undoW l k ⟨so, no, at_, ki, ri, ca, nd, up, dn, fo, nu⟩) else (if whyR D ⟨so, no, at_, ki, ri, ca, nd, up, dn, fo, nu⟩ = 0 then doR D ⟨so, no, at_, ki, ri, ca, nd, up, dn, fo, nu⟩ else D, whyR D ⟨so, no, at_, ki, ri, ca, nd, up, dn, fo, nu⟩) := hr
  clear hr
  generalize goneB l k = g at HC hst
  generalize undoW l k ⟨so, no, at_, ki, ri, ca, nd, up, dn, fo, nu⟩ = uf at HUF hst
  generalize whyR D ⟨so, no, at_, ki, ri, ca, nd, up, dn, fo, nu⟩ = f at HWY hst
  generalize doR D ⟨so, no, at_, ki, ri, ca, nd, up, dn, fo, nu⟩ = D' at HDO hst
  have hkn : (k : Int) < (l.length : Int) := by omega
  have hkz : (0 : Int) ≤ (k : Int) := by omega
  clear hR hU hD hx hxe hok hcs hn1 hb1 hwy hdo hul hl hc hkl
  generalize (undoneL l l.length).length = ul at *
  generalize l.length = n at *
  go_enter Tryz.func54, Tryz.ntmps54
  go_upto_region 2 with fail
  rw [← hw1, ← hbx]
  clear hw1 hbx c0 c1 c2 c3 c4 c5 c6 c7 c8 c9 c10
  cases g with
  | true =>
    have hr := hide (show r = (D, 0) by rw [hst, if_pos rfl])
    clear hst
    go_wp2_with (go_at_call 32; refine HC.out.mono ?_; rintro e w2 ⟨rfl, rfl⟩)
    go_ret
    rw [StepEnd, hr.out]
    exact ⟨rfl, HD1.out.mono (by omega), FrR.nx HN1.out⟩
  | false =>
    rw [if_neg (by simp)] at hst
    have q9 : (ki == 9) = true ∨ (ki == 9) = false := by cases (ki == 9) <;> simp
    rcases q9 with q9 | q9
    · have hr := hide (show r = (D, uf) by rw [hst, if_pos (by simpa using q9)])
      clear hst
      go_wp2_with (first
        | (go_at_call 32; refine HC.out.mono ?_; rintro e w2 ⟨rfl, rfl⟩)
        | (go_at_call 94; refine HUF.out.mono ?_; rintro e w2 ⟨rfl, hn2⟩))
      go_ret
      rw [StepEnd, hr.out]
      exact ⟨rfl, (HD1.out.nx hn2).mono (by omega), FrR.nx (HN1.out.trans hn2)⟩
    · rw [if_neg (by simpa using q9)] at hst
      have qf : f = 0 ∨ (f == 0) = false := by simp; omega
      rcases qf with rfl | qf
      · have hr := hide (show r = (D', 0) by rw [hst, if_pos rfl])
        clear hst
        go_wp2_with (first
          | (go_at_call 32; refine HC.out.mono ?_; rintro e w2 ⟨rfl, rfl⟩)
          | (go_at_call 95; refine HWY.out.mono ?_; rintro e w2 ⟨rfl, hn2⟩; (have HN2 := hide hn2); (have hb2 := hide ((hn2.block _ hbl).trans HB1.out)); obtain ⟨e0, e1, e2, e3, e4, e5, e6, e7, e8, e9, e10⟩ := evb_cells hb2.out; (have hbl2 := Nat.lt_of_lt_of_le hbl hn2.sz); clear hn2)
          | (go_at_call 96; refine (HDO.out _ HN2.out).mono ?_; rintro e w3 ⟨rfl, hD3, hF3⟩; (have HD3 := hide hD3); (have HF3 := hide hF3); clear hD3 hF3))
        go_ret
        rw [StepEnd, hr.out]
        exact ⟨rfl, HD3.out, (FrR.nx (HN1.out.trans HN2.out)).trans HF3.out⟩
      · have hr := hide (show r = (D, f) by rw [hst, if_neg (by simpa using qf)])
        clear hst
        go_wp2_with (first
          | (go_at_call 32; refine HC.out.mono ?_; rintro e w2 ⟨rfl, rfl⟩)
          | (go_at_call 95; refine HWY.out.mono ?_; rintro e w2 ⟨rfl, hn2⟩; (have HN2 := hide hn2); clear hn2))
        go_ret
        rw [StepEnd, hr.out]
        exact ⟨rfl, (HD1.out.nx HN2.out).mono (by omega), FrR.nx (HN1.out.trans HN2.out)⟩
end Go.Proofs.YtfkmbeppckelfaaGreatDoor
/- The reference's day behind all events up to a moment; what it refuses. -/
namespace Go.Proofs.YtfkmbeppckelfaaGreatDoor
open Go.RowKit Go.Maps

section
variable {rb cb bb : Nat} {w w' : World}
theorem Rd.frR {α : Type} {lo K : Nat} {A : Option Addr} {enc : α → List Value} {xs : List α} (h : Rd w lo A K enc xs) (hF : FrR rb cb bb w w') (h1 : rb < lo) (h2 : cb < lo) (h3 : bb < lo) : Rd w' lo A K enc xs := fun hp => by
  obtain ⟨b, off, e, hl, hb, hc⟩ := h hp
  exact ⟨b, off, e, hl, Nat.lt_of_lt_of_le hb hF.size, fun i x hx j u hu => (cell_same (hF.block b hb (by omega) (by omega) (by omega))).trans (hc i x hx j u hu)⟩
theorem DayRW.grown {d N : Nat} {D : DayR} (h : DayRW w d rb cb bb N D) {row : Option Nat} (hg : w.grownBy w' row) (hr : ∀ p, row = some p → d < p ∧ rb < p ∧ cb < p ∧ bb < p) : DayRW w' d rb cb bb N D := by
  have hne : ∀ i, (∀ p, row = some p → i < p) → some i ≠ row := fun i hi e => by have := hi i e.symm; omega
  exact ⟨(World.grownBy.block hg _ (Array.getElem?_eq_some_iff.1 h.blk).1 (hne d (fun p hp => (hr p hp).1))).trans h.blk, h.rides.grown hg (hne rb (fun p hp => (hr p hp).2.1)), h.cars.grown hg (hne cb (fun p hp => (hr p hp).2.2.1)), h.brk.grown hg (hne bb (fun p hp => (hr p hp).2.2.2)), h.n1, h.n2, h.n3⟩
theorem DayRW.lts {d N : Nat} {D : DayR} (h : DayRW w d rb cb bb N D) : d < w.heap.size ∧ rb < w.heap.size ∧ cb < w.heap.size ∧ bb < w.heap.size :=
  ⟨(Array.getElem?_eq_some_iff.1 h.blk).1, h.rides.lt, h.cars.lt, h.brk.lt⟩
end
/-- The reference's day, and where it lies. -/
def DayOut (l : List Ev) (at_ : Int) (w : World) (e : Ending) (w' : World) : Prop :=
  ∃ d rb cb bb : Nat, e = .returned (.pointer (some ⟨d, 0, none⟩)) ∧ DayRW w' d rb cb bb (3 * l.length) (runR l at_ l.length) ∧ (w.heap.size ≤ d ∧ w.heap.size ≤ rb ∧ w.heap.size ≤ cb ∧ w.heap.size ≤ bb) ∧ Nx w w'
set_option maxRecDepth 100000 in
set_option maxHeartbeats 2000000 in
theorem w_dayAt (lo : Nat) (A : Option Addr) (c : Nat) (l : List Ev) (at_ : Int) (w : World) (hR : Rd w lo A 11 encEvt l) (hl : l.length ≤ 1000) (hc : l.length ≤ c) (hok : ∀ x ∈ l, okEv x) :
    Calls Tryz.prog 113 #[.slice A l.length c, .int .i64 at_] w (DayOut l at_ w) := by
  have HU := hide (fun (W : World) (hn : Nx w W) => w_UndoneOf lo A c l W (hR.nx hn) hl)
  have HR := hide hR
  have HOK := hide hok
  have HC := hide hc
  have HL := hide hl
  have hul := undoneL_len l l.length
  obtain ⟨us, hus⟩ : ∃ us, us = undoneL l l.length := ⟨_, rfl⟩
  rw [← hus] at HU hul
  have HUS := hide hus
  obtain ⟨n, hn⟩ : ∃ n, n = l.length := ⟨_, rfl⟩
  rw [← hn] at HU hul
  rw [← hn]
  have HN := hide hn
  have hnl : n ≤ 1000 := by omega
  have HUL := hide hul
  clear hR hok hc hl hus hn hul
  go_enter Tryz.func113, Tryz.ntmps113
  go_wp2_with fail
  refine (w_newDay w).mono ?_
  rintro e w1 ⟨rfl, hD1, hn1⟩
  obtain ⟨d, hd⟩ : ∃ d, d = w.heap.size + 3 := ⟨_, rfl⟩
  obtain ⟨rb, hrb⟩ : ∃ rb, rb = w.heap.size := ⟨_, rfl⟩
  obtain ⟨cb, hcb⟩ : ∃ cb, cb = w.heap.size + 1 := ⟨_, rfl⟩
  obtain ⟨bb, hbb⟩ : ∃ bb, bb = w.heap.size + 2 := ⟨_, rfl⟩
  rw [← hd, ← hcb, ← hbb] at hD1
  rw [← hrb] at hD1
  rw [← hd]
  have HLO := hide (show w.heap.size ≤ d ∧ w.heap.size ≤ rb ∧ w.heap.size ≤ cb ∧ w.heap.size ≤ bb by omega)
  have HD1 := hide hD1
  have HU1 := hide (HU.out w1 hn1)
  have HN1 := hide hn1
  clear hD1 hn1 HU hd hrb hcb hbb
  go_wp2_with fail
  refine HU1.out.mono ?_
  rintro e w2 ⟨v, rfl, hrow, hn2⟩
  obtain ⟨U, uc, eU, hU, _⟩ := Rd.of_own encIE_len rfl hrow
  subst eU
  obtain ⟨ul, hule⟩ : ∃ ul, ul = us.length := ⟨_, rfl⟩
  rw [← hule]
  have HULE := hide hule
  have HUR := hide hU
  have HD2 := hide (HD1.out.nx hn2)
  have HN2 := hide (HN1.out.trans hn2)
  have HZ := hide HD1.out.lts
  clear hrow hU hn2 hule
  go_wp2_with fail
  go_loopw [7, 8, 14] (fun _ _ i wr => ∃ k : Nat, k ≤ n ∧ i = .int .i64 k ∧ DayRW wr d rb cb bb (3 * k) (runR l at_ k) ∧ FrR rb cb bb w2 wr) (fun _ _ i _ => n - (intOf i).toNat)
  case atStart => exact ⟨0, Nat.zero_le _, rfl, HD2.out, FrR.refl _ _ _ _⟩
  case round =>
    obtain ⟨k, hk, rfl, hD, hF⟩ := hrel
    have HD := hide hD
    have HF := hide hF
    have hnx := hF.toNx HN2.out HLO.out.2.1 HLO.out.2.2.1 HLO.out.2.2.2
    have HNX := hide hnx
    by_cases hlt : k < n
    · have hlt' : k < l.length := by have := HN.out; omega
      obtain ⟨b, off, eb, _, hb, hbr, hcs⟩ := HR.out.open_ hnx (by have := HN.out; omega)
      obtain ⟨c0, c1, c2, c3, c4, c5, c6, c7, c8, c9, c10⟩ := ev_cells (hcs k hlt')
      obtain ⟨x, hx⟩ : ∃ x, l[k]? = some x := ⟨l[k], List.getElem?_eq_getElem hlt'⟩
      have hxe : l[k] = x := (List.getElem?_eq_some_iff.1 hx).2
      rw [hxe] at c0 c1 c2 c3 c4 c5 c6 c7 c8 c9 c10
      have hrun := hide (show runR l at_ (k + 1) = if x.at_ ≤ at_ then (stepL l k x (runR l at_ k)).1 else runR l at_ k by rw [runR, hx])
      have hokx := HOK.out x (List.mem_of_getElem? hx)
      have HST := hide (fun (W : World) (hn : Nx wr W) => w_stepR lo w1.heap.size A U c uc k l x d rb cb bb (3 * k) (runR l at_ k) W (HR.out.nx (hnx.trans hn)) (by rw [← HUS.out]; exact (HUR.out.frR hF HZ.out.2.1 HZ.out.2.2.1 HZ.out.2.2.2).nx hn) (hD.nx hn) HL.out HC.out hx hokx (by omega))
      rw [← HUS.out, ← HN.out, ← HULE.out] at HST
      subst eb
      generalize (stepL l k x (runR l at_ k)) = r at HST hrun
      obtain ⟨so, no, ax, ki, ri, ca, nd, up, dn, fo, nu⟩ := x
      simp only at c0 c1 c2 c3 c4 c5 c6 c7 c8 c9 c10
      clear hD hF hnx hcs hx hxe hokx
      have q1 : (0 : Int) ≤ (k : Int) := by omega
      have q2 : (k : Int) < (n : Int) := by omega
      by_cases hle : ax ≤ at_
      · have hru := hide (show runR l at_ (k + 1) = r.1 by rw [hrun.out]; exact if_pos hle)
        go_wp2_with (go_at_call 54; refine (HST.out _ ((Nx.refl wr).alloc _)).mono ?_; rintro e w5 ⟨rfl, hD5, hF5⟩; (have HD5 := hide hD5); (have HF5 := hide hF5); clear hD5 hF5)
        go_roundw
        case rel => exact ⟨k + 1, by omega, by go_num, by rw [hru.out]; exact HD5.out, HF.out.trans ((FrR.nx ((Nx.refl wr).alloc _)).trans HF5.out)⟩
        case measure => simp [intOf]; omega
      · have hru := hide (show runR l at_ (k + 1) = runR l at_ k by rw [hrun.out]; exact if_neg hle)
        go_wp2_with fail
        go_roundw
        case rel => exact ⟨k + 1, by omega, by go_num, by rw [hru.out]; exact (HD.out.nx ((Nx.refl wr).alloc _)).mono (by omega), HF.out.trans (FrR.nx ((Nx.refl wr).alloc _))⟩
        case measure => simp [intOf]; omega
    · obtain rfl : k = n := by omega
      clear hD hF hnx
      go_wp2_with fail
      go_ret
      exact ⟨d, rb, cb, bb, rfl, by rw [← HN.out]; exact HD.out, HLO.out, HNX.out⟩
end Go.Proofs.YtfkmbeppckelfaaGreatDoor
/- Plain: rides and cars, listed in order: by the program, and by the reference. -/
namespace Go.Proofs.YtfkmbeppckelfaaGreatDoor

theorem strict_uniq {α : Type} {r : α → α → Prop} (ir : ∀ a, ¬ r a a) (tr : ∀ a b c, r a b → r b c → r a c) : ∀ {l m : List α}, l.Pairwise r → m.Pairwise r → (∀ x, x ∈ l ↔ x ∈ m) → l = m
  | [], [], _, _, _ => rfl
  | [], y :: m, _, _, h => absurd ((h y).2 (by simp)) (by simp)
  | x :: l, [], _, _, h => absurd ((h x).1 (by simp)) (by simp)
  | x :: l, y :: m, hl, hm, h => by
    rw [List.pairwise_cons] at hl hm
    have e : x = y := by
      rcases List.mem_cons.1 ((h x).1 (by simp)) with e | e
      · exact e
      rcases List.mem_cons.1 ((h y).2 (by simp)) with e2 | e2
      · exact e2.symm
      exact absurd (tr _ _ _ (hm.1 x e) (hl.1 y e2)) (ir _)
    subst e
    rw [strict_uniq ir tr hl.2 hm.2 (fun z => ?_)]
    constructor
    · intro hz
      rcases List.mem_cons.1 ((h z).1 (List.mem_cons_of_mem _ hz)) with e | e
      · subst e; exact absurd (hl.1 _ hz) (ir _)
      · exact e
    · intro hz
      rcases List.mem_cons.1 ((h z).2 (List.mem_cons_of_mem _ hz)) with e | e
      · subst e; exact absurd (hm.1 _ hz) (ir _)
      · exact e
/-- The keys of a map, in order. -/
def KeysOf {β : Type} (f : ByteArray → Option β) (ks : List ByteArray) : Prop := ks.Pairwise ltS ∧ ∀ k, k ∈ ks ↔ (f k).isSome = true
theorem KeysOf.uniq {β γ : Type} {f : ByteArray → Option β} {g : ByteArray → Option γ} {a b : List ByteArray} (h : KeysOf f a) (k : KeysOf g b) (hfg : ∀ x, (f x).isSome = (g x).isSome) : a = b :=
  strict_uniq (r := ltS) ltS_irrefl (fun _ _ _ => ltS_trans) h.1 k.1 (fun x => by rw [h.2, k.2, hfg])
/-- All rides, in order. -/
def StsOf (f : ByteArray → Option St) (L : List St) : Prop := L.Pairwise (fun a b => ltS a.ride b.ride) ∧ ∀ s, s ∈ L ↔ f s.ride = some s
theorem StsOf.uniq {f : ByteArray → Option St} {a b : List St} (h : StsOf f a) (k : StsOf f b) : a = b :=
  strict_uniq (r := fun a b => ltS a.ride b.ride) (fun _ => ltS_irrefl _) (fun _ _ _ => ltS_trans) h.1 k.1 (fun x => by rw [h.2, k.2])
def stsR (f : ByteArray → Option St) (ks : List ByteArray) : List St := ks.map fun k => (f k).getD st0
/-- Where a car is, as one is told. -/
structure Wr where
  car : ByteArray
  node : ByteArray
  at_ : Int
  broken : Bool
  rides : List ByteArray
deriving DecidableEq
end Go.Proofs.YtfkmbeppckelfaaGreatDoor
/- The keys of a map said of a plain function, sorted. Of no program. -/
namespace Go.Proofs.YtfkmbeppckelfaaGreatDoor
open Go.RowKit Go.Maps Go.Sort Go.Proofs

section
variable {P : Program} {K : TypeId} {β : Type} {R : Value → Option (DataW Unit × List MemPlace)} {dv : β → DataW Unit} {w : World} {b n : Nat}
theorem strKeys_mem (hk : P.underlying K = some .string) {D : DataW Unit} (KL : Keyed P K) (hown : w.ownsMap P K R b n D) : (strKeys D).Nodup ∧ ∀ x, x ∈ strKeys D ↔ has D (.string x) = true := by
  obtain ⟨es, hD, hp, _⟩ := hown.entries KL
  obtain ⟨es', hD', hko⟩ := hown.keysOf
  obtain rfl : es = es' := by rw [hD] at hD'; simpa using hD'
  subst hD
  have hs : ∀ p ∈ es, ∃ x, p.1 = .string x := fun p hp => by obtain ⟨v, hv⟩ := hko p hp; obtain ⟨x, _, hx, _⟩ := Maps.keyOf_str hk hv; exact ⟨x, hx⟩
  constructor
  · show (es.map fun p => strOf p.1).Nodup
    refine List.pairwise_map.2 (hp.imp_of_mem fun {p q} hp' hq' hne e => hne ?_)
    obtain ⟨a, ha⟩ := hs p hp'
    obtain ⟨c, hc⟩ := hs q hq'
    rw [ha, hc] at e ⊢
    exact congrArg _ e
  · intro x
    rw [has_eq, List.any_eq_true]
    show x ∈ es.map (fun p => strOf p.1) ↔ _
    rw [List.mem_map]
    constructor
    · rintro ⟨p, hp', rfl⟩
      obtain ⟨a, ha⟩ := hs p hp'
      exact ⟨p, hp', by rw [ha]; simp [Lit.sameKey, strOf]⟩
    · rintro ⟨p, hp', h2⟩
      obtain ⟨a, ha⟩ := hs p hp'
      rw [ha] at h2
      exact ⟨p, hp', by rw [ha]; simpa [Lit.sameKey, strOf] using h2⟩
theorem keys_sorted (hk : P.underlying K = some .string) (KL : Keyed P K) {D : DataW Unit} {f : ByteArray → Option β} (hown : w.ownsMap P K R b n D) (hM : MgD P K Value.string domS dv D f) {ss : List (List UInt8)} (hp : ss.Perm (strKeys D)) :
    KeysOf f ((ss.mergeSort leB).map bsOf) ∧ ss.length ≤ n := by
  obtain ⟨hnd, hm⟩ := strKeys_mem hk KL hown
  have hnd' : (ss.mergeSort leB).Nodup := ((List.mergeSort_perm ss leB).trans hp).nodup_iff.2 hnd
  have hso : (ss.mergeSort leB).Pairwise (fun x y => leB x y = true) := List.pairwise_mergeSort (le := leB) (fun a b c h1 h2 => by simp only [leB, decide_eq_true_eq] at *; exact List.le_trans h1 h2) (fun a b => by simp only [leB, Bool.or_eq_true, decide_eq_true_eq]; exact List.le_total a b) ss
  refine ⟨⟨?_, ?_⟩, ?_⟩
  · rw [List.pairwise_map]
    refine (hso.and (List.nodup_iff_pairwise_ne.1 hnd')).imp ?_
    rintro a c ⟨h1, h2⟩
    simp only [leB, decide_eq_true_eq] at h1
    show ltS (bsOf a) (bsOf c)
    unfold ltS
    exact Std.lt_of_le_of_ne h1 h2
  · intro k
    rw [List.mem_map]
    constructor
    · rintro ⟨x, hx, rfl⟩
      have h1 : has D (.string x) = true := (hm x).1 (((List.mergeSort_perm ss leB).trans hp).subset hx)
      obtain ⟨k0, hd, hkk⟩ := hM.keys _ h1
      obtain ⟨s, e1, _, e2⟩ := keyS_inv hk hkk
      obtain rfl := strV_inj _ _ e1
      have e3 : bsOf x = k0 := by
        have : x = k0.data.toList := by unfold litS at e2; injection e2
        rw [this, bsOf_data]
      rw [e3, ← hM.has_ hd hkk]; exact h1
    · intro h
      have hd := hM.dm k h
      have h1 := hM.has_ hd (keyS_mk hk hd)
      rw [h] at h1
      exact ⟨k.data.toList, ((List.mergeSort_perm ss leB).trans hp).symm.subset ((hm _).2 h1), bsOf_data k⟩
  · rw [hp.length_eq]
    obtain ⟨es, clock, _, _, h1, rfl⟩ := hown
    show (List.map _ _).length ≤ n
    rw [List.length_map, length_sorted]; simpa using h1
end
end Go.Proofs.YtfkmbeppckelfaaGreatDoor
/- slices.Sorted(maps.Keys(m)): the keys of a map, in order. -/
namespace Go.Proofs.YtfkmbeppckelfaaGreatDoor
open Go.RowKit Go.Maps Go.Sort Go.Proofs Go.Shelf

theorem sortsS (m : Nat) : AnyZ.SortsIn Tryz.prog Tryz.sortedS_ren Fence.wide m :=
  ⟨fun blk off cap ss W hH hblk hsz => callsIn_wide.2 (AnyM.slices_Sort_string Tryz.sortSM blk off cap ss W hH hblk hsz),
   fun p cap W => callsIn_wide.2 (AnyM.slices_Sort_string_none Tryz.sortSM p cap W)⟩
/-- maps.Keys at map[string]api.State. -/
theorem w_KeysSt (b : Nat) (W : World) : Calls Tryz.prog 114 #[.map (some b)] W fun e w' => e = .returned (.func (.func 168) #[] #[.pointer (some ⟨W.heap.size, 0, none⟩)]) ∧ w' = W.alloc (.cells #[.map (some b)] 154 (0, 0)) :=
  (callsIn_wide (n := 5)).1 (AnyZ.keys_in Tryz.keysSt Fence.wide 5 trivial rfl (some b) W)
set_option maxHeartbeats 1000000 in
/-- slices.Sorted of the keys. -/
theorem w_SortedOSt (b n : Nat) (f : ByteArray → Option St) (w : World) (h : MpSS w b n f) (hn : n ≤ 100000) :
    Calls Tryz.prog 62 #[.func (.func 168) #[] #[.pointer (some ⟨w.heap.size, 0, none⟩)]] (w.alloc (.cells #[.map (some b)] 154 (0, 0))) fun e w' => ∃ (A : Option Addr) (c : Nat) (ks : List ByteArray), e = .returned (.slice A ks.length c) ∧ Rd w' w.heap.size A 1 encS ks ∧ KeysOf f ks ∧ ks.length ≤ n ∧ Nx w w' ∧ w'.ownsRow w.heap.size 9 1 (.slice A ks.length c) ks.length (ks.flatMap encS) := by
  obtain ⟨D0, hown, hM⟩ := h
  have hbl := hown.lt
  have hmax : Maps.size D0 ≤ n := by
    obtain ⟨es, clock, _, _, h1, rfl⟩ := hown
    rw [size_eq, length_sorted]; simpa using h1
  have hseq : SeqGives Fence.wide 2 Tryz.prog 168 #[.pointer (some ⟨w.heap.size, 0, none⟩)] encStr (fun ss => ss.Perm (strKeys D0)) (Maps.size D0) (w.alloc (.cells #[.map (some b)] 154 (0, 0))) :=
    AnyZ.keys_gives (ρ := Tryz.keysSt_ren) { Tryz.keysSt with } Fence.wide _ trivial rfl (by omega) w.heap.size b n D0 _ (by simp) (by simp) (by
      obtain ⟨es, clock, hb, Ft, hs, hD⟩ := hown
      exact ⟨es, clock, (Below.heap_alloc _ _ b hbl).trans hb, Ft, hs, hD⟩)
  have cS := AnyZ.sorted_in Tryz.sortedS Fence.wide 5 trivial trivial trivial trivial rfl (by omega) (sortsS _) (enters_of Tryz.func101 (by kernel_rfl) rfl) 168 #[.pointer (some ⟨w.heap.size, 0, none⟩)] trivial (enters_of Tryz.func168 (by kernel_rfl) rfl) _ _ (by unfold maxLen; omega) (by omega) _ hseq
  change CallsIn _ _ Tryz.prog 62 _ _ _ at cS
  refine ((callsIn_wide (n := 5)).1 cS).mono ?_
  rintro e w' ⟨v, ss, rfl, hp, hrow, _, hb⟩
  obtain ⟨hK, hl⟩ := keys_sorted Tryz.underlying9 law_strE hown hM hp
  have hrow2 : w'.ownsRow (w.alloc (.cells #[.map (some b)] 154 (0, 0))).heap.size 9 1 v ((ss.mergeSort leB).map bsOf).length (((ss.mergeSort leB).map bsOf).flatMap encS) := by
    rw [← enc_bs, List.length_map, List.length_mergeSort]; exact hrow
  have hrow3 := World.ownsRow.mono hrow2 (show w.heap.size ≤ _ by simp)
  obtain ⟨A, c, rfl, hR, _⟩ := Rd.of_own encS_len rfl hrow2
  exact ⟨A, c, _, rfl, hR.low (by simp), hK, by rw [List.length_map, List.length_mergeSort]; exact hl, ((Nx.refl w).alloc _).trans (hb.mono (Nat.le_refl _)), hrow3⟩

theorem w_SortedSt (b n : Nat) (f : ByteArray → Option St) (w : World) (h : MpSS w b n f) (hn : n ≤ 100000) :
    Calls Tryz.prog 62 #[.func (.func 168) #[] #[.pointer (some ⟨w.heap.size, 0, none⟩)]] (w.alloc (.cells #[.map (some b)] 154 (0, 0))) fun e w' => ∃ (A : Option Addr) (c : Nat) (ks : List ByteArray), e = .returned (.slice A ks.length c) ∧ Rd w' w.heap.size A 1 encS ks ∧ KeysOf f ks ∧ ks.length ≤ n ∧ Nx w w' :=
  (w_SortedOSt b n f w h hn).mono (by rintro e w' ⟨A, c, ks, h1, h2, h3, h4, h5, _⟩; exact ⟨A, c, ks, h1, h2, h3, h4, h5⟩)
end Go.Proofs.YtfkmbeppckelfaaGreatDoor
/- '==' and '!=' on events. -/
namespace Go.Proofs.YtfkmbeppckelfaaGreatDoor
open Go.RowKit

theorem toList_iff (s t : ByteArray) : s.toList = t.toList ↔ s = t := by
  have h := eqS_iff s t
  rw [Bool.eq_iff_iff, beq_iff_eq, decide_eq_true_eq] at h
  exact h
set_option maxHeartbeats 2000000 in
theorem sin_Ev (d : Nat) (a0 a4 a5 a6 a9 b0 b4 b5 b6 b9 : ByteArray) (a1 a2 a3 a7 a8 a10 b1 b2 b3 b7 b8 b10 : Int) (w : World) : (Op.equalIn (d + 2) 31 (.agg #[.string a0, .int .i64 a1, .int .i64 a2, .int .i64 a3, .string a4, .string a5, .string a6, .int .i64 a7, .int .i64 a8, .string a9, .int .i64 a10]) (.agg #[.string b0, .int .i64 b1, .int .i64 b2, .int .i64 b3, .string b4, .string b5, .string b6, .int .i64 b7, .int .i64 b8, .string b9, .int .i64 b10])).run Tryz.prog w = .ok (decide ((⟨a0, a1, a2, a3, a4, a5, a6, a7, a8, a9, a10⟩ : Ev) = ⟨b0, b1, b2, b3, b4, b5, b6, b7, b8, b9, b10⟩)) w := by
  have fu3 := Tryz.underlying3
  have fa3 := Tryz.isAgg3
  have fz3 := Tryz.sizeOf3
  have fu9 := Tryz.underlying9
  have fa9 := Tryz.isAgg9
  have fz9 := Tryz.sizeOf9
  have hS : Tryz.prog.underlying 31 = some (.struct (Tryz.prog.fieldsOf 31)) := by kernel_rfl
  have hp : Tryz.prog.stoodInHeld 31 = false := by kernel_rfl
  rw [run_equalIn_agg w (d + 1) 31 _ _ hS hp]
  simp only [Program.fieldsOf, Tryz.underlying31]
  go_simp
  simp only [toList_iff]
  (repeat' split) <;> simp_all
theorem neq_Ev (a0 a4 a5 a6 a9 b0 b4 b5 b6 b9 : ByteArray) (a1 a2 a3 a7 a8 a10 b1 b2 b3 b7 b8 b10 : Int) (w : World) : (binOp .neq 31 (.agg #[.string a0, .int .i64 a1, .int .i64 a2, .int .i64 a3, .string a4, .string a5, .string a6, .int .i64 a7, .int .i64 a8, .string a9, .int .i64 a10]) (.agg #[.string b0, .int .i64 b1, .int .i64 b2, .int .i64 b3, .string b4, .string b5, .string b6, .int .i64 b7, .int .i64 b8, .string b9, .int .i64 b10])).run Tryz.prog w = .ok (.bool (!decide ((⟨a0, a1, a2, a3, a4, a5, a6, a7, a8, a9, a10⟩ : Ev) = ⟨b0, b1, b2, b3, b4, b5, b6, b7, b8, b9, b10⟩))) w := by
  rw [run_neq_struct, show (10000 : Nat) = 9998 + 2 from rfl, sin_Ev]; rfl
theorem eql_Ev (a0 a4 a5 a6 a9 b0 b4 b5 b6 b9 : ByteArray) (a1 a2 a3 a7 a8 a10 b1 b2 b3 b7 b8 b10 : Int) (w : World) : (binOp .eql 31 (.agg #[.string a0, .int .i64 a1, .int .i64 a2, .int .i64 a3, .string a4, .string a5, .string a6, .int .i64 a7, .int .i64 a8, .string a9, .int .i64 a10]) (.agg #[.string b0, .int .i64 b1, .int .i64 b2, .int .i64 b3, .string b4, .string b5, .string b6, .int .i64 b7, .int .i64 b8, .string b9, .int .i64 b10])).run Tryz.prog w = .ok (.bool (decide ((⟨a0, a1, a2, a3, a4, a5, a6, a7, a8, a9, a10⟩ : Ev) = ⟨b0, b1, b2, b3, b4, b5, b6, b7, b8, b9, b10⟩))) w := by
  rw [run_eql_struct, show (10000 : Nat) = 9998 + 2 from rfl, sin_Ev]; rfl
end Go.Proofs.YtfkmbeppckelfaaGreatDoor
/- slices.Equal of refused events and of rides that are the same; '!=' on rides. -/
namespace Go.Proofs.YtfkmbeppckelfaaGreatDoor
open Go.RowKit

def encSta (s : St) : List Value := [.string s.ride, .string s.car, .int .i64 s.how, .int .i64 s.up, .int .i64 s.down, .int .i64 s.on, .int .i64 s.off]
theorem encSta_len (s : St) : (encSta s).length = 7 := rfl
theorem encSta_one (s : St) : ∀ v ∈ encSta s, v.oneCell' = true := by
  intro v hv; simp [encSta] at hv
  rcases hv with rfl | rfl | rfl | rfl | rfl | rfl | rfl <;> rfl
set_option maxHeartbeats 2000000 in
theorem sin_Sta (d : Nat) (a0 a1 b0 b1 : ByteArray) (a2 a3 a4 a5 a6 b2 b3 b4 b5 b6 : Int) (w : World) : (Op.equalIn (d + 2) 59 (.agg #[.string a0, .string a1, .int .i64 a2, .int .i64 a3, .int .i64 a4, .int .i64 a5, .int .i64 a6]) (.agg #[.string b0, .string b1, .int .i64 b2, .int .i64 b3, .int .i64 b4, .int .i64 b5, .int .i64 b6])).run Tryz.prog w = .ok (decide ((⟨a0, a1, a2, a3, a4, a5, a6⟩ : St) = ⟨b0, b1, b2, b3, b4, b5, b6⟩)) w := by
  have fu3 := Tryz.underlying3
  have fa3 := Tryz.isAgg3
  have fz3 := Tryz.sizeOf3
  have fu9 := Tryz.underlying9
  have fa9 := Tryz.isAgg9
  have fz9 := Tryz.sizeOf9
  have hS : Tryz.prog.underlying 59 = some (.struct (Tryz.prog.fieldsOf 59)) := by kernel_rfl
  have hp : Tryz.prog.stoodInHeld 59 = false := by kernel_rfl
  rw [run_equalIn_agg w (d + 1) 59 _ _ hS hp]
  simp only [Program.fieldsOf, Tryz.underlying59]
  go_simp
  simp only [toList_iff]
  (repeat' split) <;> simp_all
theorem neq_Sta (a0 a1 b0 b1 : ByteArray) (a2 a3 a4 a5 a6 b2 b3 b4 b5 b6 : Int) (w : World) : (binOp .neq 59 (.agg #[.string a0, .string a1, .int .i64 a2, .int .i64 a3, .int .i64 a4, .int .i64 a5, .int .i64 a6]) (.agg #[.string b0, .string b1, .int .i64 b2, .int .i64 b3, .int .i64 b4, .int .i64 b5, .int .i64 b6])).run Tryz.prog w = .ok (.bool (!decide ((⟨a0, a1, a2, a3, a4, a5, a6⟩ : St) = ⟨b0, b1, b2, b3, b4, b5, b6⟩))) w := by
  rw [run_neq_struct, show (10000 : Nat) = 9998 + 2 from rfl, sin_Sta]; rfl
attribute [local go_sem ↓] neq_Sta
theorem sin_Ref (d : Nat) (x y a b : Int) (w : World) : (Op.equalIn (d + 2) 72 (.agg #[.int .i64 x, .int .i64 y]) (.agg #[.int .i64 a, .int .i64 b])).run Tryz.prog w = .ok (x == a && y == b) w := by
  have u3 := Tryz.underlying3
  have a3 := Tryz.isAgg3
  have z3 := Tryz.sizeOf3
  have u4 := Tryz.underlying38
  have a4 := Tryz.isAgg38
  have z4 := Tryz.sizeOf38
  have hS : Tryz.prog.underlying 72 = some (.struct (Tryz.prog.fieldsOf 72)) := by kernel_rfl
  have hp : Tryz.prog.stoodInHeld 72 = false := by kernel_rfl
  rw [run_equalIn_agg w (d + 1) 72 _ _ hS hp]
  simp only [Program.fieldsOf, Tryz.underlying72]
  go_simp
  (repeat' split) <;> simp_all
theorem neq_Ref (x y a b : Int) (w : World) : (binOp .neq 72 (.agg #[.int .i64 x, .int .i64 y]) (.agg #[.int .i64 a, .int .i64 b])).run Tryz.prog w = .ok (.bool (!(x == a && y == b))) w := by
  rw [run_neq_struct, show (10000 : Nat) = 9998 + 2 from rfl, sin_Ref]; rfl
attribute [local go_sem ↓] neq_Ref

set_option maxRecDepth 100000 in
set_option maxHeartbeats 1000000 in
theorem w_EqualSta (lo lo' : Nat) (A B : Option Addr) (c d : Nat) (l : List St) (w : World) (hA : Rd w lo A 7 encSta l) (hB : Rd w lo' B 7 encSta l) (hl : l.length ≤ 65536) :
    Calls Tryz.prog 33 #[.slice A l.length c, .slice B l.length d] w fun e w' => e = .returned (.bool true) ∧ Nx w w' := by
  generalize hn : l.length = n at *
  have HA := hide hA
  have HB := hide hB
  have HN := hide hn
  clear hA hB hn
  go_enter Tryz.func33, Tryz.ntmps33
  go_wp2
  go_loopw [5, 13] (fun _ i wr => ∃ k : Nat, k ≤ n ∧ i = .int .i64 k ∧ Nx w wr) (fun _ i _ => n - (intOf i).toNat)
  case atStart => exact ⟨0, Nat.zero_le _, rfl, Nx.refl _⟩
  case round =>
    obtain ⟨k, hk, rfl, hbw⟩ := hrel
    by_cases hlt : k < n
    · have hlt' : k < l.length := by have := HN.out; omega
      obtain ⟨b, off, rfl, _, hb, hbr, hc⟩ := HA.out.open_ hbw (by omega)
      obtain ⟨b', off', rfl, _, hb', hbr', hc'⟩ := HB.out.open_ hbw (by omega)
      have c0 := hc k hlt' 0 _ rfl
      have c1 := hc k hlt' 1 _ rfl
      have c2 := hc k hlt' 2 _ rfl
      have c3 := hc k hlt' 3 _ rfl
      have c4 := hc k hlt' 4 _ rfl
      have c5 := hc k hlt' 5 _ rfl
      have c6 := hc k hlt' 6 _ rfl
      have d0 := hc' k hlt' 0 _ rfl
      have d1 := hc' k hlt' 1 _ rfl
      have d2 := hc' k hlt' 2 _ rfl
      have d3 := hc' k hlt' 3 _ rfl
      have d4 := hc' k hlt' 4 _ rfl
      have d5 := hc' k hlt' 5 _ rfl
      have d6 := hc' k hlt' 6 _ rfl
      clear hc hc'
      generalize l[k] = s at *
      obtain ⟨rid, car, how, up, dn, on, off_⟩ := s
      simp only [Nat.add_zero] at c0 c1 c2 c3 c4 c5 c6 d0 d1 d2 d3 d4 d5 d6
      have q1 : (0 : Int) ≤ (k : Int) := by omega
      have q2 : (k : Int) < (n : Int) := by omega
      go_wp2_with fail
      go_quiet (fail)
      go_wp2
      go_roundw
      case rel => exact ⟨k + 1, by omega, by go_num, hbw.drewN _⟩
      case measure => simp [intOf]; omega
    · go_wp2
      go_ret
      exact ⟨rfl, hbw⟩
end Go.Proofs.YtfkmbeppckelfaaGreatDoor
/- All rides, by the reference. -/
namespace Go.Proofs.YtfkmbeppckelfaaGreatDoor
open Go.RowKit Go.Maps

theorem el_Sta : ElemOf Tryz.prog 48 59 7 72 := ElemOf.mk' (z := .agg (staV st0)) Tryz.underlying48 (by kernel_rfl) rfl
theorem mg_dom {κ V : Type} {P : Program} {K : TypeId} {ek : κ → Value} {dom : κ → Prop} {R : Value → Option (DataW Unit × List MemPlace)} {dv : V → DataW Unit} {w : World} {b n : Nat} {f : κ → Option V} (h : MgI P K ek dom R dv w b n f) {k : κ} (hk : (f k).isSome = true) : dom k := by
  obtain ⟨D, _, h2⟩ := h
  exact h2.dm k hk
theorem stsR_len (f : ByteArray → Option St) (ks : List ByteArray) : (stsR f ks).length = ks.length := by unfold stsR; rw [List.length_map]
theorem take_snoc {α : Type} {l : List α} {k : Nat} (h : k < l.length) : l.take (k + 1) = l.take k ++ [l[k]] := by rw [List.take_add_one, List.getElem?_eq_getElem h]; rfl
/-- All rides, in order, by the reference. -/
def StatesEnd (l : List Ev) (at_ : Int) (w : World) (e : Ending) (w' : World) : Prop :=
  ∃ (A : Option Addr) (c : Nat) (ks : List ByteArray), e = .returned (.slice A ks.length c) ∧ Rd w' w.heap.size A 7 encSta (stsR (runR l at_ l.length).rides ks) ∧ KeysOf (runR l at_ l.length).rides ks ∧ ks.length ≤ 3 * l.length ∧ Nx w w'
set_option maxRecDepth 100000 in
set_option maxHeartbeats 2000000 in
theorem w_StatesAt (lo : Nat) (A : Option Addr) (c : Nat) (l : List Ev) (at_ : Int) (w : World) (hR : Rd w lo A 11 encEvt l) (hl : l.length ≤ 1000) (hc : l.length ≤ c) (hok : ∀ x ∈ l, okEv x) :
    Calls Tryz.prog 75 #[.slice A l.length c, .int .i64 at_] w (StatesEnd l at_ w) := by
  have HDA := hide (w_dayAt lo A c l at_ w hR hl hc hok)
  unfold StatesEnd
  obtain ⟨D, hD⟩ : ∃ D, D = runR l at_ l.length := ⟨_, rfl⟩
  rw [← hD]
  have HD := hide hD
  obtain ⟨n, hn⟩ : ∃ n, n = l.length := ⟨_, rfl⟩
  have hnl : n ≤ 1000 := by omega
  rw [← hn] at HDA ⊢
  have HN := hide hn
  clear hR hl hc hok hn hD
  go_enter Tryz.func75, Tryz.ntmps75
  go_wp2_with fail
  refine HDA.out.mono ?_
  rintro e w1 ⟨d, rb, cb, bb, rfl, hDR, _, hn1⟩
  rw [← HD.out, ← HN.out] at hDR
  have HS := hide (w_SortedSt rb (3 * n) D.rides w1 hDR.rides (by omega))
  obtain ⟨d0, d1, d2⟩ := dayR_cells hDR.blk
  have hdl := hDR.lts.1
  have HDR := hide hDR
  have HN1 := hide hn1
  clear hDR hn1 d1 d2
  go_wp2_with (go_at_call 114; refine (w_KeysSt _ _).mono ?_; rintro e w' ⟨rfl, rfl⟩)
  refine HS.out.mono ?_
  rintro e w3 ⟨KA, kc, ks, rfl, hRk, hK, hkl, hn3⟩
  obtain ⟨m, hm⟩ : ∃ m, m = ks.length := ⟨_, rfl⟩
  rw [← hm] at hkl
  rw [← hm]
  have HM := hide hm
  have HRK := hide hRk
  have HK := hide hK
  have HN3 := hide hn3
  have d0' := nx_cell hn3 hdl d0
  have hdl3 := Nat.lt_of_lt_of_le hdl hn3.sz
  clear hm hRk hK hn3 d0 HS
  go_wp2_with fail
  go_loopw [6, 8, 19] (fun v _ i wr => ∃ k : Nat, k ≤ m ∧ i = .int .i64 k ∧ Nx w3 wr ∧ wr.ownsRow w3.heap.size 59 7 v (stsR D.rides (ks.take k)).length ((stsR D.rides (ks.take k)).flatMap encSta)) (fun _ _ i _ => m - (intOf i).toNat)
  case atStart => exact ⟨0, Nat.zero_le _, rfl, Nx.refl _, World.ownsRow_nil _ _ _ _⟩
  case round =>
    obtain ⟨k, hk, rfl, hnx, hown⟩ := hrel
    have HNX := hide hnx
    by_cases hlt : k < m
    · have hlt' : k < ks.length := by have := HM.out; omega
      obtain ⟨b, off, eb, _, hb, hbr, hcs⟩ := HRK.out.open_ hnx (by have := HM.out; omega)
      have c0 : wr.cell? ⟨b, off + k, none⟩ = some (.string ks[k]) := by have := hcs k hlt' 0 _ rfl; simpa using this
      have hts := hide (take_snoc hlt')
      have hks := (HK.out.2 ks[k]).1 (List.getElem_mem hlt')
      have hkd := mg_dom HDR.out.rides hks
      generalize ks[k] = id at *
      have hlk := look_stR (HDR.out.rides.nx (HN3.out.trans hnx)) hkd
      have e0 := nx_cell hnx hdl3 d0'
      have hle : (stsR D.rides (ks.take k)).length ≤ k := by rw [stsR_len, List.length_take]; omega
      have HOW := hide hown
      have hst := hide (show stsR D.rides (ks.take (k + 1)) = stsR D.rides (ks.take k) ++ [(D.rides id).getD st0] by rw [hts.out]; unfold stsR; rw [List.map_append]; rfl)
      generalize stsR D.rides (ks.take k) = L at *
      generalize (D.rides id).getD st0 = s at *
      obtain ⟨rid, car, how, up, dn, on, off_⟩ := s
      unfold stV staV at hlk
      simp only at hlk
      have q1 : (0 : Int) ≤ (k : Int) := by omega
      have q2 : (k : Int) < (m : Int) := by omega
      have hz3 : w3.heap.size ≤ wr.heap.size := hnx.sz
      subst eb
      clear hnx hcs hks hown
      go_wp2_with (first
          | (at_builtin; refine wpApp rfl _ _ _ rfl el_Sta encSta encSta_len encSta_one (by omega) (by omega) w3.heap.size _ L rfl (HOW.out.alloc _) _ ⟨rid, car, how, up, dn, on, off_⟩ _ rfl (hnew (by simp)) rfl (by omega) (by simp; omega) ?_; intro v8 w8 hown8 hg8; (have HO8 := hide hown8); (have HG8 := hide hg8); clear hown8 hg8))
      go_roundw
      case rel => exact ⟨k + 1, by omega, by go_num, (HNX.out.alloc _).grown HG8.out (fun p hp => own_blk_lt HOW.out p hp), by rw [hst.out]; exact HO8.out⟩
      case measure => simp [intOf]; omega
    · obtain rfl : k = m := by omega
      rw [List.take_of_length_le (by have := HM.out; omega)] at hown
      obtain ⟨B, bc, eB, hB, _⟩ := Rd.of_own encSta_len rfl hown
      subst eB
      rw [stsR_len, ← HM.out]
      have HB := hide hB
      clear hB hnx hown
      go_wp2_with fail
      go_ret
      exact ⟨B, bc, ks, by rw [HM.out]; rfl, HB.out.low (HN1.out.trans HN3.out).sz, HK.out, by have := HM.out; omega, (HN1.out.trans HN3.out).trans HNX.out⟩
end Go.Proofs.YtfkmbeppckelfaaGreatDoor
