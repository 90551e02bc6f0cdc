/- All cars, by the program. -/
import Derived.Test.YtfkmbeppckelfaaGreatDoorQG40
import Derived.Test.YtfkmbeppckelfaaGreatDoorQRfW
import Derived.Deep.RegionHeld
namespace Go.Proofs.YtfkmbeppckelfaaGreatDoor
open Go.RowKit Go.Sort Go.Shelf Go.Maps Go.Proofs

/-- What is said of a car. -/
def WrOf (D : DayP) (k : ByteArray) (x : Wr) : Prop := ∃ c, D.cars k = some c ∧ x.node = c.node ∧ x.at_ = c.at_ ∧ x.broken = c.broken ∧ KeysOf c.on x.rides
/-- What Cars answers. -/
def CarsEndP (l : List Ev) (at_ : Int) (w : World) (e : Ending) (w' : World) : Prop :=
  (∃ (B : Option Addr) (m cb : Nat), e = .returned (.tuple #[.slice B m cb, .int .i64 (momentF l at_)]) ∧ (momentF l at_ ≠ 0 → m = 0) ∧ (momentF l at_ = 0 → ∃ L : List WrS, m = L.length ∧ RdWrs w' w.heap.size B L ∧ WrsP (runP l at_ l.length) (L.map (·.core)) ∧ L.length ≤ 4 * l.length ∧ ∀ x ∈ L, x.core.rides.length ≤ 4 * l.length)) ∧ Nx w w'
theorem RowsIn.perm {w : World} {lo : Nat} {L M : List WrS} (h : RowsIn w lo L) (hp : M.Perm L) : RowsIn w lo M := fun x hx => h x (hp.subset hx)
set_option maxRecDepth 100000 in
set_option maxHeartbeats 4000000 in
theorem w_Cars (lo : Nat) (A : Option Addr) (c : Nat) (l : List Ev) (at_ : Int) (w : World) (hR : Rd w lo A 11 encEvt l) (hl : l.length ≤ 50) (hok : ∀ x ∈ l, okEv x) :
    Calls Tryz.prog 29 #[.slice A l.length c, .int .i64 at_] w (CarsEndP l at_ w) := by
  have HC := hide (w_momentFault lo A c l at_ w hR hl hok)
  have HFO := hide (fun (h : momentF l at_ = 0) (W : World) (hn : Nx w W) => w_follow lo A c l at_ W (hR.nx hn) (by omega) (momentF_zero h).1)
  unfold CarsEndP
  have hq : momentF l at_ = 0 ∨ (momentF l at_ != 0) = true := by simp; omega
  rcases hq with hq | hq
  · have HQ := hide hq
    rw [hq] at HC ⊢
    have HFO2 := hide (HFO.out hq)
    obtain ⟨D, hD⟩ : ∃ D, D = runP l at_ l.length := ⟨_, rfl⟩
    rw [← hD]
    have HD := hide hD
    obtain ⟨n, hn⟩ : ∃ n, n = l.length := ⟨_, rfl⟩
    have hnl : n ≤ 50 := by omega
    rw [← hn] at HC HFO2 ⊢
    have HN := hide hn
    clear hR hl hok hq hn HFO hD
    go_enter Tryz.func29, Tryz.ntmps29
    go_wp2_with fail
    refine HC.out.mono ?_
    rintro e w2 ⟨rfl, hn2⟩
    have HFO3 := hide (HFO2.out w2 hn2)
    have HN2 := hide hn2
    clear hn2
    go_wp2_with fail
    refine HFO3.out.mono ?_
    rintro e w3 ⟨lo3, d, rb, cb, gb, bb, rv, fr, fc, fm, rfl, hDW, hblk, hrow, hG, h1, h2, h3, h4, h5, hnx⟩
    have d2 := (day_cells hblk).2.2.1
    rw [← HD.out, ← HN.out] at hDW
    obtain ⟨Dt, hown, hMD⟩ := hDW.cars.map
    have hnt : Maps.size Dt ≤ 4 * n := by
      obtain ⟨es, clock, _, _, h1, rfl⟩ := hown
      rw [size_eq, length_sorted]; simpa using h1
    have HDW := hide hDW
    have HMD := hide hMD
    have HN3 := hide (HN2.out.trans hnx)
    have hzz : w.heap.size ≤ w3.heap.size := HN3.out.sz
    clear hblk hrow hG hnx hDW hMD
    go_wp2_with (first
      | (at_range; refine wpList_range_own _ rfl _ _ rfl 9 109 law_strE Tryz.underlying87 _ cb (4 * n) _ rfl hown ?_; intro w4 hrg4 hg4 hs4))
    try go_frame
    have hgn : ∀ k, (D.cars k).isSome = true → Maps.has Dt (litS k) = true := by
      intro k hk'
      cases hs : D.cars k with
      | none => rw [hs] at hk'; cases hk'
      | some s =>
        obtain ⟨q, hq, _⟩ := HDW.out.cars.at_ k s hs
        have hdk := HMD.out.dm k (by rw [hq]; rfl)
        rw [HMD.out.has_ hdk (keyS_mk Tryz.underlying9 hdk), hq]; rfl
    have HGN := hide hgn
    clear hgn
    go_loopw [7, 8, 9] (fun v _ _ wr => ∃ (left : Lit → Bool) (cnt : Nat) (L : List WrS), wr.ranges Tryz.prog 9 ptrElem cb w3.heap.size (4 * n) Dt left cnt ∧ L.length + cnt ≤ 4 * n ∧ wr.ownsRow (w3.heap.size + 1) 57 5 v L.length (L.flatMap encWr) ∧ CollG (fun x : WrS => x.core.car) (fun k => (D.cars k).isSome) (fun k x => WrOf D k x.core ∧ x.core.rides.length ≤ 4 * n) left L ∧ RowsIn wr w3.heap.size L ∧ Nx w3 wr)
      (fun _ _ _ wr => wr.rangeLeft cb w3.heap.size)
    case atStart =>
      exact ⟨_, _, [], hrg4, by simpa using hnt, World.ownsRow_nil _ _ _ _, collG_start HGN.out, fun x hx => by simp at hx, (Nx.refl _).grown hg4 (fun j hj => by cases hj)⟩
    case round =>
      obtain ⟨left, cnt, L, hrg, hcs, hown1, hC, hrows, hnx⟩ := hrel
      have HCC := hide hC
      have HNX := hide hnx
      have HRG := hide hrg
      have HOW := hide hown1
      have HRW := hide hrows
      clear hC hnx hown1 hrows
      go_wp2_with (first
        | (at_next; refine wpList_next_ranges _ rfl _ rfl 9 law_strE ptrElem Value.string ptrV (fun key kl hkey => (by obtain ⟨x, rfl, _⟩ := keyS_inv Tryz.underlying9 hkey; exact ⟨x, rfl⟩)) (fun v y hv => (by obtain ⟨q, _, h, _⟩ := elemPtr.inv v y.1 y.2 hv; exact ⟨q, h⟩)) cb w3.heap.size (4 * n) _ _ _ rfl hrg ?_ ?_))
      · intro hc0 hl0
        have HL0 := hide hl0
        obtain ⟨m, hm⟩ : ∃ m, m = L.length := ⟨_, rfl⟩
        have HM := hide hm
        have HSO := hide (w_SortWr wr rfl (by omega) HOW.out)
        clear hl0 hm hrg
        go_wp2_with (go_at_call 64; refine HSO.out.mono ?_; rintro e w6 ⟨rfl, ys, hp, hs, ho, hg6⟩; (have HP := hide hp); (have HS := hide hs); (have HO := hide ho); (have HG6 := hide hg6); clear hp hs ho hg6)
        go_ret2
        obtain ⟨h1, h2, h3⟩ := collG_end HCC.out HL0.out HP.out HS.out
        have hyl : ys.length = L.length := HP.out.length_eq
        have ho := HO.out
        rw [← hyl] at ho
        obtain ⟨B, cb', ev, hRB, _⟩ := Rd.of_own encWr_len rfl ho
        have hrw := (HRW.out.turn HOW.out HG6.out).perm HP.out
        refine ⟨⟨B, ys.length, cb', by rw [← ev]; rfl, fun h => absurd rfl h, fun _ => ⟨ys, rfl, ⟨hRB.low (by omega), fun x hx => (hrw.rd x hx).low (by omega)⟩, ⟨?_, ?_, ?_⟩, by omega, fun x hx => (h2 x hx).2⟩⟩, (HN3.out.trans HNX.out).grown HG6.out (fun p hp => by have := own_blk_lt HOW.out p hp; omega)⟩
        · rw [List.pairwise_map]; exact h1
        · intro x hx
          obtain ⟨y, hy, rfl⟩ := List.mem_map.1 hx
          exact (h2 y hy).1
        · intro k hk
          obtain ⟨x, hx, e⟩ := h3 k hk
          exact ⟨x.core, List.mem_map.2 ⟨x, hx, rfl⟩, e⟩
      · intro k c kl y ps w5 cnt5 hkey hlk hRv hat hrg5 hlt5 hg5 hs5 hen
        obtain ⟨k0, ek, hdk, rfl⟩ := keyS_inv Tryz.underlying9 hkey
        obtain rfl := strV_inj _ _ ek
        have hfk := range_ptr HMD.out hdk (keyS_mk Tryz.underlying9 hdk) hRv hat
        obtain ⟨s, hs⟩ : ∃ s, D.cars k = some s := by
          cases hs : D.cars k with
          | none => have := HDW.out.cars.non k hs; rw [hfk] at this; cases this
          | some s => exact ⟨s, rfl⟩
        obtain ⟨q, hq, hlq, hqo, hlm, hmo⟩ := HDW.out.cars.at_ k s hs
        rw [hfk] at hq; injection hq with hq; subst hq
        have hn5 : Nx w3 w5 := HNX.out.grown hg5 (fun p hp => by injection hp with hp; omega)
        have hql3 := (Array.getElem?_eq_some_iff.1 hqo).1
        have hqo5 := (hn5.block _ hql3).trans hqo
        have hql := (Array.getElem?_eq_some_iff.1 hqo5).1
        have hmo5 := hmo.nx hn5
        have hown5 := own_gr HOW.out hg5 (by omega)
        have hrw5 : RowsIn w5 w3.heap.size L := fun x hx => by
          have h := HRW.out x hx
          refine h.kept hg5 ?_
          rcases h.2 with ⟨e, _⟩ | ⟨g, cap, cur, e, _, hh, _⟩
          · rw [e]; exact .inl rfl
          · rw [e]; right
            intro e2
            injection e2 with e2
            have e3 : g = w3.heap.size := e2
            rw [e3] at hh
            exact absurd hh (by obtain ⟨es, clock, since, seen, c0, _, _, _, _, hr, _⟩ := hrg; rw [hr]; simp)
        have hsz5 : w3.heap.size < w5.heap.size := hrg5.lt
        have hcb3 : cb < w3.heap.size := HDW.out.cars.map.lt
        obtain ⟨M, hM⟩ : ∃ M, M = fm k := ⟨_, rfl⟩
        rw [← hM] at hqo5 hmo5
        obtain ⟨node, cat, brk, on⟩ := s
        simp only at hmo5
        obtain ⟨b0, b1, b2, b3⟩ := crw_cells hqo5
        simp only at b0 b1 b2
        simp only [ptrV] at hen
        have HS := hide hs
        have HR5 := hide hrg5
        have HO5 := hide hown5
        have HN5 := hide hn5
        have HW5 := hide hrw5
        have HQ5 := hide hqo5
        have HM5 := hide hmo5
        have HLK := hide hlk
        clear hRv hat hlk hg5 hrg5 hs5 hs hfk hqo hqo5 hown5 hn5 hrg hrw5 hlm hmo hmo5 hM
        go_upto_region 8 with fail
        have hx : Nx w5 w5.drew := (Nx.refl w5).drew
        have HB := hide (fun W (hx : Nx w5 W) => crw_cells ((hx.block q hql).trans HQ5.out))
        refine wp_region_held_drew (S := fun W => W.cell? ⟨q, 0, none⟩ = some (.string node) ∧ W.cell? ⟨q, 1, none⟩ = some (.int .i64 cat) ∧ W.cell? ⟨q, 2, none⟩ = some (.bool brk) ∧ W.cell? ⟨q, 3, none⟩ = some (.map (some M))) (by kernel_rfl) (HB.out _ hx) (fun hHeld => ?_)
        generalize w5.drew = wd at *
        clear b0 b1 b2 b3
        refine wpAnyH_take (i := 0) (oi := ⟨some 28, _, _, _, _, _⟩) (v := ?_) rfl (by kernel_rfl) (by kernel_rfl) (by kernel_rfl) (fun _ _ _ h => h) (Or.inl ⟨by rfl, ?_⟩) (by assumption) ?_
        rotate_left 1
        · intro w hSw
          (try dsimp only at hSw)
          go_simp
          try with_reducible rfl
        try simp only [Act.put, List.setIfInBounds_toArray, List.set_cons_zero, List.set_cons_succ]
        refine wpAnyH_take (i := 1) (oi := ⟨some 29, _, _, _, _, _⟩) (v := ?_) rfl (by kernel_rfl) (by kernel_rfl) (by kernel_rfl) (fun _ _ _ h => h) (Or.inl ⟨by rfl, ?_⟩) (by assumption) ?_
        rotate_left 1
        · intro w hSw
          (try dsimp only at hSw)
          go_simp
          try with_reducible rfl
        try simp only [Act.put, List.setIfInBounds_toArray, List.set_cons_zero, List.set_cons_succ]
        refine wpAnyH_take (i := 2) (oi := ⟨some 30, _, _, _, _, _⟩) (v := ?_) rfl (by kernel_rfl) (by kernel_rfl) (by kernel_rfl) (fun _ _ _ h => h) (Or.inl ⟨by rfl, ?_⟩) (by assumption) ?_
        rotate_left 1
        · intro w hSw
          (try dsimp only at hSw)
          go_simp
          try with_reducible rfl
        try simp only [Act.put, List.setIfInBounds_toArray, List.set_cons_zero, List.set_cons_succ]
        refine wpAnyH_take (i := 3) (oi := ⟨some 31, _, _, _, _, _⟩) (v := ?_) rfl (by kernel_rfl) (by kernel_rfl) (by kernel_rfl) (fun _ _ _ h => h) (Or.inl ⟨by rfl, ?_⟩) (by assumption) ?_
        rotate_left 1
        · intro w hSw
          (try dsimp only at hSw)
          go_simp
          try with_reducible rfl
        try simp only [Act.put, List.setIfInBounds_toArray, List.set_cons_zero, List.set_cons_succ]
        refine wpAnyH_take (i := 4) (oi := ⟨some 32, _, _, _, _, _⟩) (v := ?_) rfl (by kernel_rfl) (by kernel_rfl) (by kernel_rfl) (fun _ _ _ h => h) (Or.inl ⟨by rfl, ?_⟩) (by assumption) ?_
        rotate_left 1
        · intro w hSw
          (try dsimp only at hSw)
          go_simp
          try with_reducible rfl
        try simp only [Act.put, List.setIfInBounds_toArray, List.set_cons_zero, List.set_cons_succ]
        refine wpAnyH_take (i := 5) (oi := ⟨some 33, _, _, _, _, _⟩) (v := ?_) rfl (by kernel_rfl) (by kernel_rfl) (by kernel_rfl) (fun _ _ _ h => h) (Or.inl ⟨by rfl, ?_⟩) (by assumption) ?_
        rotate_left 1
        · intro w hSw
          (try dsimp only at hSw)
          go_simp
          try with_reducible rfl
        try simp only [Act.put, List.setIfInBounds_toArray, List.set_cons_zero, List.set_cons_succ]
        refine wpAnyH_take (i := 6) (oi := ⟨some 34, _, _, _, _, _⟩) (v := ?_) rfl (by kernel_rfl) (by kernel_rfl) (by kernel_rfl) (fun _ _ _ h => h) (Or.inl ⟨by rfl, ?_⟩) (by assumption) ?_
        rotate_left 1
        · intro w hSw
          (try dsimp only at hSw)
          go_simp
          try with_reducible rfl
        try simp only [Act.put, List.setIfInBounds_toArray, List.set_cons_zero, List.set_cons_succ]
        refine wpAnyH_take (i := 7) (oi := ⟨some 35, _, _, _, _, _⟩) (v := ?_) rfl (by kernel_rfl) (by kernel_rfl) (by kernel_rfl) (fun _ _ _ h => h) (Or.inl ⟨by rfl, ?_⟩) (by assumption) ?_
        rotate_left 1
        · intro w hSw
          (try dsimp only at hSw)
          go_simp
          try with_reducible rfl
        try simp only [Act.put, List.setIfInBounds_toArray, List.set_cons_zero, List.set_cons_succ]
        refine wpAnyH_take (i := 8) (oi := ⟨some 36, _, _, _, _, _⟩) (v := ?_) rfl (by kernel_rfl) (by kernel_rfl) (by kernel_rfl) (fun _ _ _ h => h) (Or.inl ⟨by rfl, ?_⟩) (by assumption) ?_
        rotate_left 1
        · intro w hSw
          (try dsimp only at hSw)
          go_simp
          try with_reducible rfl
        try simp only [Act.put, List.setIfInBounds_toArray, List.set_cons_zero, List.set_cons_succ]
        refine wpAnyH_take (i := 9) (oi := ⟨some 37, _, _, _, _, _⟩) (v := ?_) rfl (by kernel_rfl) (by kernel_rfl) (by kernel_rfl) (fun _ _ _ h => h) (Or.inl ⟨by rfl, ?_⟩) (by assumption) ?_
        rotate_left 1
        · intro w hSw
          (try dsimp only at hSw)
          go_simp
          try with_reducible rfl
        try simp only [Act.put, List.setIfInBounds_toArray, List.set_cons_zero, List.set_cons_succ]
        refine wpAnyH_take (i := 10) (oi := ⟨some 38, _, _, _, _, _⟩) (v := ?_) rfl (by kernel_rfl) (by kernel_rfl) (by kernel_rfl) (fun _ _ _ h => h) (Or.inl ⟨by rfl, ?_⟩) (by assumption) ?_
        rotate_left 1
        · intro w hSw
          (try dsimp only at hSw)
          go_simp
          try with_reducible rfl
        try simp only [Act.put, List.setIfInBounds_toArray, List.set_cons_zero, List.set_cons_succ]
        refine wpAnyH_take (i := 11) (oi := ⟨some 39, _, _, _, _, _⟩) (v := ?_) rfl (by kernel_rfl) (by kernel_rfl) (by kernel_rfl) (fun _ _ _ h => h) (Or.inl ⟨by rfl, ?_⟩) (by assumption) ?_
        rotate_left 1
        · intro w hSw
          (try dsimp only at hSw)
          go_simp
          try with_reducible rfl
        try simp only [Act.put, List.setIfInBounds_toArray, List.set_cons_zero, List.set_cons_succ]
        refine wpAnyH_take (i := 12) (oi := ⟨some 40, _, _, _, _, _⟩) (v := ?_) rfl (by kernel_rfl) (by kernel_rfl) (by kernel_rfl) (fun _ _ _ h => h) (Or.inl ⟨by rfl, ?_⟩) (by assumption) ?_
        rotate_left 1
        · intro w hSw
          (try dsimp only at hSw)
          go_simp
          try with_reducible rfl
        try simp only [Act.put, List.setIfInBounds_toArray, List.set_cons_zero, List.set_cons_succ]
        refine wpAnyH_take (i := 13) (oi := ⟨some 41, _, _, _, _, _⟩) (v := ?_) rfl (by kernel_rfl) (by kernel_rfl) (by kernel_rfl) (fun _ _ _ h => h) (Or.inl ⟨by rfl, ?_⟩) (by assumption) ?_
        rotate_left 1
        · intro w hSw
          (try dsimp only at hSw)
          go_simp
          try with_reducible rfl
        try simp only [Act.put, List.setIfInBounds_toArray, List.set_cons_zero, List.set_cons_succ]
        refine wpAnyH_take (i := 14) (oi := ⟨some 42, _, _, _, _, _⟩) (v := ?_) rfl (by kernel_rfl) (by kernel_rfl) (by kernel_rfl) (fun _ _ _ h => h) (Or.inl ⟨by rfl, ?_⟩) (by assumption) ?_
        rotate_left 1
        · intro w hSw
          (try dsimp only at hSw)
          go_simp
          try with_reducible rfl
        try simp only [Act.put, List.setIfInBounds_toArray, List.set_cons_zero, List.set_cons_succ]
        refine wpAnyH_take (i := 15) (oi := ⟨some 43, _, _, _, _, _⟩) (v := ?_) rfl (by kernel_rfl) (by kernel_rfl) (by kernel_rfl) (fun _ _ _ h => h) (Or.inl ⟨by rfl, ?_⟩) (by assumption) ?_
        rotate_left 1
        · intro w hSw
          (try dsimp only at hSw)
          go_simp
          try with_reducible rfl
        try simp only [Act.put, List.setIfInBounds_toArray, List.set_cons_zero, List.set_cons_succ]
        refine wpAnyH_take (i := 16) (oi := ⟨some 44, _, _, _, _, _⟩) (v := ?_) rfl (by kernel_rfl) (by kernel_rfl) (by kernel_rfl) (fun _ _ _ h => h) (Or.inl ⟨by rfl, ?_⟩) (by assumption) ?_
        rotate_left 1
        · intro w hSw
          (try dsimp only at hSw)
          go_simp
          try with_reducible rfl
        try simp only [Act.put, List.setIfInBounds_toArray, List.set_cons_zero, List.set_cons_succ]
        refine wpAnyH_take (i := 17) (oi := ⟨some 45, _, _, _, _, _⟩) (v := ?_) rfl (by kernel_rfl) (by kernel_rfl) (by kernel_rfl) (fun _ _ _ h => h) (Or.inl ⟨by rfl, ?_⟩) (by assumption) ?_
        rotate_left 1
        · intro w hSw
          (try dsimp only at hSw)
          go_simp
          try with_reducible rfl
        try simp only [Act.put, List.setIfInBounds_toArray, List.set_cons_zero, List.set_cons_succ]
        have HSO := hide (w_SortedOBo M (4 * n) on wd (HM5.out.nx hx) (by omega))
        refine wpAnyH_ready (rs := [18]) (by kernel_rfl) (by simp) ?_
        refine AllReadyH.cons rfl (fun K hK => ?_) AllReadyH.nil
        go_simp
        go_at_call 63
        refine (w_KeysBo _ _).mono ?_
        rintro e w6 ⟨rfl, rfl⟩
        go_simp
        refine hK.out _ _ (HB.out _ (hx.alloc _)) (fun hHeld => ?_)
        clear hK K
        try simp only [Act.put, List.setIfInBounds_toArray, List.set_cons_zero, List.set_cons_succ]
        refine wpAnyH_ready (rs := [19]) (by kernel_rfl) (by simp) ?_
        refine AllReadyH.cons rfl (fun K hK => ?_) AllReadyH.nil
        go_simp
        go_at_call 62
        refine HSO.out.mono ?_
        rintro e w7 ⟨A7, c7, rs, rfl, _, hK7, hl7, hn7, hr7⟩
        have HK7 := hide hK7
        clear hK7
        obtain ⟨nr, hnr⟩ : ∃ nr, nr = rs.length := ⟨_, rfl⟩
        rw [← hnr] at hl7
        rw [← hnr]
        have HNR := hide hnr
        have HR7 := hide hr7
        have hd7 := hx.sz
        clear hnr hr7
        replace hx := hx.trans hn7
        go_simp
        refine hK.out _ _ (HB.out _ hx) (fun hHeld => ?_)
        clear hK K
        try simp only [Act.put, List.setIfInBounds_toArray, List.set_cons_zero, List.set_cons_succ]
        refine wpAnyH_take (i := 20) (oi := ⟨some 48, _, _, _, _, _⟩) (v := ?_) rfl (by kernel_rfl) (by kernel_rfl) (by kernel_rfl) (fun _ _ _ h => h) (Or.inl ⟨by rfl, ?_⟩) (by assumption) ?_
        rotate_left 1
        · intro w hSw
          (try dsimp only at hSw)
          go_simp
          try with_reducible rfl
        try simp only [Act.put, List.setIfInBounds_toArray, List.set_cons_zero, List.set_cons_succ]
        obtain ⟨x7, hx7⟩ : ∃ x7 : WrS, x7 = ⟨⟨k, node, cat, brk, rs⟩, A7, c7⟩ := ⟨_, rfl⟩
        have HX7 := hide hx7
        have HXE := hide (show encWr x7 = [.string k, .string node, .int .i64 cat, .bool brk, .slice A7 nr c7] by rw [HX7.out, HNR.out]; rfl)
        have HOO := hide (own_nx HO5.out hx)
        have HRO := hide (HW5.out.nx hx)
        have hz37 : w3.heap.size ≤ wd.heap.size := by have := HN5.out.sz; omega
        have HOX := hide (show w7.ownsRow w3.heap.size 9 1 (.slice x7.ra x7.core.rides.length x7.rc) x7.core.rides.length (x7.core.rides.flatMap encS) by
          rw [HX7.out]
          exact World.ownsRow.mono HR7.out hz37)
        have hstp := hide (collG_step HCC.out (k := k) (x := x7) (by rw [HX7.out]) ⟨⟨_, HS.out, by rw [HX7.out], by rw [HX7.out], by rw [HX7.out], by rw [HX7.out]; exact HK7.out⟩, by rw [HX7.out]; show rs.length ≤ _; rw [← HNR.out]; exact hl7⟩ HLK.out)
        have hlen : L.length ≤ 10000 := by omega
        have hz7 : w3.heap.size + 1 ≤ w7.heap.size := by have := hx.sz; omega
        have HX := hide hx
        have HN7 := hide (HN5.out.trans hx)
        clear hx7
        refine wpAnyH_ready (rs := [21]) (by kernel_rfl) (by simp) ?_
        refine AllReadyH.cons rfl (fun K hK => ?_) AllReadyH.nil
        go_simp
        refine hK.out _ _ (HB.out _ (HX.out.alloc _)) (fun hHeld => ?_)
        clear hK K
        try simp only [Act.put, List.setIfInBounds_toArray, List.set_cons_zero, List.set_cons_succ]
        refine wpAnyH_ready (rs := [22]) (by kernel_rfl) (by simp) ?_
        refine AllReadyH.cons rfl (fun K hK => ?_) AllReadyH.nil
        refine step_app rfl _ _ _ rfl el_Wr encWr encWr_len encWr_one (by omega) (by omega) (w3.heap.size + 1) _ L rfl (HOO.out.alloc _) _ x7 _ rfl (hnew rfl) (by rw [HXE.out]) (by omega) (by simp; omega) ?_
        intro v9 w9 hown9 hg9 _
        have HO9 := hide hown9
        have HG9 := hide hg9
        have hq9 := (World.grownBy.block hg9 q (by have := HX.out.sz; simp; omega) (fun e => by have := own_blk_lt HOO.out q e.symm; omega)).trans (((HX.out.alloc _).block q hql).trans HQ5.out)
        have hrg7 := (HR5.out.kept (HX.out.gr none) (by simp) (by simp)).alloc (.cells #[.string k, .string node, .int .i64 cat, .bool brk, .slice A7 nr c7] 57 (0, 0))
        have hrg9 := hrg7.kept hg9 (fun e => by have := own_blk_lt HOO.out cb e.symm; omega) (fun e => by have := own_blk_lt HOO.out _ e.symm; omega)
        have HRG9 := hide hrg9
        have HN9 := hide ((HN7.out.alloc _).grown hg9 (fun p hp => by have := own_blk_lt HOO.out p hp; omega))
        have HRW9 := hide (HRO.out.snoc HOX.out HOO.out hg9)
        clear hown9 hg9 hrg7 hrg9
        refine hK.out _ _ (crw_cells hq9) (fun hHeld => ?_)
        clear hK K hq9
        try simp only [Act.put, List.setIfInBounds_toArray]
        refine wpAnyH_take (i := 23) (oi := ⟨some 7, _, _, _, _, _⟩) (v := ?_) rfl (by kernel_rfl) (by kernel_rfl) (by kernel_rfl) (fun _ _ _ h => h) (Or.inl ⟨by rfl, ?_⟩) (by assumption) ?_
        rotate_left 1
        · intro w hSw
          (try dsimp only at hSw)
          go_simp
          try with_reducible rfl
        try simp only [Act.put]
        refine wpAnyH_done (by kernel_rfl) ?_ _
        go_wp2_with fail
        go_roundw
        case rel => exact ⟨_, cnt5, HRG9.out, L ++ [x7], by simp; omega, HO9.out, hstp.out, HRW9.out, HN9.out⟩
        case measure => rw [HRG9.out.left_eq, HRG.out.left_eq]; exact hlt5
  · have HQ := hide (show momentF l at_ ≠ 0 by simpa using hq)
    generalize momentF l at_ = f at *
    generalize l.length = n at *
    clear hR hl hok HFO
    go_enter Tryz.func29, Tryz.ntmps29
    go_wp2_with fail
    refine HC.out.mono ?_
    rintro e w2 ⟨rfl, hn2⟩
    go_wp2_with fail
    go_ret2
    exact ⟨⟨_, _, _, rfl, fun _ => rfl, fun h => absurd h HQ.out⟩, hn2⟩
end Go.Proofs.YtfkmbeppckelfaaGreatDoor
