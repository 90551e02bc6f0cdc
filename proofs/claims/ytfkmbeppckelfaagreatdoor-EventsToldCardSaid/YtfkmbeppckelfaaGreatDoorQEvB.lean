/- A car breaks: its rides are free again. -/
import Derived.Test.YtfkmbeppckelfaaGreatDoorQEvR
import Derived.Test.YtfkmbeppckelfaaGreatDoorQG5
import Derived.StillTailTactics
import Derived.Test.YtfkmbeppckelfaaGreatDoorQShelfL
namespace Go.Proofs.YtfkmbeppckelfaaGreatDoor
open Go.RowKit Go.Maps Go.Proofs Go.Shelf

section
variable {w w' wr : World} {lo rb cb N : Nat} {D : DayP} {fr fc : ByteArray → Option (Option Nat)} {fm : ByteArray → Nat}
/-- A block that is neither a ride nor a car nor a map turns. -/
theorem DayW.typ (h : DayW w lo rb cb N D fr fc fm) {row : Option Nat} (hg : w.grownBy w' row) (hr : ∀ p, row = some p → (∀ s, w.heap[p]? ≠ some (staO s)) ∧ (∀ c m, w.heap[p]? ≠ some (crwO c m)) ∧ (∀ es t, w.heap[p]? ≠ some (.map es t))) : DayW w' lo rb cb N D fr fc fm := by
  cases row with
  | none => exact h.nx ((Nx.refl w).grown hg (fun _ h => by cases h))
  | some p =>
    obtain ⟨h1, h2, h3⟩ := hr p rfl
    have hmap : ∀ {κ V : Type} {P : Program} {K : TypeId} {ek : κ → Value} {dom : κ → Prop} {R : Value → Option (DataW Unit × List MemPlace)} {dv : V → DataW Unit} {b n : Nat} {f : κ → Option V}, MgI P K ek dom R dv w b n f → b ≠ p := by
      intro κ V P K ek dom R dv b n f hm e
      subst e
      obtain ⟨es, t, ho⟩ := mg_obj hm
      exact h3 es t ho
    refine ⟨h.rides.step hg (hmap h.rides.map) ?_, h.cars.step hg (hmap h.cars.map) ?_, h.rlo, h.clo, h.ne, Nat.le_trans h.sz (World.grownBy.size hg)⟩
    · intro k s q hk hq e
      obtain ⟨q', a, b, c⟩ := h.rides.at_ k s hk
      rw [hq] at a; injection a with a; injection a with a; subst a
      subst e; exact h1 _ c
    · intro k c q hk hq
      obtain ⟨q', a, b, d, e, g⟩ := h.cars.at_ k c hk
      rw [hq] at a; injection a with a; injection a with a; subst a
      exact ⟨fun e2 => by subst e2; exact h2 _ _ d, hmap g⟩
theorem Fr2.newer (h : Fr2 lo rb cb w wr) {row : Option Nat} (hg : wr.grownBy w' row) (hs : lo ≤ w.heap.size) (hr : ∀ p, row = some p → w.heap.size ≤ p) : Fr2 lo rb cb w w' :=
  ⟨(World.grownBy.os hg).trans h.os, (World.grownBy.tape hg).trans h.tape, (World.grownBy.output hg).trans h.output, Nat.le_trans h.size (World.grownBy.size hg),
    fun i h1 h2 h3 => (World.grownBy.block hg i (by have := h.size; omega) (fun e => by have := hr i e.symm; omega)).trans (h.block i h1 h2 h3),
    fun i cs t fr h1 h2 h3 => (World.grownBy.block hg i (Array.getElem?_eq_some_iff.1 (h.cells i cs t fr h1 h2 h3)).1 (fun e => by have := hr i e.symm; have := (Array.getElem?_eq_some_iff.1 h1).1; omega)).trans (h.cells i cs t fr h1 h2 h3)⟩
end
theorem own_cells {w : World} {base : Nat} {e : TypeId} {size : Nat} {v : Value} {n : Nat} {xs : List Value} (h : w.ownsRow base e size v n xs) {g : Nat} (hg : v.ownBlock = some g) : ∃ cur, w.heap[g]? = some (.cells cur e (0, 0)) := by
  rcases h.2 with ⟨rfl, _⟩ | ⟨g', cap, cur, rfl, _, hh, _⟩
  · cases hg
  · injection hg with hg; subst hg; exact ⟨cur, hh⟩
theorem row_typ {w : World} {base : Nat} {size : Nat} {v : Value} {n : Nat} {xs : List Value} (h : w.ownsRow base 9 size v n xs) {p : Nat} (hp : v.ownBlock = some p) : (∀ s, w.heap[p]? ≠ some (staO s)) ∧ (∀ c m, w.heap[p]? ≠ some (crwO c m)) ∧ (∀ es t, w.heap[p]? ≠ some (.map es t)) := by
  obtain ⟨cur, hh⟩ := own_cells h hp
  rw [hh]
  refine ⟨fun s e => ?_, fun c m e => ?_, fun es t e => ?_⟩
  · injection e with e; unfold staO at e; injection e with _ e _; revert e; decide
  · injection e with e; unfold crwO at e; injection e with _ e _; revert e; decide
  · injection e with e; cases e
theorem ranges_typ {H : Type} {P : Program} {k : TypeId} {R : Value → Option (DataW H × List MemPlace)} {w : World} {b r n : Nat} {D : DataW H} {left : Lit → Bool} {cnt : Nat} (h : w.ranges P k R b r n D left cnt) : (∀ s, w.heap[r]? ≠ some (staO s)) ∧ (∀ c m, w.heap[r]? ≠ some (crwO c m)) ∧ (∀ es t, w.heap[r]? ≠ some (.map es t)) := by
  obtain ⟨es, clock, since, seen, c0, _, _, _, _, hr, _⟩ := h
  rw [hr]
  exact ⟨fun s e => (by injection e with e; unfold staO at e; cases e), fun c m e => (by injection e with e; unfold crwO at e; cases e), fun es t e => (by injection e with e; cases e)⟩
/-- The rides, those that have come freed. -/
def brkF (left : Lit → Bool) (f : ByteArray → Option St) (ca : ByteArray) : ByteArray → Option St := fun k => if left (litS k) = true then f k else (f k).map (freed ca)
theorem sameS_iff {a b : ByteArray} : (litS a).sameKey (litS b) = true ↔ a = b := by
  constructor
  · intro h
    by_cases e : a = b
    · exact e
    · exfalso
      have : litS a ≠ litS b := fun e2 => e (litS_inj e2)
      exact this (WideAt.sameKey_eq h)
  · intro h; subst h; exact sameS_self a
theorem brk_step {left : Lit → Bool} {f : ByteArray → Option St} {ca k : ByteArray} {s : St} (hk : f k = some s) : brkF (fun z => left z && !z.sameKey (litS k)) f ca = updF (brkF left f ca) k (freed ca s) := by
  funext j
  unfold brkF updF
  by_cases e : j = k
  · subst e
    rw [if_neg (by simp [sameS_self]), if_pos rfl, hk]; rfl
  · rw [if_neg e]
    have : (litS j).sameKey (litS k) = false := by
      cases h : (litS j).sameKey (litS k) with
      | false => rfl
      | true => exact absurd (sameS_iff.1 h) e
    simp [this]
theorem brk_all {left : Lit → Bool} (f : ByteArray → Option St) (ca : ByteArray) (h : ∀ k, (f k).isSome = true → left (litS k) = true) : brkF left f ca = f := by
  funext k
  unfold brkF
  cases hf : f k with
  | none => simp
  | some s => rw [if_pos (h k (by rw [hf]; rfl))]
theorem brk_none {left : Lit → Bool} (f : ByteArray → Option St) (ca : ByteArray) (h : ∀ kl, left kl = false) : brkF left f ca = fun k => (f k).map (freed ca) := by
  funext k
  unfold brkF
  rw [h]; simp
theorem w_Sort0 (w : World) : Calls Tryz.prog 101 #[.slice none 0 0] w fun e w' => e = .returned (.tuple #[]) ∧ w = w' := by
  have hL : ∀ (x : Int) (w : World), 0 ≤ x → x ≤ 1000000 → Calls Tryz.prog 89 #[.int .u64 x] w fun e w' => ∃ z : Int, e = .returned (.int .i64 z) ∧ w = w' := fun x w h0 h1 =>
    (Any.bits_Len Tryz.bitsLen x w h0 (by omega)).mono fun _ _ ⟨h1, h2⟩ => ⟨_, h1, h2.symm⟩
  have hI : ∀ (w : World), Calls Tryz.prog 186 #[.slice none 0 0, .int .i64 0, .int .i64 0] w fun e w' => e = .returned (.tuple #[]) ∧ w = w' := by
    intro w
    go_enter Tryz.func186, Tryz.ntmps186
    go_wp2_with fail
    refine wp_loop_rounds 1 ?_
    rw [rounds_succ]
    go_wp2_with fail
    go_end0
    exact ⟨rfl, rfl⟩
  have hP : ∀ (z : Int) (w : World), Calls Tryz.prog 144 #[.slice none 0 0, .int .i64 0, .int .i64 0, .int .i64 z] w fun e w' => e = .returned (.tuple #[]) ∧ w = w' := by
    intro z w
    go_enter Tryz.func144, Tryz.ntmps144
    go_wp2_with fail
    refine wp_loop_rounds 1 ?_
    rw [rounds_succ]
    go_wp2_with (go_at_call 186; refine (hI _).mono ?_; rintro e w1 ⟨rfl, rfl⟩)
    exact bodyPost_ret (results_none (by rfl) _ _ _) rfl ⟨rfl, rfl⟩
  go_enter Tryz.func101, Tryz.ntmps101
  go_wp2_with (first
    | (go_at_call 89; refine (hL _ _ (by omega) (by omega)).mono ?_; rintro e w' ⟨z, rfl, rfl⟩)
    | (go_at_call 144; refine (hP _ w).mono ?_; rintro e w1 ⟨rfl, rfl⟩))
  go_end0
  exact ⟨rfl, rfl⟩
theorem range_ptr {P : Program} {K : TypeId} {Dt : DataW Unit} {fr : ByteArray → Option (Option Nat)} (h : MgD P K Value.string domS ptrD Dt fr) {k : ByteArray} (hd : domS k) (hkey : keyOf P K (.string k) = some (litS k)) {c : Option Nat} {y : DataW Unit} {ps : List MemPlace} (hR : ptrElem (ptrV c) = some (y, ps)) (hat : ∀ zd, Dt.atKey (litS k) zd = y) : fr k = some c := by
  have e3 := h.at_ k (litS k) hd hkey
  have e4 : y = ptrD c := by
    cases c with
    | none => injection hR with hR; injection hR with h1 _; exact h1.symm
    | some q => injection hR with hR; injection hR with h1 _; exact h1.symm
  subst e4
  cases hf : fr k with
  | none =>
    rw [hf] at e3
    have h1 := (e3 (.lit (.bool true))).symm.trans (hat _)
    have h2 := (e3 (.lit (.bool false))).symm.trans (hat _)
    exact absurd (h1.trans h2.symm) (by simp)
  | some v =>
    rw [hf] at e3
    have h1 := (e3 (.lit (.bool true))).symm.trans (hat _)
    rw [elemPtr.inj _ _ h1]
theorem updF_self {α β : Type} [DecidableEq α] {f : α → Option β} {k : α} {v : β} (h : f k = some v) : updF f k v = f := by
  funext j
  unfold updF
  split
  · rename_i e; subst e; exact h.symm
  · rfl
set_option maxRecDepth 100000 in
set_option maxHeartbeats 4000000 in
theorem w_breaks (d lo rb cb N : Nat) (D : DayP) (fr fc : ByteArray → Option (Option Nat)) (fm : ByteArray → Nat) (so : ByteArray) (no at_ ki : Int) (ri ca nd : ByteArray) (up dn : Int) (fo : ByteArray) (nu : Int) (w : World)
    (h : DayW w lo rb cb N D fr fc fm) (h1 : w.cell? ⟨d, 1, none⟩ = some (.map (some rb))) (h2 : w.cell? ⟨d, 2, none⟩ = some (.map (some cb))) (hd : d < lo) (hdc : d ≠ cb) (hdr : d ≠ rb) (hk : domS ca) (hN : N < 60000) :
    Calls Tryz.prog 130 #[.pointer (some ⟨d, 0, none⟩), .agg #[.string so, .int .i64 no, .int .i64 at_, .int .i64 ki, .string ri, .string ca, .string nd, .int .i64 up, .int .i64 dn, .string fo, .int .i64 nu]] w (RideOut lo rb cb N (breaksP D ⟨so, no, at_, ki, ri, ca, nd, up, dn, fo, nu⟩) w) := by
  have hsz := h.sz
  have hcl := h.clo
  have hrl := h.rlo
  obtain ⟨bx, hbx⟩ : ∃ bx, bx = w.heap.size := ⟨_, rfl⟩
  obtain ⟨w1, hw1⟩ : ∃ w1, w1 = w.alloc (.cells #[.string so, .int .i64 no, .int .i64 at_, .int .i64 ki, .string ri, .string ca, .string nd, .int .i64 up, .int .i64 dn, .string fo, .int .i64 nu] 31 (0, 0)) := ⟨_, rfl⟩
  have hn1 : Nx w w1 := hw1 ▸ (Nx.refl w).alloc _
  have hD1 := h.nx hn1
  have hb1 : w1.heap[bx]? = some (.cells #[.string so, .int .i64 no, .int .i64 at_, .int .i64 ki, .string ri, .string ca, .string nd, .int .i64 up, .int .i64 dn, .string fo, .int .i64 nu] 31 (0, 0)) := by rw [hw1, hbx]; exact heap_alloc_new w _
  have a5 : w1.cell? ⟨bx, 5, none⟩ = some (.string ca) := cell_of_row w1 _ 5 _ _ _ hb1
  have hd1 : w1.cell? ⟨d, 1, none⟩ = some (.map (some rb)) := nx_cell hn1 (by omega) h1
  have hd2 : w1.cell? ⟨d, 2, none⟩ = some (.map (some cb)) := nx_cell hn1 (by omega) h2
  have HBR := hide (w_broken d lo rb cb N D fr fc fm ca w1 hD1 hd2 hk)
  have HF1 := hide (Fr2.nx (rb := rb) (cb := cb) hn1 hsz)
  have hz1 : lo ≤ w1.heap.size := Nat.le_trans hsz hn1.sz
  have hbb : brokenP D ca = true ∨ brokenP D ca = false := by cases brokenP D ca <;> simp
  rcases hbb with hbb | hbb
  · have hr := hide (show breaksP D ⟨so, no, at_, ki, ri, ca, nd, up, dn, fo, nu⟩ = (D, 6) by simp [breaksP, hbb])
    rw [hbb] at HBR
    have HD1 := hide hD1
    have HB1 := hide hb1
    clear h hD1 hb1 hbb h1 h2
    go_enter Tryz.func130, Tryz.ntmps130
    go_upto_region 1 with fail
    rw [← hw1, ← hbx]
    clear hw1 hbx
    go_wp2_with (go_at_call 128; refine HBR.out.mono ?_; rintro e w3 ⟨rfl, rfl⟩)
    go_ret2
    exact RideOut.of hr.out rfl ⟨fr, fc, fm, HD1.out.mono (by omega)⟩ HF1.out
  · have hr := hide (show breaksP D ⟨so, no, at_, ki, ri, ca, nd, up, dn, fo, nu⟩ = (⟨fun k => (D.rides k).map (freed ca), updF D.cars ca { carP D ca with broken := true }⟩, 0) by simp [breaksP, hbb])
    rw [hbb] at HBR
    have HCA := hide (w_car d lo rb cb N D fr fc fm ca w1 hD1 hd2 hd hdc hk (by omega))
    have HD1 := hide hD1
    have HB1 := hide hb1
    obtain ⟨es0, cl0, hcm⟩ := mg_obj hD1.cars.map
    have HCM := hide hcm
    clear h hD1 hb1 hbb h1 h2 hcm
    go_enter Tryz.func130, Tryz.ntmps130
    go_upto_region 1 with fail
    rw [← hw1, ← hbx]
    have HBN := hide hbx
    clear hw1 hbx
    go_upto_region 3 with (go_at_call 128; refine HBR.out.mono ?_; rintro e w3 ⟨rfl, rfl⟩)
    go_wp2_with fail
    refine HCA.out.mono ?_
    rintro e w2 ⟨p, fc', fm', rfl, hD2, hp, hlp, hF2⟩
    obtain ⟨p', a, _, hpo, _⟩ := hD2.cars.at_ ca _ (setC_at _ _ _)
    rw [hp] at a; injection a with a; injection a with a; subst a
    have c2 := (crw_cells hpo).2.2.1
    have e2 : w2.frozen? ⟨p, 2, none⟩ = false := by simp [World.frozen?, hpo, crwO]
    obtain ⟨w3, hw3⟩ : ∃ w3, w3 = w2.setCell ⟨p, 2, none⟩ (.bool true) := ⟨_, rfl⟩
    have hg3 : Gr p w2 w3 := hw3 ▸ (Gr.refl p w2).setS (.inl rfl) _
    have hb3 : w3.heap[p]? = some (crwO { carP D ca with broken := true } (fm' ca)) := by rw [hw3]; exact heap_set hpo
    have hD3 := hD2.crPut (setC_at _ _ _) hp hg3 hb3 rfl
    rw [setC_setC] at hD3
    have hF3 : Fr2 lo rb cb w1 w3 := (Fr2.grMap hF2 (.inr (.inl rfl)) hz1 HCM.out).trans (Fr2.grCrw hg3 hlp hD2.sz hpo)
    have hd13 : w3.cell? ⟨d, 1, none⟩ = some (.map (some rb)) := (cell_same (hF3.block d hd hdr hdc)).trans hd1
    obtain ⟨Dt, hown, hMD⟩ := hD3.rides.map
    have hnt : Maps.size Dt ≤ N + 1 := by
      obtain ⟨es, clock, _, _, h1, rfl⟩ := hown
      rw [size_eq, length_sorted]; simpa using h1
    have hbs : w.heap.size < w3.heap.size := by
      have := (Array.getElem?_eq_some_iff.1 (hF3.cells _ _ _ _ HB1.out (by decide) (by decide))).1
      rw [HBN.out] at this; exact this
    have HD3 := hide hD3
    have HF3 := hide hF3
    have HMD := hide hMD
    have HOWN := hide hown
    have HW3 := hide hw3
    clear hD2 hp hpo hg3 hb3 hD3 hF3 hMD hown hw3 hd1 hd2 a5
    have hown := HOWN.out
    go_upto_region 4 with fail
    rw [← HW3.out]
    go_wp2_with (first
      | (at_range; refine wpList_range_own _ rfl _ _ rfl 9 105 law_strE Tryz.underlying86 _ rb (N + 1) _ rfl hown ?_; intro w4 hrg4 hg4 hs4))
    go_frame
    clear hown
    have hgn : ∀ k, (D.rides k).isSome = true → Maps.has Dt (litS k) = true := by
      intro k hk'
      cases hs : D.rides k with
      | none => rw [hs] at hk'; cases hk'
      | some s =>
        obtain ⟨q, hq, _⟩ := HD3.out.rides.at_ k s hs
        have hdk := HMD.out.dm k (by rw [hq]; rfl)
        rw [HMD.out.has_ hdk (keyS_mk Tryz.underlying9 hdk), hq]; rfl
    have HGN := hide hgn
    clear hgn
    go_loopw [6, 8] (fun v _ wr => ∃ (left : Lit → Bool) (cnt : Nat) (L : List ByteArray), wr.ranges Tryz.prog 9 ptrElem rb w3.heap.size (N + 1) Dt left cnt ∧ L.length + cnt ≤ N + 1 ∧ wr.ownsRow (w3.heap.size + 1) 9 1 v L.length (L.flatMap encS) ∧
        DayW wr lo rb cb (N + 1) ⟨brkF left D.rides ca, updF D.cars ca { carP D ca with broken := true }⟩ fr fc' fm' ∧ Fr2 lo rb cb w1 wr)
      (fun _ _ wr => wr.rangeLeft rb w3.heap.size)
    case atStart =>
      refine ⟨_, _, [], hrg4, by simpa using hnt, World.ownsRow_nil _ _ _ _, ?_, HF3.out.newer hg4 hz1 (fun p hp => by cases hp)⟩
      rw [brk_all D.rides ca HGN.out]
      exact HD3.out.typ hg4 (fun p hp => by cases hp)
    case round =>
      obtain ⟨left, cnt, L, hrg, hcs, hown, hD, hF⟩ := hrel
      have HD := hide hD
      have HF := hide hF
      have HC := hide hcs
      clear hD hF
      have hown1 := hown
      go_wp2_with (first
        | (at_next; refine wpList_next_ranges _ rfl _ rfl 9 law_strE ptrElem Value.string ptrV (fun key kl hkey => (by obtain ⟨x, rfl, _⟩ := keyS_inv Tryz.underlying9 hkey; exact ⟨x, rfl⟩)) (fun v y hv => (by obtain ⟨q, _, h, _⟩ := elemPtr.inv v y.1 y.2 hv; exact ⟨q, h⟩)) rb w3.heap.size (N + 1) _ _ _ rfl hrg ?_ ?_))
      · intro hc0 hl0
        have hDf := HD.out
        rw [brk_none D.rides ca hl0] at hDf
        have HDf := hide hDf
        clear hDf
        rcases hown1.2 with ⟨rfl, h0⟩ | ⟨g, cap, cur, rfl, hgb, _⟩
        · go_wp2_with (go_at_call 101; refine (w_Sort0 _).mono ?_; rintro e w6 ⟨rfl, rfl⟩)
          go_ret2
          exact RideOut.of hr.out rfl ⟨fr, fc', fm', HDf.out.mono (by omega)⟩ (HF1.out.trans HF.out)
        · have HSO := hide (w_SortS L wr hown1 (by omega))
          have HT := hide (row_typ hown1 (p := g) rfl)
          go_wp2_with (go_at_call 101; refine HSO.out.mono ?_; rintro e w6 ⟨rfl, M, _, _, _, _, hg6⟩)
          go_ret2
          refine RideOut.of hr.out rfl ⟨fr, fc', fm', (HDf.out.typ hg6 (fun p hp => ?_)).mono (by omega)⟩ (HF1.out.trans (HF.out.newer hg6 hz1 (fun p hp => ?_)))
          · injection hp with hp; subst hp; exact HT.out
          · injection hp with hp; subst hp; have := HF3.out.size; omega
      · intro k c kl y ps w5 cnt5 hkey hlk hRv hat hrg5 hlt5 hg5 hs5 hen
        obtain ⟨k0, ek, hdk, rfl⟩ := keyS_inv Tryz.underlying9 hkey
        obtain rfl := strV_inj _ _ ek
        have hfk := range_ptr HMD.out hdk (keyS_mk Tryz.underlying9 hdk) hRv hat
        obtain ⟨s, hs⟩ : ∃ s, D.rides k = some s := by
          cases hs : D.rides k with
          | none => have := HD3.out.rides.non k hs; rw [hfk] at this; cases this
          | some s => exact ⟨s, rfl⟩
        have hbk : brkF left D.rides ca k = some s := by unfold brkF; rw [if_pos hlk]; exact hs
        have hstep := brk_step (left := left) (ca := ca) hs
        have HD5 := hide (HD.out.typ hg5 (fun p hp => (by injection hp with hp; subst hp; exact ranges_typ hrg)))
        have HF5 := hide (HF.out.newer hg5 hz1 (fun p hp => (by injection hp with hp; subst hp; have := HF3.out.size; omega)))
        obtain ⟨q, hq, hlq, hqo⟩ := HD5.out.rides.at_ k s hbk
        rw [hfk] at hq; injection hq with hq; subst hq
        have hown5 := own_gr hown1 hg5 (by omega)
        have hbx5 := HF5.out.cells _ _ _ _ HB1.out (by decide) (by decide)
        have a5 : w5.cell? ⟨bx, 5, none⟩ = some (.string ca) := cell_of_row w5 _ 5 _ _ _ hbx5
        have b0 := (sta_cells hqo).1
        have b1 := (sta_cells hqo).2.1
        have b2 := (sta_cells hqo).2.2.1
        have e1 : w5.frozen? ⟨q, 1, none⟩ = false := by simp [World.frozen?, hqo, staO]
        have e2 : w5.frozen? ⟨q, 2, none⟩ = false := by simp [World.frozen?, hqo, staO]
        have hsz5 : w3.heap.size < w5.heap.size := hrg5.lt
        obtain ⟨rid, car, how, sup, sdn, son, soff⟩ := s
        simp only at b0 b1 b2
        simp only [ptrV] at hen
        have HQO := hide hqo
        have HBK := hide hbk
        have HFK := hide hfk
        have HST := hide hstep
        have HRV := hide (And.intro hRv hat)
        have HLK := hide hlk
        have HOW := hide hown5
        have HRG := hide hrg
        have HRG5 := hide hrg5
        have HS := hide hs
        have HBX5 := hide hbx5
        clear hqo hbk hfk hstep hRv hat hlk hown hown1 hown5 hg5 hrg hrg5 hs hbx5 hs5 hs4 hcs hg4 hrg4
        have hq : (how = 2 ∧ car = ca) ∨ ¬ (how = 2 ∧ car = ca) := Decidable.em _
        rcases hq with ⟨rfl, hce⟩ | hq
        · have te : (car.toList == ca.toList) = true := by rw [eqS_iff]; exact decide_eq_true hce
          have hfr := hide (show freed ca ⟨rid, car, 2, sup, sdn, son, soff⟩ = ⟨rid, eB, 1, sup, sdn, son, soff⟩ by simp [freed, hce])
          clear hce
          go_upto_region 8 with fail
          go_quiet (fail)
          go_upto_region 10 with fail
          obtain ⟨w6, hw6⟩ : ∃ w6, w6 = w5.drewN nq := ⟨_, rfl⟩
          rw [← hw6]
          have hnq : Nx w5 w6 := hw6 ▸ (Nx.refl w5).drewN _
          have hqo6 := (hnq.block _ (Array.getElem?_eq_some_iff.1 HQO.out).1).trans HQO.out
          obtain ⟨w7, hw7⟩ : ∃ w7, w7 = (w6.setCell ⟨q, 2, none⟩ (.int .i64 1)).setCell ⟨q, 1, none⟩ (.string ⟨#[]⟩) := ⟨_, rfl⟩
          rw [← hw7]
          have hg7 : Gr q w6 w7 := hw7 ▸ ((Gr.refl q w6).setS (.inl rfl) _).setS (.inl rfl) _
          have hb7 : w7.heap[q]? = some (staO ⟨rid, eB, 1, sup, sdn, son, soff⟩) := by rw [hw7]; exact heap_set (heap_set hqo6)
          have HD7 := hide ((HD5.out.nx hnq).stPut HBK.out HFK.out hg7 hb7)
          have HF7 := hide ((HF5.out.trans (Fr2.nx hnq HD5.out.sz)).trans (Fr2.grSta hg7 hlq (Nat.le_trans HD5.out.sz hnq.sz) hqo6))
          have c0 := (sta_cells hb7).1
          simp only at c0
          have hneq : ∀ p, (∀ s, w6.heap[p]? ≠ some (staO s)) → p ≠ q := fun p hp e => by subst e; exact hp _ hqo6
          have hgq : w5.grownBy w7 (some q) := (Gr.of_nx hnq).trans hg7
          have hrt : w3.heap.size ≠ q := by
            intro e; rw [← e] at hqo6
            exact (ranges_typ (HRG5.out.kept (hnq.gr none) (by simp) (by simp))).1 _ hqo6
          have hrg7 := HRG5.out.kept hgq (by simp; intro e; have := HD5.out.rlo; omega) (by simpa using hrt)
          have hown7 := World.ownsRow.kept HOW.out hgq (by
            rcases HOW.out.2 with ⟨rfl, _⟩ | ⟨g, cap, cur, rfl, _⟩
            · exact .inl rfl
            · right; intro e; injection e with e; subst e
              exact (row_typ (own_nx HOW.out hnq) (p := g) rfl).1 _ hqo6)
          have hsz7 : w3.heap.size < w7.heap.size := hrg7.lt
          have hlq7 : L.length ≤ N + 1 := by have := HC.out; omega
          clear hw6 hw7 hnq hqo6 hg7 hb7 hneq hgq hrt a5 b0 b1 b2 e1 e2 te hen
          go_wp2_with (first | (at_builtin; refine wpApp rfl _ _ _ rfl el_S encS encS_len encS_one (by omega) (by omega) (w3.heap.size + 1) _ L rfl (hown7.alloc _) _ rid _ rfl (hnew (by simp)) rfl (by omega) (by simp; omega) ?_; intro v8 w8 hown8 hg8))
          have hda := HD7.out.nx ((Nx.refl w7).alloc (.cells #[.string rid] 9 (0, 0)))
          have hfa := HF7.out.trans (Fr2.nx ((Nx.refl w7).alloc (.cells #[.string rid] 9 (0, 0))) HD7.out.sz)
          have hrlo := HD7.out.rlo
          have hrg8 := (hrg7.alloc _).kept hg8 (fun e => by have := own_blk_lt hown7 rb e.symm; have := HD3.out.sz; omega) (fun e => by have := own_blk_lt hown7 _ e.symm; omega)
          go_roundw
          case rel =>
            refine ⟨_, cnt5, L ++ [rid], hrg8, by have := HC.out; simp; omega, hown8, ?_, hfa.newer hg8 hz1 (fun p hp => by have := own_blk_lt hown7 p hp; have := HF3.out.size; omega)⟩
            rw [HST.out, hfr.out]
            exact hda.typ hg8 (fun p hp => row_typ (hown7.alloc _) hp)
          case measure => rw [hrg8.left_eq, HRG.out.left_eq]; exact hlt5
        · have hfr := hide (show freed ca ⟨rid, car, how, sup, sdn, son, soff⟩ = ⟨rid, car, how, sup, sdn, son, soff⟩ by simp only [freed]; rw [if_neg hq])
          have hbr : (how == 2) = false ∨ ((how = 2) ∧ (car.toList == ca.toList) = false) := by
            by_cases e : how = 2
            · right; refine ⟨e, ?_⟩; rw [eqS_iff]; exact decide_eq_false (fun e2 => hq ⟨e, e2⟩)
            · left; simp [e]
          clear hq
          rcases hbr with hbr | ⟨rfl, hbr⟩
          all_goals
            go_upto_region 8 with fail
            go_quiet (fail)
            go_wp2_with fail
            have hnq : Nx w5 (w5.drewN nq) := (Nx.refl w5).drewN _
            have hrg6 := HRG5.out.kept (hnq.gr none) (by simp) (by simp)
            go_roundw
            case rel =>
              refine ⟨_, cnt5, L, hrg6, by have := HC.out; omega, own_nx HOW.out hnq, ?_, HF5.out.trans (Fr2.nx hnq HD5.out.sz)⟩
              rw [HST.out, hfr.out, updF_self HBK.out]
              exact HD5.out.nx hnq
            case measure => rw [hrg6.left_eq, HRG.out.left_eq]; exact hlt5
end Go.Proofs.YtfkmbeppckelfaaGreatDoor
