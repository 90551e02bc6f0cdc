/- The stream's parts. -/
import Derived.Test.YtfnbmcinbmbehaaGreatDoorQStrS
import Derived.Test.YtfnbmcinbmbehaaGreatDoorQG9
import Derived.Test.YtfnbmcinbmbehaaGreatDoorQG11
import Derived.Test.YtfnbmcinbmbehaaGreatDoorQG0
import Derived.Test.YtfnbmcinbmbehaaGreatDoorQG7
import Derived.Test.YtfnbmcinbmbehaaGreatDoorQDivB
import Derived.WalkKit
import Derived.RegionTactic
import Derived.BigRegion
import Derived.Deep.DeepCutAuto
namespace Go.Proofs.YtfnbmcinbmbehaaGreatDoor
open Go.RowKit Go.Sort Go.Proofs Go.Shelf

/-- Some parts. -/
def StrParts (s k : Nat) (w : World) (e : Ending) (w' : World) : Prop :=
  ∃ (A : Option Addr) (c : Nat) (l : List Int), e = .returned (.slice A l.length c) ∧ l.length ≤ 6 ∧ Rd w' w.heap.size A 1 encI l ∧ Gr s w w' ∧ Str w' s k

set_option maxRecDepth 100000 in
set_option maxHeartbeats 2000000 in
theorem w_Parts (s k : Nat) (w : World) (hS : Str w s k) (hk : k < 700000) :
    Calls Tryz.prog 5 #[.pointer (some ⟨s, 0, none⟩)] w (StrParts s (k + 20) w) := by
  have hsl := hS.lt
  go_enter Tryz.func5, Tryz.ntmps5
  go_wp2_with fail
  refine (w_Range 1 6 _ _ _ hS (by omega) (by omega) (by omega)).mono ?_
  rintro e w1 ⟨r, hr1, hr2, rfl, hg1, hS1⟩
  obtain ⟨n, rfl⟩ := Int.eq_ofNat_of_zero_le (show 0 ≤ r by omega)
  have hown0 : w1.ownsRow w.heap.size 3 1 (.slice none 0 0) ([] : List Int).length (([] : List Int).flatMap encI) := ⟨rfl, .inl ⟨rfl, rfl⟩⟩
  have HST := hide (And.intro hown0 (And.intro hg1 hS1))
  clear hg1 hS1 hown0 hS
  go_wp2_with fail
  go_loopw [3, 6] (fun v i wr => ∃ (k' : Nat) (cs : List Int), k' ≤ n ∧ i = .int .i64 k' ∧ cs.length = k' ∧ wr.ownsRow w.heap.size 3 1 v cs.length (cs.flatMap encI) ∧ Gr s w wr ∧ Str wr s (k + 1 + k')) (fun _ i _ => n - (intOf i).toNat)
  case atStart => exact ⟨0, [], by omega, rfl, rfl, HST.out.1, HST.out.2.1, HST.out.2.2⟩
  case round =>
    clear HST
    obtain ⟨k', cs, hkn, rfl, hcl, hown, hgr, hSr⟩ := hrel
    have HCL := hide hcl
    have hsz := hgr.sz
    clear hcl
    by_cases hlt : k' < n
    · go_wp2_with fail
      refine (w_PickI _ [0, 1, 1, 3, 7, 100] _ _ _ _ (hSr.nx ((Nx.refl _).alloc _)) (by omega) (hnew rfl) (by omega) rfl (by simp) (by simp)).mono ?_
      rintro e w2 ⟨x, hx, rfl, hg2, hS2⟩
      have hown2 := own_gr (hown.alloc (.cells #[.int .i64 0, .int .i64 1, .int .i64 1, .int .i64 3, .int .i64 7, .int .i64 100] 3)) hg2 hsl
      have hgr2 := (hgr.alloc _).trans hg2
      have hsz2 := hgr2.sz
      clear hown hgr hSr hx
      go_wp2_with (at_builtin; refine wpApp rfl _ _ _ rfl el_Int encI encI_len encI_one (by omega) (by omega) w.heap.size _ cs rfl (hown2.alloc _) _ x _ rfl (hnew rfl) rfl (by have := HCL.out; omega) (by simp; omega) ?_; intro v3 w3 hown3 hg3)
      have hgr3 := (hgr2.alloc (.cells #[.int .i64 x] 3)).grown hg3 (fun j hj => .inr (own_blk_lt hown2 j hj))
      have hS3 := (hS2.nx ((Nx.refl _).alloc (.cells #[.int .i64 x] 3))).row hg3 (fun j hj => by have := own_blk_lt hown2 j hj; omega)
      go_roundw
      case rel => exact ⟨k' + 1, cs ++ [x], by omega, by go_num, by rw [List.length_append, HCL.out]; rfl, hown3, hgr3, hS3.more (by omega)⟩
      case measure => simp [intOf]; omega
    · have ek : k' = n := by omega
      subst ek
      clear hlt
      rcases hown.2 with ⟨rfl, h0⟩ | ⟨g, cap, cur, rfl, hgg, _⟩
      · have := HCL.out; omega
      go_wp2_with fail
      refine (w_Flip _ _ _ _ hSr (by omega) (by omega)).mono ?_
      rintro e w2 ⟨fl, rfl, hg2, hS2⟩
      have hown2 := own_gr hown hg2 hsl
      have hgr2 := hgr.trans hg2
      have hsz2 := hgr2.sz
      clear hown hgr hSr hg2 hsz
      cases fl
      · go_wp2_with fail
        refine (w_Flip _ _ _ _ hS2 (by omega) (by omega)).mono ?_
        rintro e w9 ⟨fl2, rfl, hg9, hS9⟩
        have hgE := hgr2.trans hg9
        cases fl2
        · go_wp2_with fail
          go_ret
          obtain ⟨B', c4, ev, hRB, _⟩ := Rd.of_own encI_len rfl (own_gr hown2 hg9 hsl)
          exact ⟨B', c4, _, by rw [← ev]; rfl, by have := HCL.out; omega, hRB, hgE, hS9.more (by omega)⟩
        · go_wp2_with fail
          go_ret
          exact ⟨none, 0, [], rfl, by simp, Rd.nil, hgE, hS9.more (by omega)⟩
      · go_wp2_with fail
        refine (w_Next _ _ _ _ hS2 (by omega) (by have := HCL.out; omega)).mono ?_
        rintro e w4 ⟨q, hq1, hq2, rfl, hg4, hS4⟩
        obtain ⟨q, rfl⟩ := Int.eq_ofNat_of_zero_le hq1
        have hown4 := own_gr hown2 hg4 hsl
        have hgr4 := hgr2.trans hg4
        have hsz4 := hgr4.sz
        go_wp2_with fail
        refine (w_PickI _ [-1, 1000000000, 1000000001] _ _ _ _ (hS4.nx ((Nx.refl _).alloc _)) (by omega) (hnew rfl) (by omega) rfl (by simp) (by simp)).mono ?_
        rintro e w5 ⟨x, hx, rfl, hg5, hS5⟩
        have hown5 := own_gr (hown4.alloc (.cells #[.int .i64 (-1), .int .i64 1000000000, .int .i64 1000000001] 3)) hg5 hsl
        have hgr5 := (hgr4.alloc _).trans hg5
        have hqc : q < cs.length := by omega
        have d0 : w5.cell? ⟨g, q, none⟩ = some (.int .i64 cs[q]) := by have := own_cell encI_len rfl hown5 q hqc 0 _ rfl; simpa using this
        have f0 : w5.frozen? ⟨g, q, none⟩ = false := hown5.frozenAt _
        have hown6 := own_set encI_len rfl hown5 q hqc 0 (by omega) (.int .i64 x) x rfl q (by omega)
        have hgr6 := hgr5.setS (p := ⟨g, q, none⟩) (.inr hgg) (.int .i64 x)
        have hS6 := hS5.row ((Gr.refl g _).setS (p := ⟨g, q, none⟩) (.inl rfl) (.int .i64 x)) (fun j hj => by injection hj with hj; omega)
        clear hown2 hown4 hown5 hx
        generalize cs[q] = old at *
        go_wp2_with fail
        refine (w_Flip _ _ _ _ hS6 (by omega) (by omega)).mono ?_
        rintro e w9 ⟨fl2, rfl, hg9, hS9⟩
        have hgE := hgr6.trans hg9
        cases fl2
        · go_wp2_with fail
          go_ret
          obtain ⟨B', c4, ev, hRB, _⟩ := Rd.of_own encI_len (by simp) (own_gr hown6 hg9 hsl)
          exact ⟨B', c4, _, by rw [← ev]; rfl, by have := HCL.out; simp;omega, hRB, hgE, hS9.more (by omega)⟩
        · go_wp2_with fail
          go_ret
          exact ⟨none, 0, [], rfl, by simp, Rd.nil, hgE, hS9.more (by omega)⟩
end Go.Proofs.YtfnbmcinbmbehaaGreatDoor
/- The reference's parts: what is wrong with them; a whole given out by them. -/
namespace Go.Proofs.YtfnbmcinbmbehaaGreatDoor
open Go.RowKit Go.Sort Go.Proofs Go.Shelf

set_option maxRecDepth 100000 in
set_option maxHeartbeats 1000000 in
theorem w_PartsFault (lo : Nat) (A : Option Addr) (c : Nat) (cents : Int) (parts : List Int) (w : World) (hR : Rd w lo A 1 encI parts) (hl : parts.length < 20) :
    Calls Tryz.prog 8 #[.int .i64 cents, .slice A parts.length c] w fun e w' => e = .returned (.int .i64 (partsF cents parts)) ∧ w = w' := by
  have i1 := inB_out cents 0 maxCt
  cases hd : centB cents
  · have HPO := hide (fun h3 => partsF_sum (parts := parts) hd hl h3)
    have HPA := hide (fun h3 => partsF_any (parts := parts) hd hl h3)
    generalize hn : parts.length = n at *
    have HR := hide hR
    have HN := hide hn
    unfold centB at hd
    rw [hd] at i1
    clear hR hn hd
    go_enter Tryz.func8, Tryz.ntmps8
    go_wp2_with (go_at_call 21; first | (rw [show (1000000000 : Int) = maxCt from rfl]; refine (w_in _ _ _ _).mono ?_; rintro e w' ⟨rfl, rfl⟩))
    go_loop [4, 5, 7, 18] (fun _ s _ i => ∃ k : Nat, k ≤ n ∧ i = .int .i64 k ∧ s = .int .i64 (sumL (parts.take k)) ∧ (parts.take k).any centB = false) (fun _ _ _ i => n - (intOf i).toNat)
    case atStart => exact ⟨0, Nat.zero_le _, rfl, rfl, rfl⟩
    case round =>
      obtain ⟨k, hk, rfl, rfl, hq⟩ := hrel
      have hsb := sum_right hq
      have hkl : (parts.take k).length ≤ k := List.length_take_le _ _
      have HQ := hide hq
      clear hq
      by_cases hlt : k < n
      · have hlt' : k < parts.length := by have := HN.out; omega
        have HT := hide (sumL_take parts k hlt')
        obtain ⟨b, off, rfl, _, hb, _, hc⟩ := HR.out.open_ (Nx.refl w) (by omega)
        have c0 : w.cell? ⟨b, off + k, none⟩ = some (.int .i64 parts[k]) := by have := hc k hlt' 0 _ rfl; simpa using this
        clear hc
        have ix := inB_out parts[k] 0 maxCt
        cases hx : centB parts[k]
        · have HX := hide (any_step hlt' HQ.out hx)
          have hxb := centB_bd hx
          unfold centB at hx
          rw [hx] at ix
          clear hx
          generalize sumL (parts.take k) = s at *
          generalize parts[k] = x at *
          go_wp2_with (go_at_call 21; first | (rw [show (1000000000 : Int) = maxCt from rfl]; refine (w_in _ _ _ _).mono ?_; rintro e w' ⟨rfl, rfl⟩))
          go_round
          case rel => exact ⟨k + 1, by omega, by go_num, by rw [HT.out], HX.out⟩
          case measure => simp [intOf]; omega
        · have HF := hide (HPA.out (any_at hlt' hx))
          unfold centB at hx
          rw [hx] at ix
          clear hx
          go_wp2_with (go_at_call 21; first | (rw [show (1000000000 : Int) = maxCt from rfl]; refine (w_in _ _ _ _).mono ?_; rintro e w' ⟨rfl, rfl⟩))
          go_ret
          exact ⟨ret_int (by rw [HF.out]), rfl⟩
      · have HK := hide (show parts.take k = parts from List.take_of_length_le (by have := HN.out; omega))
        rw [HK.out] at hsb HQ ⊢
        have HF := hide (HPO.out HQ.out)
        by_cases hz : sumL parts = 0
        · have t1 : (sumL parts == 0) = true := by simpa using hz
          have HZ := hide hz
          clear hz
          go_wp2_with fail
          go_ret
          exact ⟨ret_int (by rw [HF.out, if_pos HZ.out]), rfl⟩
        · have t1 : (sumL parts == 0) = false := by simpa using hz
          have HZ := hide hz
          clear hz
          go_wp2_with fail
          go_ret
          exact ⟨ret_int (by rw [HF.out, if_neg HZ.out]), rfl⟩
  · have HF := hide (partsF_cents (parts := parts) hd)
    clear hR
    generalize parts.length = n at *
    unfold centB at hd
    rw [hd] at i1
    clear hd
    go_enter Tryz.func8, Tryz.ntmps8
    go_wp2_with (go_at_call 21; first | (rw [show (1000000000 : Int) = maxCt from rfl]; refine (w_in _ _ _ _).mono ?_; rintro e w' ⟨rfl, rfl⟩))
    go_ret
    exact ⟨ret_int (by rw [HF.out]), rfl⟩

theorem partsF_right {cents : Int} {parts : List Int} (hl : parts.length < 20) (h : partsF cents parts = 0) : centB cents = false ∧ parts.any centB = false ∧ sumL parts ≠ 0 := by
  cases hd : centB cents
  · cases ha : parts.any centB
    · refine ⟨rfl, rfl, fun h0 => ?_⟩
      rw [partsF_sum hd hl ha, if_pos h0] at h
      cases h
    · rw [partsF_any hd hl ha] at h; cases h
  · rw [partsF_cents hd] at h; cases h

end Go.Proofs.YtfnbmcinbmbehaaGreatDoor
/- A whole shared fairly: the reference's walk. -/
namespace Go.Proofs.YtfnbmcinbmbehaaGreatDoor
open Go.RowKit Go.Sort Go.Proofs Go.Shelf

theorem shl_pow2 {n : Nat} (h : n ≤ 10) : IntKind.i64.wrap ((2 : Int) ^ n) = ((2 ^ n : Nat) : Int) := by
  have h1 := pow_bd h
  have e : ((2 : Int) ^ n) = ((2 ^ n : Nat) : Int) := by rw [Int.natCast_pow]; rfl
  rw [e]
  generalize 2 ^ n = P at *
  exact IntWalk.i64_in _ (by omega)
end Go.Proofs.YtfnbmcinbmbehaaGreatDoor
/- cmp.Compare of numbers. -/
namespace Go.Proofs.YtfnbmcinbmbehaaGreatDoor
open Go.RowKit

theorem w_isNaN (a : Int) (w : World) : Calls Tryz.prog 54 #[.int .i64 a] w fun e w' => e = .returned (.bool false) ∧ w = w' := by
  go_enter Tryz.func54, Tryz.ntmps54
  go_wp2
  go_ret
  exact ⟨rfl, rfl⟩

theorem w_Compare (a b : Int) (w : World) : Calls Tryz.prog 34 #[.int .i64 a, .int .i64 b] w fun e w' => e = .returned (.int .i64 (cmpI a b)) ∧ w = w' := by
  by_cases h1 : a < b
  · go_enter Tryz.func34, Tryz.ntmps34
    go_wp2_with (go_at_call 54; refine (w_isNaN _ _).mono ?_; rintro e w' ⟨rfl, rfl⟩)
    go_ret
    exact ⟨ret_int (by unfold cmpI; simp [h1]), rfl⟩
  · by_cases h2 : b < a
    · go_enter Tryz.func34, Tryz.ntmps34
      go_wp2_with (go_at_call 54; refine (w_isNaN _ _).mono ?_; rintro e w' ⟨rfl, rfl⟩)
      go_ret
      exact ⟨ret_int (by unfold cmpI; simp [h1, h2]), rfl⟩
    · go_enter Tryz.func34, Tryz.ntmps34
      go_wp2_with (go_at_call 54; refine (w_isNaN _ _).mono ?_; rintro e w' ⟨rfl, rfl⟩)
      go_ret
      exact ⟨ret_int (by unfold cmpI; rw [if_neg (by omega), if_neg (by omega)]), rfl⟩

end Go.Proofs.YtfnbmcinbmbehaaGreatDoor
/- The stable sort of places by what is left of each. -/
namespace Go.Proofs.YtfnbmcinbmbehaaGreatDoor
open Go.RowKit Go.Sort Go.Proofs Go.Shelf

section
variable {α : Type} [Inhabited α] {enc : α → Value}
theorem holds_one {w : World} {base g cap n : Nat} {e : TypeId} {xs : List α} (hn : xs.length = n) (h : w.ownsRow base e 1 (.slice (some ⟨g, 0, none⟩) n cap) n (xs.map enc)) : Holds enc w g 0 xs.toArray := by
  intro j hj
  have hj' : j < n := by rw [← hn]; simpa using hj
  refine ⟨?_, by rw [Nat.zero_add]; exact h.frozenAt j⟩
  rw [Nat.zero_add, h.cellAt j (by omega), List.getElem?_map]
  rw [List.getElem?_eq_getElem (by omega)]
  rw [getElem!_pos xs.toArray j hj]
  simp
theorem own_put {w : World} {base g cap n : Nat} {e : TypeId} {xs : List Value} (h : w.ownsRow base e 1 (.slice (some ⟨g, 0, none⟩) n cap) n xs) (ys : List α) (hy : ys.length = n) (m : Nat) :
    ((putRow enc w g 0 ys.toArray).drewN m).ownsRow base e 1 (.slice (some ⟨g, 0, none⟩) n cap) n (ys.map enc) ∧ Gr g w ((putRow enc w g 0 ys.toArray).drewN m) := by
  have hlt := (h.lt g rfl)
  constructor
  · rcases h.2 with ⟨h0, _⟩ | ⟨g', cap', cur, hv, hg, hh, hnc, hcm, hcs, ht⟩
    · cases h0
    · cases hv
      refine ⟨by simp [hy], .inr ⟨g, cap, putCells enc 0 ys.toArray cur, rfl, hlt.1, ?_, hnc, hcm, by simp [putCells, hcs], ?_⟩⟩
      · show (putRow enc w g 0 ys.toArray).heap[g]? = _
        simp [putRow, mapBlock, Array.getElem?_modify, hh, onCells]
      · apply List.ext_getElem?
        intro j
        by_cases hj : j < n
        · rw [List.getElem?_take_of_lt (by omega), Array.getElem?_toList]
          have hjc : j < cur.size := by omega
          have hjy : j < ys.length := by omega
          rw [List.getElem?_map, List.getElem?_eq_getElem hjy]
          simp [putCells, hjc, hy, hj]
        · rw [List.getElem?_take_eq_none (by omega), List.getElem?_eq_none (by simp; omega)]
  · refine ⟨rfl, rfl, rfl, by simp [putRow, mapBlock], fun k hkk hne => ?_⟩
    have : g ≠ k := fun e => hne (by rw [e])
    show (putRow enc w g 0 ys.toArray).heap[k]? = _
    simp [putRow, mapBlock, Array.getElem?_modify, this]
end

theorem gr_sortWorld {α : Type} [Inhabited α] {enc : α → Value} {w : World} {g m : Nat} {d : Array α} {os : Array Obj} : w.grownBy (sortWorld enc w g 0 m d os) (some g) := by
  refine ⟨rfl, rfl, rfl, by simp [sortWorld, putRow, mapBlock, Sort.ahead, grow], fun k hkk hne => ?_⟩
  unfold sortWorld
  rw [heap_grow_old _ _ (by simpa [putRow, mapBlock, Sort.ahead] using hkk)]
  have : g ≠ k := fun e => hne (by rw [e])
  simp [putRow, mapBlock, Sort.ahead, Array.getElem?_modify, this]

def encF {n : Nat} (x : Fin n) : Value := .int .i64 (x.val : Int)
def ordC (rs : List Int) {n : Nat} (x y : Fin n) : Int := cmpI (rs.getD y.val 0) (rs.getD x.val 0)
theorem ordC_lt (rs : List Int) {n : Nat} (x y : Fin n) : ltOf (ordC rs) x y = true ↔ rs.getD y.val 0 < rs.getD x.val 0 := by unfold ltOf ordC; rw [decide_eq_true_eq]; unfold cmpI; split <;> (try split) <;> omega
theorem ord_stable (rs : List Int) {n : Nat} [Inhabited (Fin n)] (d : Array (Fin n)) (hS : d.toList.Pairwise (fun a b => a.val < b.val)) : (insertionSort (ltOf (ordC rs)) d 0 d.size).toList.Perm d.toList ∧ (insertionSort (ltOf (ordC rs)) d 0 d.size).toList.Pairwise (fun a b => beats rs a.val b.val) :=
  ins_stable (ltOf (ordC rs)) (R := fun a b => beats rs a.val b.val) (S := fun a b => a.val < b.val) (fun x y h => .inl ((ordC_lt rs x y).1 h)) (fun x y h1 h2 => by
    have h3 : ¬ rs.getD y.val 0 < rs.getD x.val 0 := fun h => by rw [(ordC_lt rs x y).2 h] at h2; cases h2
    unfold beats; omega) (fun x y z h1 h2 => by unfold beats at *; omega) d hS

set_option maxHeartbeats 1000000 in
/-- The closure, where its variable's box and the row that it holds are at hand. -/
theorem w_cmpOrd (rs : List Int) (n : Nat) (x y : Fin n) (gb gr capr : Nat) (w : World) (hbox : w.cell? ⟨gb, 0, none⟩ = some (.slice (some ⟨gr, 0, none⟩) n capr)) (hrs : ∀ i, i < n → w.cell? ⟨gr, i, none⟩ = some (.int .i64 (rs.getD i 0))) :
    Calls Tryz.prog 33 #[encF x, encF y, .pointer (some ⟨gb, 0, none⟩)] w fun e w' => e = .returned (.int .i64 (ordC rs x y)) ∧ ∃ m, w' = w.drewN m := by
  obtain ⟨x, hx⟩ := x
  obtain ⟨y, hy⟩ := y
  unfold encF ordC
  have c1 := hrs x hx
  have c2 := hrs y hy
  clear hrs
  show Calls _ _ #[.int .i64 (x : Int), .int .i64 (y : Int), _] _ _
  have e : cmpI (rs.getD y 0) (rs.getD x 0) = cmpI (rs.getD (⟨y, hy⟩ : Fin n).val 0) (rs.getD (⟨x, hx⟩ : Fin n).val 0) := rfl
  rw [← e]
  clear e
  generalize rs.getD x 0 = a at *
  generalize rs.getD y 0 = b at *
  have q1 : (0 : Int) ≤ (x : Int) := by omega
  have q2 : (x : Int) < (n : Int) := by omega
  have q3 : (0 : Int) ≤ (y : Int) := by omega
  have q4 : (y : Int) < (n : Int) := by omega
  go_enter Tryz.func33, Tryz.ntmps33
  go_wp2_with fail
  go_quiet ((go_at_call 34; exact Calls.quiet_of_same (flipc (w_Compare _ _ _))))
  go_wp2
  go_ret
  exact ⟨rfl, _, rfl⟩

set_option maxHeartbeats 1000000 in
theorem w_SortOrder {w : World} {base b cap k gb gr capr : Nat} (rs : List Int) (hsz : k + 1 < 20) (h : w.ownsRow base 3 1 (.slice (some ⟨b, 0, none⟩) (k + 1) cap) (k + 1) ((List.range (k + 1)).map (fun (i : Nat) => Value.int .i64 (i : Int))))
    (hbox : w.cell? ⟨gb, 0, none⟩ = some (.slice (some ⟨gr, 0, none⟩) (k + 1) capr)) (hrs : ∀ i, i < k + 1 → w.cell? ⟨gr, i, none⟩ = some (.int .i64 (rs.getD i 0))) (hb : gb ≠ b) (hr : gr ≠ b) :
    Calls Tryz.prog 32 #[.slice (some ⟨b, 0, none⟩) (k + 1) cap, .func (.func 33) #[] #[.pointer (some ⟨gb, 0, none⟩)]] w fun en w' => en = .returned (.tuple #[]) ∧
      ∃ ys : List Nat, ys.Perm (List.range (k + 1)) ∧ ys.Pairwise (beats rs) ∧ w'.ownsRow base 3 1 (.slice (some ⟨b, 0, none⟩) (k + 1) cap) (k + 1) (ys.map (fun (i : Nat) => Value.int .i64 (i : Int))) ∧ Gr b w w' := by
  have hlt := (h.lt b rfl)
  obtain ⟨xs, hxs⟩ : ∃ xs, xs = List.finRange (k + 1) := ⟨_, rfl⟩
  have hxl : xs.length = k + 1 := by rw [hxs]; simp
  have hxv : xs.map (fun x => x.val) = List.range (k + 1) := by
    rw [hxs]
    apply List.ext_getElem
    · simp
    · intro i h1 h2; simp
  have hxe : (List.range (k + 1)).map (fun (i : Nat) => Value.int .i64 (i : Int)) = xs.map encF := by
    rw [← hxv, List.map_map]; rfl
  have hxp : xs.Pairwise (fun a b => a.val < b.val) := by
    have : (xs.map (fun x => x.val)).Pairwise (· < ·) := by rw [hxv]; exact List.pairwise_lt_range
    rwa [List.pairwise_map] at this
  rw [hxe] at h
  have hH := holds_one hxl h
  have e1 : xs.toArray.size = k + 1 := by simpa using hxl
  have hO : OneCell (encF (n := k + 1)) := fun x => by rfl
  have hc : CmpReads Tryz.prog 33 #[.pointer (some ⟨gb, 0, none⟩)] encF (ordC rs) b 0 xs.toArray.size w := fun m os dk hdk x y => by
    have hg := gr_sortWorld (enc := encF (n := k + 1)) (w := w) (g := b) (m := m) (d := dk) (os := os)
    rw [show #[encF x, encF y] ++ #[Value.pointer (some ⟨gb, 0, none⟩)] = #[encF x, encF y, Value.pointer (some ⟨gb, 0, none⟩)] from rfl]
    exact w_cmpOrd rs (k + 1) x y gb gr capr _ (World.grownBy.cell hg hbox (by intro e; injection e with e; exact hb e)) (fun i hi => World.grownBy.cell hg (hrs i hi) (by intro e; injection e with e; exact hr e))
  have hs := Any.insertionSortCmpFunc_one Tryz.insInt encF hO (ordC rs) 33 #[.pointer (some ⟨gb, 0, none⟩)] b 0 cap 0 xs.toArray.size xs.toArray w (enters_of Tryz.func33 (by kernel_rfl) rfl) hc hH (Nat.zero_le _) (Nat.le_refl _) (by omega)
  change Calls Tryz.prog 75 _ _ _ at hs
  rw [e1] at hs
  have HS := hide (hs.mono fun en w' ⟨he, m, hw⟩ => (show en = Ending.returned (.tuple #[]) ∧ ∃ ys : List Nat, ys.Perm (List.range (k + 1)) ∧ ys.Pairwise (beats rs) ∧ w'.ownsRow base 3 1 (.slice (some ⟨b, 0, none⟩) (k + 1) cap) (k + 1) (ys.map (fun (i : Nat) => Value.int .i64 (i : Int))) ∧ Gr b w w' from by
    have hst := ord_stable rs xs.toArray (by simpa using hxp)
    rw [e1] at hst
    generalize insertionSort (ltOf (ordC rs)) xs.toArray 0 (k + 1) = D at *
    have hp : (D.toList.map (fun x => x.val)).Perm (List.range (k + 1)) := by rw [← hxv]; exact (show D.toList.Perm xs by simpa using hst.1).map _
    refine ⟨he, D.toList.map (fun x => x.val), hp, ?_, ?_⟩
    · rw [List.pairwise_map]; exact hst.2
    · have hl : D.toList.length = k + 1 := by have := hp.length_eq; simpa using this
      have := own_put (enc := encF) h D.toList hl m
      rw [hw]
      rw [List.map_map]
      exact this))
  clear hs hc hH h hlt e1 hxs hxl hxv hxe hxp hbox hrs hO
  have HT := hide (show Calls Tryz.prog 53 #[.slice (some ⟨b, 0, none⟩) (k + 1) cap, .int .i64 ((k + 1 : Nat) : Int), .func (.func 33) #[] #[.pointer (some ⟨gb, 0, none⟩)]] w fun en w' => en = .returned (.tuple #[]) ∧
      ∃ ys : List Nat, ys.Perm (List.range (k + 1)) ∧ ys.Pairwise (beats rs) ∧ w'.ownsRow base 3 1 (.slice (some ⟨b, 0, none⟩) (k + 1) cap) (k + 1) (ys.map (fun (i : Nat) => Value.int .i64 (i : Int))) ∧ Gr b w w' from by
    generalize k + 1 = n at HS hsz ⊢
    have t1 : decide ((20 : Int) ≤ (n : Int)) = false := decide_eq_false (by omega)
    have t2 : decide ((20 : Int) < (n : Int)) = false := decide_eq_false (by omega)
    go_enter Tryz.func53, Tryz.ntmps53
    go_wp2_with fail
    refine wp_loop_rounds 1 ?_
    rw [rounds_succ]
    go_wp2_with (go_at_call 75; refine (HS.out).mono ?_; rintro e w1 ⟨rfl, hw1⟩)
    refine wp_loop_rounds 1 ?_
    rw [rounds_succ]
    go_wp2_with fail
    go_end0
    exact ⟨rfl, hw1⟩)
  generalize k + 1 = n at HT hsz ⊢
  go_enter Tryz.func32, Tryz.ntmps32
  go_wp2_with (go_at_call 53; refine (HT.out).mono ?_; rintro e w1 ⟨rfl, hw1⟩)
  go_end0
  exact ⟨rfl, hw1⟩
end Go.Proofs.YtfnbmcinbmbehaaGreatDoor
/- The rest of a function's code from a region on. Of no program. -/
namespace Go.Proofs.YtfnbmcinbmbehaaGreatDoor
open Go

/-- The first region's number. -/
def firstReg : Code → Option Nat
  | .region n _ _ => some n
  | .seq a _ => firstReg a
  | .scope c => firstReg c
  | .block _ c => firstReg c
  | .loop c => firstReg c
  | _ => none
def isReg (r : Nat) (c : Code) : Bool := match firstReg c with | some n => Nat.beq n r | none => false
/-- What follows from the statement on that begins with region r. -/
def fromReg (r : Nat) : Code → Code
  | .seq a b => bif isReg r a then .seq a b else fromReg r b
  | .scope c => fromReg r c
  | .block _ c => fromReg r c
  | c => c
end Go.Proofs.YtfnbmcinbmbehaaGreatDoor
/- A whole shared fairly: the program's walk, its second half. -/
namespace Go.Proofs.YtfnbmcinbmbehaaGreatDoor
open Go.RowKit Go.Sort Go.Proofs Go.Shelf

/-- Dues, or a fault. -/
def DuesU (F : Int) (R : List Due → Prop) (w : World) (e : Ending) (w' : World) : Prop :=
  ∃ (A : Option Addr) (c : Nat) (ds : List Due), e = .returned (.tuple #[.slice A ds.length c, .int .i64 F]) ∧ (F = 0 → R ds) ∧ (F ≠ 0 → ds = []) ∧ Rd w' w.heap.size A 2 encDue ds ∧ Nx w w'
theorem DuesU.no {F : Int} {R : List Due → Prop} {w w' : World} (h : F ≠ 0) (hn : Nx w w') : DuesU F R w (.returned (.tuple #[.slice none 0 0, .int .i64 F])) w' := ⟨none, 0, [], rfl, fun h0 => absurd h0 h, fun _ => rfl, Rd.nil, hn⟩

/-- Behind the makes: an order, what is left, and the box of the variable that holds it. -/
def FairMid (k : Nat) (w5 : World) (vo vb : Value) (W : World) : Prop :=
  ∃ go gr gb : Nat, vo = .slice (some ⟨go, 0, none⟩) k k ∧ vb = .pointer (some ⟨gb, 0, none⟩) ∧ (w5.heap.size ≤ go ∧ w5.heap.size ≤ gr ∧ w5.heap.size ≤ gb ∧ go ≠ gr ∧ go ≠ gb ∧ gr ≠ gb) ∧
    W.ownsRow w5.heap.size 3 1 (.slice (some ⟨go, 0, none⟩) k k) k ((List.replicate k (0 : Int)).flatMap encI) ∧ W.ownsRow w5.heap.size 3 1 (.slice (some ⟨gr, 0, none⟩) k k) k ((List.replicate k (0 : Int)).flatMap encI) ∧
    W.heap[gb]? = some (.cells #[.slice (some ⟨gr, 0, none⟩) k k] 22 (0, 0)) ∧ Nx w5 W

/-- The sort of no places. -/
theorem w_SortOrder0 (b cap : Nat) (fv : Value) (w : World) : Calls Tryz.prog 32 #[.slice (some ⟨b, 0, none⟩) 0 cap, fv] w fun e w' => e = .returned (.tuple #[]) ∧ w = w' := by
  have HI := hide (show ∀ W, Calls Tryz.prog 75 #[.slice (some ⟨b, 0, none⟩) 0 cap, .int .i64 0, .int .i64 0, fv] W fun e w' => e = .returned (.tuple #[]) ∧ W = w' from by
    intro W
    go_enter Tryz.func75, Tryz.ntmps75
    go_wp2_with fail
    refine wp_loop_rounds 1 ?_
    rw [rounds_succ]
    go_wp2_with fail
    go_end0
    exact ⟨rfl, rfl⟩)
  have HT := hide (show ∀ W, Calls Tryz.prog 53 #[.slice (some ⟨b, 0, none⟩) 0 cap, .int .i64 0, fv] W fun e w' => e = .returned (.tuple #[]) ∧ W = w' from by
    intro W
    go_enter Tryz.func53, Tryz.ntmps53
    go_wp2_with fail
    refine wp_loop_rounds 1 ?_
    rw [rounds_succ]
    go_wp2_with (go_at_call 75; refine (HI.out _).mono ?_; rintro e w1 ⟨rfl, rfl⟩)
    refine wp_loop_rounds 1 ?_
    rw [rounds_succ]
    go_wp2_with fail
    go_end0
    exact ⟨rfl, rfl⟩)
  go_enter Tryz.func32, Tryz.ntmps32
  go_wp2_with (go_at_call 53; refine (HT.out _).mono ?_; rintro e w1 ⟨rfl, rfl⟩)
  go_end0
  exact ⟨rfl, rfl⟩
def ordL (k : Nat) : List Int := (List.range k).map (fun (i : Nat) => (i : Int))
theorem ordL_len (k : Nat) : (ordL k).length = k := by simp [ordL]
theorem ordL_get (k i : Nat) (h : i < (ordL k).length) : (ordL k)[i] = (i : Int) := by simp [ordL]
theorem flat_ints (L : List Nat) : (L.map (fun (i : Nat) => (i : Int))).flatMap encI = L.map (fun (i : Nat) => Value.int .i64 (i : Int)) := by
  induction L with
  | nil => rfl
  | cons x L ih => rw [List.map_cons, List.flatMap_cons, ih]; rfl
/-- The places sorted, however many. -/
theorem w_SortOrd {w : World} {base b k gb gr : Nat} (rs : List Int) (hsz : k < 20) (h : w.ownsRow base 3 1 (.slice (some ⟨b, 0, none⟩) k k) k ((ordL k).flatMap encI))
    (hbox : w.cell? ⟨gb, 0, none⟩ = some (.slice (some ⟨gr, 0, none⟩) k k)) (hrs : ∀ i, i < k → w.cell? ⟨gr, i, none⟩ = some (.int .i64 (rs.getD i 0))) (hb : gb ≠ b) (hr : gr ≠ b) :
    Calls Tryz.prog 32 #[.slice (some ⟨b, 0, none⟩) k k, .func (.func 33) #[] #[.pointer (some ⟨gb, 0, none⟩)]] w fun en w' => en = .returned (.tuple #[]) ∧
      ∃ ys : List Nat, ys.Perm (List.range k) ∧ ys.Pairwise (beats rs) ∧ w'.ownsRow base 3 1 (.slice (some ⟨b, 0, none⟩) k k) k ((ys.map (fun (i : Nat) => (i : Int))).flatMap encI) ∧ Gr b w w' := by
  rcases k with _ | k
  · refine (w_SortOrder0 _ _ _ _).mono ?_
    rintro e w' ⟨rfl, rfl⟩
    exact ⟨rfl, [], by simp, List.Pairwise.nil, h, Gr.refl _ _⟩
  · unfold ordL at h
    rw [flat_ints] at h
    refine (w_SortOrder rs hsz h hbox hrs hb hr).mono ?_
    rintro e w' ⟨rfl, ys, h1, h2, h3, h4⟩
    exact ⟨rfl, ys, h1, h2, by rw [flat_ints]; exact h3, h4⟩
theorem zip_set (l : List ByteArray) (B : List Int) (a : Nat) (ha : a < l.length) (z : Int) : (List.zipWith Due.mk l B).set a ⟨l[a], z⟩ = List.zipWith Due.mk l (B.set a z) := by
  apply List.ext_getElem
  · simp
  · intro i h1 h2
    rw [List.getElem_set]
    by_cases e : a = i
    · subst e; simp
    · simp [e]
theorem div_fit {F x : Int} (h1 : (1 : Int) ≤ F) (h2 : -7680000000000 ≤ x ∧ x ≤ 7680000000000) : -10000000000000 ≤ x / F ∧ x / F ≤ 10000000000000 := by
  constructor
  · have : -7680000000000 ≤ x / F := by
      rw [Int.le_ediv_iff_mul_le (by omega)]
      have : (-7680000000000 : Int) * F ≤ -7680000000000 * 1 := Int.mul_le_mul_of_nonpos_left (by omega) (by omega)
      omega
    omega
  · have : x / F ≤ 7680000000000 := by
      refine Int.ediv_le_of_le_mul (by omega) ?_
      have : (7680000000000 : Int) * 1 ≤ 7680000000000 * F := Int.mul_le_mul_of_nonneg_left (by omega) (by omega)
      omega
    omega
noncomputable def codeF (r : Nat) : Code := fromReg r (Tryz.f13.body.getD .skip)
end Go.Proofs.YtfnbmcinbmbehaaGreatDoor
