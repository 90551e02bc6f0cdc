/- Two strings sorted; equal ones thrown together. -/
import Derived.Test.YtepbamacebjopaaGreatDoorQG15
import Derived.Test.YtepbamacebjopaaGreatDoorQG5
import Derived.Deep.RegionWith
import Derived.Lib.SliceRun
import Derived.Test.YtepbamacebjopaaGreatDoorQCheckR
import Derived.Test.YtepbamacebjopaaGreatDoorQRoadT
import Derived.Test.YtepbamacebjopaaGreatDoorQG12
import Derived.Test.YtepbamacebjopaaGreatDoorQG8
import Derived.Test.YtepbamacebjopaaGreatDoorQG0
import Derived.Test.YtepbamacebjopaaGreatDoorQG10
import Derived.Shelf.Strconv.Itoa3
import Derived.Shelf.LaysM
import Derived.Ground.NamesProg
import Derived.Test.YtepbamacebjopaaGreatDoorProg
import Derived.ArgAppend
namespace Go.Proofs.YtepbamacebjopaaGreatDoor
open Go.RowKit Go.Proofs Go.Shelf

theorem w_LessG (a b : ByteArray) (w : World) : Calls Tryz.prog 90 #[.string a, .string b] w fun e w' => e = .returned (.bool (Op.bytesLess a.toList b.toList)) ∧ w = w' := by
  go_enter Tryz.func90, Tryz.ntmps90
  go_wp2_with (go_at_call 122; refine (w_isNaNS _ _).mono ?_; rintro e w' ⟨rfl, rfl⟩)
  go_ret
  exact ⟨rfl, rfl⟩
def lo2 (a b : ByteArray) : ByteArray := if Op.bytesLess b.toList a.toList then b else a
def hi2 (a b : ByteArray) : ByteArray := if Op.bytesLess b.toList a.toList then a else b
/-- Two strings in a block, in order. -/
def Two2 (g : Nat) (a b : ByteArray) (w w' : World) : Prop := Gr g w w' ∧ w'.heap[g]? = some (.cells #[.string (lo2 a b), .string (hi2 a b)] 9 (0, 0))
set_option maxRecDepth 100000 in
set_option maxHeartbeats 2000000 in
theorem w_ins2 (g c : Nat) (a b : ByteArray) (w : World) (hg : w.heap[g]? = some (.cells #[.string a, .string b] 9 (0, 0))) :
    Calls Tryz.prog 152 #[.slice (some ⟨g, 0, none⟩) 2 c, .int .i64 0, .int .i64 2] w fun e w' => e = .returned (.tuple #[]) ∧ Two2 g a b w w' := by
  have h0 : w.cell? ⟨g, 0, none⟩ = some (.string a) := cell_of_row w g 0 _ _ _ hg
  have h1 : w.cell? ⟨g, 1, none⟩ = some (.string b) := cell_of_row w g 1 _ _ _ hg
  have f0 : w.frozen? ⟨g, 0, none⟩ = false := by simp [World.frozen?, hg]
  have f1 : w.frozen? ⟨g, 1, none⟩ = false := by simp [World.frozen?, hg]
  have HG := hide hg
  clear hg
  cases t : Op.bytesLess b.toList a.toList
  · have HE := hide (show lo2 a b = a ∧ hi2 a b = b by unfold lo2 hi2; rw [t]; exact ⟨rfl, rfl⟩)
    have hL := fun W => w_LessG b a W
    rw [t] at hL
    have HL := hide hL
    clear hL t
    go_enter Tryz.func152, Tryz.ntmps152
    go_wp2_with fail
    refine wp_loop_rounds 2 ?_
    rw [rounds_succ]
    go_wp2_with fail
    refine wp_loop_rounds 2 ?_
    rw [rounds_succ]
    go_wp2_with fail
    go_quiet ((go_at_call 90; exact Calls.quiet_of_same (flipc (HL.out _))))
    go_wp2_with fail
    rw [rounds_succ]
    go_wp2_with fail
    go_end0
    exact ⟨rfl, (Gr.refl _ _).drewN _, by rw [HE.out.1, HE.out.2]; exact HG.out⟩
  · have HE := hide (show lo2 a b = b ∧ hi2 a b = a by unfold lo2 hi2; rw [t]; exact ⟨rfl, rfl⟩)
    have hL := fun W => w_LessG b a W
    rw [t] at hL
    have HL := hide hL
    clear hL t
    go_enter Tryz.func152, Tryz.ntmps152
    go_wp2_with fail
    refine wp_loop_rounds 2 ?_
    rw [rounds_succ]
    go_wp2_with fail
    refine wp_loop_rounds 2 ?_
    rw [rounds_succ]
    go_wp2_with fail
    go_quiet ((go_at_call 90; exact Calls.quiet_of_same (flipc (HL.out _))))
    go_wp2_with fail
    go_region_with (fail)
    all_goals
      go_wp2_with fail
    all_goals
      rw [rounds_succ]
      go_wp2_with fail
      go_quiet (fail)
      go_wp2_with fail
      rw [rounds_succ]
      go_wp2_with fail
      go_end0
    all_goals
      refine ⟨rfl, (by repeat (first | exact Gr.refl _ _ | refine Gr.drewN ?_ _ | refine Gr.setS ?_ (.inl rfl) _)), ?_⟩
      rw [HE.out.1, HE.out.2]
      first
        | exact heap_set (i := 0) (heap_set (i := 1) (u := .string a) HG.out)
        | exact heap_set (i := 1) (heap_set (i := 0) (u := .string b) HG.out)
set_option maxRecDepth 100000 in
set_option maxHeartbeats 1000000 in
theorem w_pdq2 (g c : Nat) (a b : ByteArray) (z : Int) (w : World) (hg : w.heap[g]? = some (.cells #[.string a, .string b] 9 (0, 0))) :
    Calls Tryz.prog 131 #[.slice (some ⟨g, 0, none⟩) 2 c, .int .i64 0, .int .i64 2, .int .i64 z] w fun e w' => e = .returned (.tuple #[]) ∧ Two2 g a b w w' := by
  go_enter Tryz.func131, Tryz.ntmps131
  go_wp2_with fail
  refine wp_loop_rounds 1 ?_
  rw [rounds_succ]
  go_wp2_with (go_at_call 152; refine (w_ins2 g c a b w hg).mono ?_; rintro e w1 ⟨rfl, hn1⟩)
  exact bodyPost_ret (results_none (by rfl) _ _ _) rfl ⟨rfl, hn1⟩
theorem w_Sort2 (g c : Nat) (a b : ByteArray) (w : World) (hg : w.heap[g]? = some (.cells #[.string a, .string b] 9 (0, 0))) :
    Calls Tryz.prog 97 #[.slice (some ⟨g, 0, none⟩) 2 c] w fun e w' => e = .returned (.tuple #[]) ∧ Two2 g a b w w' := by
  go_enter Tryz.func97, Tryz.ntmps97
  go_wp2_with (first
    | (go_at_call 87; refine (w_Len _ _ (by omega) (by omega)).mono ?_; rintro e w' ⟨z, rfl, rfl⟩)
    | (go_at_call 131; refine (w_pdq2 g c a b _ w hg).mono ?_; rintro e w1 ⟨rfl, hn1⟩))
  go_end0
  exact ⟨rfl, hn1⟩
set_option maxRecDepth 100000 in
set_option maxHeartbeats 1000000 in
/-- Two strings that differ stay. -/
theorem w_Comp2 (g c : Nat) (a b : ByteArray) (w : World) (hg : w.heap[g]? = some (.cells #[.string a, .string b] 9 (0, 0))) (hne : a ≠ b) :
    Calls Tryz.prog 98 #[.slice (some ⟨g, 0, none⟩) 2 c] w fun e w' => e = .returned (.slice (some ⟨g, 0, none⟩) 2 c) ∧ Nx w w' := by
  have h0 : w.cell? ⟨g, 0, none⟩ = some (.string a) := cell_of_row w g 0 _ _ _ hg
  have h1 : w.cell? ⟨g, 1, none⟩ = some (.string b) := cell_of_row w g 1 _ _ _ hg
  have hne : (b.toList == a.toList) = false := by rw [eqS_iff]; exact decide_eq_false (fun e => hne e.symm)
  clear hg
  go_enter Tryz.func98, Tryz.ntmps98
  go_wp2_with fail
  refine wp_loop_rounds 2 ?_
  rw [rounds_succ]
  go_wp2_with fail
  go_quiet (fail)
  go_wp2_with fail
  rw [rounds_succ]
  go_wp2_with fail
  go_ret
  exact ⟨rfl, (Nx.refl _).drewN _⟩
set_option maxRecDepth 100000 in
set_option maxHeartbeats 1000000 in
/-- Of two equal strings one stays. -/
theorem w_Comp1 (g c : Nat) (a : ByteArray) (w : World) (hg : w.heap[g]? = some (.cells #[.string a, .string a] 9 (0, 0))) (hc : 2 ≤ c) :
    Calls Tryz.prog 98 #[.slice (some ⟨g, 0, none⟩) 2 c] w fun e w' => e = .returned (.slice (some ⟨g, 0, none⟩) 1 c) ∧ Gr g w w' ∧ w'.cell? ⟨g, 0, none⟩ = some (.string a) := by
  have h0 : w.cell? ⟨g, 0, none⟩ = some (.string a) := cell_of_row w g 0 _ _ _ hg
  have h1 : w.cell? ⟨g, 1, none⟩ = some (.string a) := cell_of_row w g 1 _ _ _ hg
  have f1 : w.frozen? ⟨g, 1, none⟩ = false := by simp [World.frozen?, hg]
  have hq : (a.toList == a.toList) = true := by simp
  clear hg
  have hcl : ∀ (n : Nat) ty, (Builtin.clear_ #[34] ty #[.slice (some ⟨g, 1, none⟩) 1 (c - 1)]).run Tryz.prog (w.drewN n) = .ok (.tuple #[]) ((w.drewN n).setCells g 1 (List.replicate 1 (.string ByteArray.empty))) := fun n ty =>
    Lib.run_clear_slice (w.drewN n) 34 9 ty (.string ByteArray.empty) Tryz.underlying34 (fun _ => by kernel_rfl) rfl rfl g 1 1 (c - 1) (by omega) (fun i hi => by obtain rfl : i = 0 := (by omega); show (w.cell? ⟨g, 1, none⟩).isSome = true; rw [h1]; rfl) (fun i hi => by obtain rfl : i = 0 := (by omega); exact f1)
  go_enter Tryz.func98, Tryz.ntmps98
  go_wp2_with fail
  refine wp_loop_rounds 2 ?_
  rw [rounds_succ]
  go_wp2_with fail
  go_quiet (fail)
  go_wp2_with fail
  refine wp_loop_rounds 1 ?_
  rw [rounds_succ]
  go_wp2_with (simp only [hcl])
  go_ret
  exact ⟨rfl, ((Gr.refl g w).drewN nq).setS (p := ⟨g, 1, none⟩) (.inl rfl) _, (World.cell?_setCell_other _ _ _ _ (by intro e; injection e with e1 e2; omega)).trans h0⟩
end Go.Proofs.YtepbamacebjopaaGreatDoor
/- How long an arc takes at a moment: road.TimeOn, in general. -/
namespace Go.Proofs.YtepbamacebjopaaGreatDoor
open Go.RowKit

/-- The nodes at an arc's ends. -/
def pairN (a b : ByteArray) : List Node := if a = b then [⟨a, 0, 0⟩] else [⟨lo2 a b, 0, 0⟩, ⟨hi2 a b, 0, 0⟩]
def timeOnF (a : Arc) (at_ : Int) : Int := if roadsF (pairN a.from_ a.to_) [a] [] = 0 then momF at_ else roadsF (pairN a.from_ a.to_) [a] []
def timeOnI (a : Arc) (at_ : Int) : Int := if timeOnF a at_ = 0 then timeI a.knots at_ else 0
theorem timeOn_ok {a : Arc} {ns : List Node} (h : roadsF ns [a] [] = 0) : KOk a.knots := by
  unfold roadsF at h
  by_cases h0 : nodesF ns = 0
  · rw [if_pos h0] at h
    by_cases h1 : chk (arcF ns) none [a] = 0
    · have h2 := chk_all (F := arcF ns) (Q := fun x => arcG ns x = 0) (fun p x hx => (arcF_ok hx).2) _ _ h1 a (by simp)
      exact knotsF_chk (arcG_ok h2).2.2.2.2
    · rw [if_neg h1] at h; exact absurd h h1
  · rw [if_neg h0] at h; exact absurd h h0
theorem el_NodeT : ElemOf Tryz.prog 26 74 3 32 := ElemOf.mk' (z := .agg #[.string ByteArray.empty, .int .i64 0, .int .i64 0]) Tryz.underlying26 (by kernel_rfl) rfl
theorem lo_hi_ne {a b : ByteArray} (h : a ≠ b) : lo2 a b ≠ hi2 a b := by
  unfold lo2 hi2
  cases Op.bytesLess b.toList a.toList with
  | true => exact fun e => h e.symm
  | false => exact h
theorem lo_hi_eq (a : ByteArray) : lo2 a a = a ∧ hi2 a a = a := by
  unfold lo2 hi2
  cases Op.bytesLess a.toList a.toList <;> exact ⟨rfl, rfl⟩
theorem lo_small {a b : ByteArray} (ha : a.size ≤ 1000000) (hb : b.size ≤ 1000000) : (lo2 a b).size ≤ 1000000 ∧ (hi2 a b).size ≤ 1000000 := by
  unfold lo2 hi2
  cases Op.bytesLess b.toList a.toList <;> exact ⟨by assumption, by assumption⟩
/-- The strings thrown together: one where they are equal. -/
theorem w_CompG (g c : Nat) (a b : ByteArray) (w : World) (hg : w.heap[g]? = some (.cells #[.string (lo2 a b), .string (hi2 a b)] 9 (0, 0))) (hc : 2 ≤ c) :
    Calls Tryz.prog 98 #[.slice (some ⟨g, 0, none⟩) 2 c] w fun e w' => e = .returned (.slice (some ⟨g, 0, none⟩) (pairN a b).length c) ∧ Gr g w w' ∧ (∀ i, i < (pairN a b).length → w'.cell? ⟨g, i, none⟩ = some (.string ((pairN a b).getD i default).key)) := by
  by_cases h : a = b
  · subst h
    rw [(lo_hi_eq a).1, (lo_hi_eq a).2] at hg
    refine (w_Comp1 g c a w hg hc).mono ?_
    rintro e w' ⟨rfl, h1, h2⟩
    have e : pairN a a = [⟨a, 0, 0⟩] := by unfold pairN; rw [if_pos rfl]
    rw [e]
    refine ⟨rfl, h1, fun i hi => ?_⟩
    obtain rfl : i = 0 := by simp at hi; exact hi
    exact h2
  · refine (w_Comp2 g c _ _ w hg (lo_hi_ne h)).mono ?_
    rintro e w' ⟨rfl, h1⟩
    have e : pairN a b = [⟨lo2 a b, 0, 0⟩, ⟨hi2 a b, 0, 0⟩] := by unfold pairN; rw [if_neg h]
    rw [e]
    have hl : g < w.heap.size := (Array.getElem?_eq_some_iff.1 hg).1
    refine ⟨rfl, Gr.of_nx h1, fun i hi => ?_⟩
    have hi' : i < 2 := hi
    rcases (by omega : i = 0 ∨ i = 1) with rfl | rfl
    · exact nx_cell h1 hl (cell_of_row w g 0 _ _ _ hg)
    · exact nx_cell h1 hl (cell_of_row w g 1 _ _ _ hg)
theorem pair_zero {a b : ByteArray} : ∀ x ∈ pairN a b, x = ⟨x.key, 0, 0⟩ := by
  unfold pairN
  intro x hx
  split at hx
  · simp at hx; subst hx; rfl
  · simp at hx; rcases hx with rfl | rfl <;> rfl
theorem pair_len (a b : ByteArray) : (pairN a b).length ≤ 2 := by unfold pairN; split <;> simp
theorem pair_small {a b : ByteArray} (ha : a.size ≤ 1000000) (hb : b.size ≤ 1000000) : SmallN (pairN a b) := by
  unfold pairN
  intro x hx
  split at hx
  · simp at hx; subst hx; exact ha
  · simp at hx
    rcases hx with rfl | rfl
    · exact (lo_small ha hb).1
    · exact (lo_small ha hb).2

set_option maxRecDepth 100000 in
set_option maxHeartbeats 4000000 in
theorem w_TimeOn (lo : Nat) (a : Arc) (at_ : Int) (w : World) (hK : Rd w lo a.ka 2 encKnot a.knots) (hkl : a.knots.length ≤ 400) (h1 : a.key.size ≤ 1000000) (h2 : a.from_.size ≤ 1000000) (h3 : a.to_.size ≤ 1000000) :
    Calls Tryz.prog 57 #[.agg #[.string a.key, .string a.from_, .string a.to_, .int .i64 a.long, .slice a.ka a.knots.length a.kc], .int .i64 at_] w fun e w' => e = .returned (.tuple #[.int .i64 (timeOnI a at_), .int .i64 (timeOnF a at_)]) ∧ Nx w w' := by
  have HPS := hide (pair_small h2 h3)
  have HPZ := hide (@pair_zero a.from_ a.to_)
  have HPL := hide (pair_len a.from_ a.to_)
  have HTI := hide (show timeOnI a at_ = if timeOnF a at_ = 0 then timeI a.knots at_ else 0 from rfl)
  have HTF := hide (show timeOnF a at_ = if roadsF (pairN a.from_ a.to_) [a] [] = 0 then momF at_ else roadsF (pairN a.from_ a.to_) [a] [] from rfl)
  have HCG := hide (fun g c W hg hc => w_CompG g c a.from_ a.to_ W hg hc)
  obtain ⟨wa, hwa⟩ : ∃ wa, wa = w.alloc (.cells #[.string a.key, .string a.from_, .string a.to_, .int .i64 a.long, .slice a.ka a.knots.length a.kc] 37) := ⟨_, rfl⟩
  have hna : Nx w wa := hwa ▸ (Nx.refl w).alloc _
  have hgw : w.heap.size < wa.heap.size := by rw [hwa]; simp
  have b0 : wa.cell? ⟨w.heap.size, 0, none⟩ = some (.string a.key) := by rw [hwa]; go_simp
  have b1 : wa.cell? ⟨w.heap.size, 1, none⟩ = some (.string a.from_) := by rw [hwa]; go_simp
  have b2 : wa.cell? ⟨w.heap.size, 2, none⟩ = some (.string a.to_) := by rw [hwa]; go_simp
  have b3 : wa.cell? ⟨w.heap.size, 3, none⟩ = some (.int .i64 a.long) := by rw [hwa]; go_simp
  have b4 : wa.cell? ⟨w.heap.size, 4, none⟩ = some (.slice a.ka a.knots.length a.kc) := by rw [hwa]; go_simp
  have HK := hide (fun W (hx : Nx wa W) => (hK.nx hna).nx hx)
  have HCR := hide (fun (lo1 g ca cn : Nat) (A : Option Addr) W (hx : Nx wa W) (hg : W.heap[g]? = some (.cells #[.string a.key, .string a.from_, .string a.to_, .int .i64 a.long, .slice a.ka a.knots.length a.kc] 37 (0, 0))) (hR : Rd W lo1 A 3 encNode (pairN a.from_ a.to_)) =>
    w_CheckRoads lo1 0 0 A (some ⟨g, 0, none⟩) none cn ca 0 (pairN a.from_ a.to_) [a] [] W hR HPS.out (by have := HPL.out; omega) ⟨Rd.lit hg (Nat.zero_le _) encArc_len rfl, fun x hx2 => by simp at hx2; subst hx2; exact ⟨(HK.out W hx).low (Nat.zero_le _), hkl, h1⟩⟩ (by simp) Rd.nil (by simp))
  clear hK
  generalize timeOnF a at_ = F at *
  generalize timeOnI a at_ = V at *
  generalize hpn : pairN a.from_ a.to_ = ps at *
  generalize hkn : a.knots.length = kn at *
  have HKN := hide hkn
  clear hkn hpn
  go_enter Tryz.func57, Tryz.ntmps57
  go_wp2_with fail
  rw [← hwa]
  obtain ⟨wb, hwb⟩ : ∃ wb, wb = wa.alloc (.cells #[.string a.from_, .string a.to_] 9) := ⟨_, rfl⟩
  rw [← hwb]
  have hsa : wa.heap.size = w.heap.size + 1 := by rw [hwa]; simp
  have hnb : Nx wa wb := hwb ▸ (Nx.refl wa).alloc _
  have hgb : w.heap.size + 1 < wb.heap.size := by rw [hwb]; simp; omega
  have kb : wb.heap[w.heap.size + 1]? = some (.cells #[.string a.from_, .string a.to_] 9 (0, 0)) := by rw [hwb]; exact hnew hsa.symm
  have HWA := hide hwa
  have HWB := hide hwb
  have HSA := hide hsa
  clear hwa hwb hsa
  obtain ⟨g1, hg1⟩ : ∃ g1, g1 = w.heap.size + 1 := ⟨_, rfl⟩
  rw [← hg1] at hgb kb ⊢
  have hag : wa.heap.size ≤ g1 := by have := HSA.out; omega
  clear hg1
  generalize w.heap.size = g0 at *
  refine (w_Sort2 g1 2 a.from_ a.to_ _ kb).mono ?_
  rintro e w1 ⟨rfl, hgr1, kb1⟩
  go_wp2_with fail
  refine (HCG.out g1 2 _ kb1 (by omega)).mono ?_
  rintro e w2 ⟨rfl, hgr2, hcells⟩
  have hx2 : Nx wa w2 := Nx.of_gr (((Gr.of_nx hnb).trans hgr1).trans hgr2) hag
  have hgd : g1 < w2.heap.size := by have h8 := hgr1.sz; have h9 := hgr2.sz; omega
  have HCE := hide hcells
  have hown0 : w2.ownsRow w2.heap.size 74 3 (.slice none 0 0) ([] : List Node).length (([] : List Node).flatMap encNode) := World.ownsRow_nil _ _ _ _
  have HO0 := hide hown0
  clear hown0 kb kb1 hgr1 hgr2 hcells
  generalize hpl : ps.length = pn at *
  have HPN := hide hpl
  clear hpl
  have hpn2 := HPL.out
  go_wp2_with fail
  go_loopw [7, 21] (fun v i wr => ∃ k : Nat, k ≤ pn ∧ i = .int .i64 k ∧ wr.ownsRow w2.heap.size 74 3 v (ps.take k).length ((ps.take k).flatMap encNode) ∧ Nx w2 wr) (fun _ i _ => pn - (intOf i).toNat)
  case atStart => exact ⟨0, Nat.zero_le _, rfl, HO0.out, Nx.refl _⟩
  case round =>
    obtain ⟨k, hk, rfl, hown, hbw⟩ := hrel
    have HOW := hide hown
    clear hown
    by_cases hlt : k < pn
    · have hlt' : k < ps.length := by have := HPN.out; omega
      have kc := nx_cell hbw hgd (HCE.out k hlt)
      rw [List.getD_eq_getElem?_getD, List.getElem?_eq_getElem hlt'] at kc
      replace kc : wr.cell? ⟨g1, k, none⟩ = some (.string ps[k].key) := kc
      have hz := HPZ.out ps[k] (List.getElem_mem hlt')
      have htk := List.take_succ_eq_append_getElem hlt'
      generalize ps[k] = x at *
      have HZ := hide hz
      have HTK := hide htk
      clear hz htk
      have hbs := hbw.sz
      have hkl2 : (ps.take k).length ≤ 10000000 := by rw [List.length_take]; omega
      go_wp2_with (at_builtin; refine wpApp rfl _ _ _ rfl el_NodeT encNode encNode_len encNode_one (by omega) (by omega) w2.heap.size _ (ps.take k) rfl (HOW.out.alloc _) _ x _ rfl (hnew rfl) (by rw [HZ.out]; rfl) hkl2 (by simp; omega) ?_; intro v3 w3 hown3 hg3)
      go_roundw
      case rel => exact ⟨k + 1, by omega, by go_num, by rw [HTK.out]; exact hown3, (hbw.alloc _).grown hg3 (own_blk_lt HOW.out)⟩
      case measure => simp [intOf]; omega
    · obtain rfl : pn = k := by omega
      have hown := HOW.out
      rw [List.take_of_length_le (by have := HPN.out; omega)] at hown
      obtain ⟨A4, c4, ev, hR4, _⟩ := Rd.of_own encNode_len rfl hown
      have HR4 := hide hR4
      have ha4 : Nx wa wr := hx2.trans hbw
      have d0 := nx_cell ha4 hgw b0
      have d1 := nx_cell ha4 hgw b1
      have d2 := nx_cell ha4 hgw b2
      have d3 := nx_cell ha4 hgw b3
      have d4 := nx_cell ha4 hgw b4
      have HPN2 := HPN.out
      subst ev
      clear hown hR4 hlt HOW HCE
      go_wp2_with fail
      have hx5 := (Nx.refl wr).alloc (.cells #[.string a.key, .string a.from_, .string a.to_, .int .i64 a.long, .slice a.ka kn a.kc] 37)
      refine (HCR.out _ _ 1 c4 A4 _ (ha4.trans hx5) (hnew rfl) (HR4.out.nx hx5)).mono ?_
      rintro e w5 ⟨rfl, hn5⟩
      have ha5 : Nx wa w5 := (ha4.trans hx5).trans hn5
      have e4 := nx_cell ha5 hgw b4
      by_cases hz : roadsF ps [a] [] = 0
      · have HOK := hide (timeOn_ok hz)
        rw [hz]
        have HTF2 := hide (HTF.out.trans (if_pos hz))
        clear hz
        cases hm : momB at_
        · have HF := hide (show F = 1 by rw [HTF2.out]; unfold momF; rw [hm]; rfl)
          go_wp2_with (go_at_call 80; refine (w_Moment _ _).mono ?_; rintro e w' ⟨rfl, rfl⟩)
          go_ret2
          exact ⟨by rw [HTI.out, HF.out]; rfl, hna.trans ha5⟩
        · have HF := hide (show F = 0 by rw [HTF2.out]; unfold momF; rw [hm]; rfl)
          have hb := outB_false.1 (show outB at_ 0 lastMo = false by unfold momB at hm; simpa using hm)
          unfold lastMo at hb
          go_wp2_with (first
            | (go_at_call 80; refine (w_Moment _ _).mono ?_; rintro e w' ⟨rfl, rfl⟩)
            | (go_at_call 99; refine (w_TimeD g0 lo a.ka a.kc a.knots at_ _ (by rw [HKN.out]; exact e4) (Nat.lt_of_lt_of_le hgw ha5.sz) (HK.out _ ha5) HOK.out hb).mono ?_; rintro e w6 ⟨rfl, hn6⟩))
          go_ret2
          exact ⟨by rw [HTI.out, HF.out]; rfl, hna.trans (ha5.trans hn6)⟩
      · have tz : (roadsF ps [a] [] != 0) = true := by simpa using hz
        have HF := hide (HTF.out.trans (if_neg hz))
        have HZ := hide hz
        clear hz
        go_wp2_with fail
        go_ret2
        exact ⟨by rw [HTI.out, HF.out, if_neg HZ.out]; rfl, hna.trans ha5⟩
end Go.Proofs.YtepbamacebjopaaGreatDoor
/- Plain: TimeOn at an arc of right roads. -/
namespace Go.Proofs.YtepbamacebjopaaGreatDoor

theorem lt_strLe {s q : ByteArray} (h : ltS q s) : strLe s q = false := by
  unfold strLe
  rw [Bool.or_eq_false_iff, Proofs.bytesLess_eq, Lib.toList_data, Lib.toList_data]
  unfold ltS at h
  refine ⟨decide_eq_false fun h2 => List.lt_irrefl _ (List.lt_trans h h2), ?_⟩
  rw [beq_eq_false_iff_ne]
  intro e
  rw [e] at h
  exact List.lt_irrefl _ h
end Go.Proofs.YtepbamacebjopaaGreatDoor
/- Plain: the nodes that are reached in a time. -/
namespace Go.Proofs.YtepbamacebjopaaGreatDoor

structure PairS where
  name : ByteArray
  val : ByteArray
instance : Inhabited PairS := ⟨⟨default, default⟩⟩
end Go.Proofs.YtepbamacebjopaaGreatDoor
/- Plain: what the laws of what must keep weigh: who leaves later, who is reached. -/
namespace Go.Proofs.YtepbamacebjopaaGreatDoor

theorem time_le {l : List Knot} (h : KOk l) (at_ : Int) : timeI l at_ ≤ 3600000 := by
  unfold timeI
  generalize ht : at_ % dayMs = t
  have htb : 0 ≤ t ∧ t ≤ 86399999 := by unfold dayMs at ht; omega
  obtain ⟨i, hi, h1, h2⟩ := seg_ex h htb.1
  rw [seg_of h hi h1 h2]
  have hab := after_bd h hi
  have hkb := h.bd i hi
  have haf : t < (afterK l i).at_ := by
    unfold afterK
    by_cases h3 : i + 1 < l.length
    · rw [if_pos h3]; exact h2 h3
    · rw [if_neg h3]; show t < dayMs; unfold dayMs; omega
  generalize afterK l i = y at *
  generalize l.getD i default = x at *
  unfold lineI
  have m1 : x.time * (y.at_ - t) ≤ 3600000 * (y.at_ - t) := Int.mul_le_mul_of_nonneg_right (by omega) (by omega)
  have m2 : y.time * (t - x.at_) ≤ 3600000 * (t - x.at_) := Int.mul_le_mul_of_nonneg_right (by omega) (by omega)
  have := Int.ediv_le_ediv (c := y.at_ - x.at_) (by omega) (show x.time * (y.at_ - t) + y.time * (t - x.at_) ≤ 3600000 * (y.at_ - x.at_) by omega)
  rw [Int.mul_ediv_cancel _ (by omega)] at this
  exact this
section
variable {g : Gph} {a : Nat} {at_ : Int}
theorem Trail.rch {l : List Nat} {t : Int} (h : Trail g a at_ l t) : ∃ k l', l = k :: l' ∧ Rch g a at_ k t := by
  induction h with
  | one k hk hf he => exact ⟨k, [], rfl, .start k hk hf he⟩
  | cons k i l t _ hi hf hb he ih =>
    obtain ⟨k', l', e, hr⟩ := ih
    injection e with e1 e2
    subst e1 e2
    exact ⟨i, k :: l, rfl, .step k i t hr hi hf hb he⟩
end
theorem gph_time {ns : List Node} {rs : List Arc} {bs : List Ban} (h : chk (arcF ns) none rs = 0) : ∀ k t, k < (gphOf ns rs bs).m → 0 ≤ t → (gphOf ns rs bs).out k t ≤ t + 3600000 := by
  intro k t hk _
  have := time_le (knotsF_chk (arc_right h hk).2.2.2) t
  show t + timeI (arcX rs k).knots t ≤ t + 3600000
  omega
end Go.Proofs.YtepbamacebjopaaGreatDoor
/- Plain: roads without some arcs; by which arcs one can come to a node. -/
namespace Go.Proofs.YtepbamacebjopaaGreatDoor

/-- What is left when some arcs are gone. -/
def lessA (rs : List Arc) (g : ByteArray → Bool) : List Arc := rs.filter fun a => !g a.key
def lessB (bs : List Ban) (g : ByteArray → Bool) : List Ban := bs.filter fun b => !g b.from_ && !g b.to_
theorem chk_mk {α : Type} {F : Option α → α → Int} {Q : α → Prop} {lt : α → α → Prop} (h0 : ∀ x, Q x → F none x = 0) (h1 : ∀ q x, Q x → lt q x → F (some q) x = 0) : ∀ (l : List α) (p : Option α), (∀ x ∈ l, Q x) → l.Pairwise lt → (∀ q, p = some q → ∀ x ∈ l, lt q x) → chk F p l = 0
  | [], _, _, _, _ => rfl
  | x :: l, p, hQ, hP, hp => by
    have hx : F p x = 0 := by
      cases p with
      | none => exact h0 x (hQ x (by simp))
      | some q => exact h1 q x (hQ x (by simp)) (hp q rfl x (by simp))
    obtain ⟨p1, p2⟩ := List.pairwise_cons.1 hP
    unfold chk
    rw [if_pos hx]
    exact chk_mk h0 h1 l (some x) (fun y hy => hQ y (List.mem_cons_of_mem _ hy)) p2 (fun q e y hy => by
      injection e with e
      subst e
      exact p1 y hy)
section
variable {ns : List Node} {rs : List Arc} {bs : List Ban} {g : ByteArray → Bool}
theorem lessA_mem {x : Arc} : x ∈ lessA rs g ↔ x ∈ rs ∧ g x.key = false := by
  unfold lessA
  rw [List.mem_filter]
  simp
theorem lessB_mem {x : Ban} : x ∈ lessB bs g ↔ x ∈ bs ∧ g x.from_ = false ∧ g x.to_ = false := by
  unfold lessB
  rw [List.mem_filter]
  simp
theorem lessA_len : (lessA rs g).length ≤ rs.length := List.length_filter_le _ _
theorem lessB_len : (lessB bs g).length ≤ bs.length := List.length_filter_le _ _
theorem less_chkA (h : chk (arcF ns) none rs = 0) : chk (arcF ns) none (lessA rs g) = 0 := by
  have hQ := chk_all (F := arcF ns) (Q := fun a => keyB a.key = true ∧ arcG ns a = 0) (fun p x hx => arcF_ok hx) rs none h
  refine chk_mk (F := arcF ns) (Q := fun a => keyB a.key = true ∧ arcG ns a = 0) (lt := fun a b => ltS a.key b.key) (fun x hx => ?_) (fun q x hx hl => ?_) _ none (fun x hx => hQ x (lessA_mem.1 hx).1) ((sortA_of h).filter _) (fun q e => by cases e)
  · unfold arcF
    rw [hx.1, if_pos rfl]
    exact hx.2
  · unfold arcF
    rw [hx.1, if_pos rfl]
    show (if strLe x.key q.key = true then (7 : Int) else arcG ns x) = 0
    rw [lt_strLe hl, if_neg (by simp)]
    exact hx.2
theorem less_ban {s t : ByteArray} (hs : g s = false) (ht : g t = false) : bannedB (lessB bs g) s t = bannedB bs s t := by
  unfold bannedB
  rw [Bool.eq_iff_iff, List.any_eq_true, List.any_eq_true]
  constructor
  · rintro ⟨b, hb, h⟩
    exact ⟨b, (lessB_mem.1 hb).1, h⟩
  · rintro ⟨b, hb, h⟩
    refine ⟨b, lessB_mem.2 ⟨hb, ?_⟩, h⟩
    rw [Bool.and_eq_true, decide_eq_true_eq, decide_eq_true_eq] at h
    rw [h.1, h.2]
    exact ⟨hs, ht⟩
end
/-- One can drive onto an arc, over some arcs. -/
inductive APth (ns : List Node) (P : Arc → Prop) (ban : Arc → Arc → Bool) (a : Nat) : Arc → Nat → Prop
  | one (x : Arc) : P x → nodeN ns x.from_ = a → APth ns P ban a x 1
  | cons (x y : Arc) (n : Nat) : APth ns P ban a x n → P y → nodeN ns y.from_ = nodeN ns x.to_ → ban x y = false → APth ns P ban a y (n + 1)
def banA (bs : List Ban) (x y : Arc) : Bool := bannedB bs x.key y.key
theorem APth.mem {ns : List Node} {P : Arc → Prop} {ban : Arc → Arc → Bool} {a : Nat} {x : Arc} {n : Nat} (h : APth ns P ban a x n) : P x := by cases h <;> assumption
theorem APth.conv {ns : List Node} {P P' : Arc → Prop} {ban ban' : Arc → Arc → Bool} {a : Nat} (hP : ∀ x, P x → P' x) (hb : ∀ x y, P x → P y → ban' x y = ban x y) {x : Arc} {n : Nat} (h : APth ns P ban a x n) : APth ns P' ban' a x n := by
  induction h with
  | one x hx hf => exact .one x (hP x hx) hf
  | cons x y n hx hy hf hban ih => exact .cons x y n ih (hP y hy) hf (by rw [hb x y hx.mem hy]; exact hban)
section
variable {ns : List Node} {rs : List Arc} {bs : List Ban} {a b : Nat}
theorem rch_pth {at_ : Int} {k : Nat} {t : Int} (h : Rch (gphOf ns rs bs) a at_ k t) : ∃ n, APth ns (· ∈ rs) (banA bs) a (arcX rs k) n := by
  induction h with
  | start k hk hf _ => exact ⟨1, .one _ (arcX_mem hk) hf⟩
  | step k i t _ hi hf hb _ ih =>
    obtain ⟨n, hn⟩ := ih
    exact ⟨n + 1, .cons _ _ n hn (arcX_mem hi) hf hb⟩
theorem pth_rch (hC : chk (arcF ns) none rs = 0) {x : Arc} {n : Nat} (h : APth ns (· ∈ rs) (banA bs) a x n) : n ≤ 1000 → ∃ k t, k < rs.length ∧ arcX rs k = x ∧ Rch (gphOf ns rs bs) a 0 k t ∧ 0 ≤ t ∧ t ≤ (n : Int) * 3600000 := by
  have hT := gph_time (ns := ns) (bs := bs) hC
  have hG := gph_ok (bs := bs) hC
  induction h with
  | one x hx hf =>
    intro _
    obtain ⟨k, hk, e⟩ := List.mem_iff_getElem.1 hx
    have e' : arcX rs k = x := (arcX_get hk).trans e
    have t1 := hT k 0 hk (Int.le_refl _)
    have t2 := hG.gt k 0 hk (Int.le_refl _)
    refine ⟨k, _, hk, e', .start k hk (by rw [← e'] at hf; exact hf) (by unfold endT; omega), by omega, by omega⟩
  | cons x y n hx hy hf hb ih =>
    intro hn
    obtain ⟨k, t, hk, e, hr, h0, ht⟩ := ih (by omega)
    obtain ⟨i, hi, ei⟩ := List.mem_iff_getElem.1 hy
    have e' : arcX rs i = y := (arcX_get hi).trans ei
    have t1 := hT i t hi h0
    have t2 := hG.gt i t hi h0
    refine ⟨i, _, hi, e', .step k i t hr hi ?_ ?_ (by unfold endT; omega), by omega, by omega⟩
    · show nodeN ns (arcX rs i).from_ = nodeN ns (arcX rs k).to_
      rw [e, e']; exact hf
    · show bannedB bs (arcX rs k).key (arcX rs i).key = false
      rw [e, e']; exact hb
theorem arr_to (hC : chk (arcF ns) none rs = 0) (ha : a < ns.length) (hb : b < ns.length) (h : arrG (gphOf ns rs bs) a b 0 < endT) : a = b ∨ ∃ x n, APth ns (· ∈ rs) (banA bs) a x n ∧ nodeN ns x.to_ = b := by
  rcases arrG_ok (gph_ok (bs := bs) hC) (Int.le_refl 0) ha hb with ⟨e, _⟩ | ⟨_, ⟨e, _⟩ | ⟨k, e, hr, _⟩⟩
  · exact .inl e
  · omega
  · obtain ⟨n, hn⟩ := rch_pth hr
    exact .inr ⟨_, n, hn, e⟩
theorem arr_of (hC : chk (arcF ns) none rs = 0) (ha : a < ns.length) (hb : b < ns.length) (h : a = b ∨ ∃ x n, APth ns (· ∈ rs) (banA bs) a x n ∧ n ≤ 1000 ∧ nodeN ns x.to_ = b) : arrG (gphOf ns rs bs) a b 0 < endT := by
  have hG := gph_ok (bs := bs) hC
  rcases h with rfl | ⟨x, n, hp, hn, e⟩
  · rw [arrG_self hG (Int.le_refl _) ha]
    unfold endT
    omega
  · obtain ⟨k, t, hk, ex, hr, _, _⟩ := pth_rch hC hp hn
    rcases arrG_ok hG (Int.le_refl 0) ha hb with ⟨_, e2⟩ | ⟨_, ⟨_, hno⟩ | ⟨k2, _, hr2, _⟩⟩
    · rw [e2]; unfold endT; omega
    · exact absurd (show (gphOf ns rs bs).to_ k = b by show nodeN ns (arcX rs k).to_ = b; rw [ex]; exact e) (hno k t hr)
    · exact (hr2.ge hG (Int.le_refl _)).2
end
end Go.Proofs.YtepbamacebjopaaGreatDoor
/- Plain: some way between nodes, found arc by arc; arcs that each way has. -/
namespace Go.Proofs.YtepbamacebjopaaGreatDoor

theorem nodupN_lt : ∀ (m : Nat) (l : List Nat), l.Nodup → (∀ x ∈ l, x < m) → l.length ≤ m
  | 0, l, _, h => by
    cases l with
    | nil => exact Nat.le_refl _
    | cons x l => exact absurd (h x (by simp)) (by omega)
  | m + 1, l, hn, h => by
    by_cases hm : m ∈ l
    · have h1 := nodupN_lt m (l.erase m) (hn.erase m) (fun x hx => by
        obtain ⟨h2, h3⟩ := (hn.mem_erase_iff).1 hx
        have := h x h3
        omega)
      rw [List.length_erase_of_mem hm] at h1
      omega
    · have h1 := nodupN_lt m l hn (fun x hx => by
        have := h x hx
        have : x ≠ m := fun e => hm (e ▸ hx)
        omega)
      omega
theorem getD_mem {l : List Nat} {i : Nat} (h : i < l.length) : l.getD i 0 ∈ l := by
  rw [List.getD_eq_getElem?_getD, List.getElem?_eq_getElem h]
  exact List.getElem_mem h
theorem mem_at {l : List Nat} {x : Nat} (h : x ∈ l) : ∃ i, i < l.length ∧ l.getD i 0 = x := by
  obtain ⟨i, hi, e⟩ := List.mem_iff_getElem.1 h
  exact ⟨i, hi, by rw [List.getD_eq_getElem?_getD, List.getElem?_eq_getElem hi]; exact e⟩
theorem getD_app {l : List Nat} {k i : Nat} (h : i < l.length) : (l ++ [k]).getD i 0 = l.getD i 0 := by
  rw [List.getD_eq_getElem?_getD, List.getElem?_append_left h, ← List.getD_eq_getElem?_getD]
theorem getD_new (l : List Nat) (k : Nat) : (l ++ [k]).getD l.length 0 = k := by
  rw [List.getD_eq_getElem?_getD, List.getElem?_append_right (Nat.le_refl _)]
  simp
/-- Behind which arc an arc may stand. -/
def Bef (g : Gph) (a : Nat) (v : List Nat) (k : Nat) (p : Int) : Prop := (p = -1 ∧ g.from_ k = a) ∨ ∃ j, j < v.length ∧ p = ((v.getD j 0 : Nat) : Int) ∧ g.from_ k = g.to_ (v.getD j 0) ∧ g.ban (v.getD j 0) k = false
/-- Arcs that are found, in order. -/
structure Bfs (g : Gph) (a : Nat) (w : Int) (v : List Nat) (f : Nat → Option Int) : Prop where
  nodup : v.Nodup
  lt : ∀ k ∈ v, k < g.m ∧ (k : Int) ≠ w
  dom : ∀ k, k ∈ v ↔ f k ≠ none
  back : ∀ i, i < v.length → ∃ p, f (v.getD i 0) = some p ∧ Bef g a (v.take i) (v.getD i 0) p
section
variable {g : Gph} {a : Nat} {w : Int} {v : List Nat} {f : Nat → Option Int}
theorem Bfs.nil : Bfs g a w [] (fun _ => none) := ⟨List.nodup_nil, fun k h => absurd h (by simp), fun k => by simp, fun i h => absurd h (by simp)⟩
theorem Bfs.len (h : Bfs g a w v f) : v.length ≤ g.m := nodupN_lt _ _ h.nodup (fun x hx => (h.lt x hx).1)
theorem Bfs.add (h : Bfs g a w v f) {k : Nat} {p : Int} (hk : k < g.m) (hw : (k : Int) ≠ w) (hn : f k = none) (hb : Bef g a v k p) : Bfs g a w (v ++ [k]) (fun x => if x = k then some p else f x) := by
  have hnot : k ∉ v := fun e => (h.dom k).1 e hn
  refine ⟨?_, fun x hx => ?_, fun x => ?_, fun i hi => ?_⟩
  · rw [List.nodup_append]
    exact ⟨h.nodup, by simp, fun x hx y hy e => by
      rw [List.mem_singleton] at hy
      exact hnot (hy ▸ e ▸ hx)⟩
  · rcases List.mem_append.1 hx with hx | hx
    · exact h.lt x hx
    · rw [List.mem_singleton.1 hx]; exact ⟨hk, hw⟩
  · rw [List.mem_append, List.mem_singleton]
    by_cases e : x = k
    · simp [e]
    · rw [if_neg e, ← h.dom x]
      simp [e]
  · rw [List.length_append, List.length_singleton] at hi
    rcases Nat.lt_or_ge i v.length with h1 | h1
    · obtain ⟨p', e1, e2⟩ := h.back i h1
      rw [getD_app h1]
      have hne : v.getD i 0 ≠ k := fun e => hnot (e ▸ getD_mem h1)
      refine ⟨p', by rw [if_neg hne]; exact e1, ?_⟩
      rw [List.take_append_of_le_length (by omega)]
      exact e2
    · obtain rfl : i = v.length := by omega
      rw [getD_new]
      refine ⟨p, by rw [if_pos rfl], ?_⟩
      rw [List.take_append_of_le_length (Nat.le_refl _), List.take_length]
      exact hb
/-- The arcs behind each other, back to the start. -/
inductive PChain (f : Nat → Option Int) : Int → List Nat → Prop
  | nil : PChain f (-1) []
  | cons (k : Nat) (p : Int) (l : List Nat) : f k = some p → PChain f p l → PChain f (k : Int) (k :: l)
end
section
variable {ns : List Node} {rs : List Arc} {bs : List Ban} {a b : Nat} {w : Int} {v : List Nat} {f : Nat → Option Int}
/-- A way: its arcs, the last one first. -/
structure WayIs (ns : List Node) (rs : List Arc) (bs : List Ban) (a b : Nat) (w : Int) (l : List Nat) : Prop where
  lt : ∀ k ∈ l, k < rs.length ∧ (k : Int) ≠ w
  len : l.length ≤ rs.length
  path : ∃ x, APth ns (fun x => ∃ k, k ∈ l ∧ arcX rs k = x) (banA bs) a x l.length ∧ nodeN ns x.to_ = b
theorem Bfs.chain (h : Bfs (gphOf ns rs bs) a w v f) : ∀ i, i < v.length → ∃ l, PChain f ((v.getD i 0 : Nat) : Int) l ∧ l.length ≤ i + 1 ∧ (∀ k ∈ l, k ∈ v) ∧ APth ns (fun x => ∃ k, k ∈ l ∧ arcX rs k = x) (banA bs) a (arcX rs (v.getD i 0)) l.length := by
  intro i
  induction i using Nat.strongRecOn with
  | ind i ih =>
    intro hi
    obtain ⟨p, e, hb⟩ := h.back i hi
    rcases hb with ⟨rfl, hf⟩ | ⟨j, hj, rfl, hf, hban⟩
    · refine ⟨[v.getD i 0], .cons _ _ _ e .nil, by simp, fun k hk => by rw [List.mem_singleton.1 hk]; exact getD_mem hi, ?_⟩
      exact .one _ ⟨_, by simp, rfl⟩ hf
    · rw [List.length_take] at hj
      have hji : j < i := by omega
      have ej : (v.take i).getD j 0 = v.getD j 0 := by
        rw [List.getD_eq_getElem?_getD, List.getElem?_take_of_lt hji, ← List.getD_eq_getElem?_getD]
      rw [ej] at e hf hban
      obtain ⟨l, c1, c2, c3, c4⟩ := ih j hji (by omega)
      refine ⟨v.getD i 0 :: l, .cons _ _ _ e c1, by rw [List.length_cons]; omega, fun k hk => ?_, ?_⟩
      · rcases List.mem_cons.1 hk with rfl | hk
        · exact getD_mem hi
        · exact c3 k hk
      · exact .cons _ _ _ (c4.conv (fun x hx => by
          obtain ⟨k, hk, e⟩ := hx
          exact ⟨k, List.mem_cons_of_mem _ hk, e⟩) (fun _ _ _ _ => rfl)) ⟨_, by simp, rfl⟩ hf hban
theorem Bfs.way (h : Bfs (gphOf ns rs bs) a w v f) {i : Nat} (hi : i < v.length) (hb : nodeN ns (arcX rs (v.getD i 0)).to_ = b) : ∃ l, PChain f ((v.getD i 0 : Nat) : Int) l ∧ WayIs ns rs bs a b w l := by
  obtain ⟨l, c1, c2, c3, c4⟩ := h.chain i hi
  have := h.len
  have hm : (gphOf ns rs bs).m = rs.length := rfl
  exact ⟨l, c1, fun k hk => h.lt k (c3 k hk), by omega, _, c4, hb⟩
/-- Nothing is left to be found. -/
structure Closed (g : Gph) (a : Nat) (w : Int) (v : List Nat) : Prop where
  start : ∀ k, k < g.m → g.from_ k = a → (k : Int) ≠ w → k ∈ v
  step : ∀ i ∈ v, ∀ k, k < g.m → g.from_ k = g.to_ i → g.ban i k = false → (k : Int) ≠ w → k ∈ v
/-- There is a way, without an arc (-1: with all). -/
def connP (ns : List Node) (rs : List Arc) (bs : List Ban) (a b : Nat) (w : Int) : Prop := ∃ x n, APth ns (fun x => ∃ k, k < rs.length ∧ (k : Int) ≠ w ∧ arcX rs k = x) (banA bs) a x n ∧ nodeN ns x.to_ = b
theorem Closed.all (h : Closed (gphOf ns rs bs) a w v) {x : Arc} {n : Nat} (hp : APth ns (fun x => ∃ k, k < rs.length ∧ (k : Int) ≠ w ∧ arcX rs k = x) (banA bs) a x n) : ∃ k, k ∈ v ∧ arcX rs k = x := by
  induction hp with
  | one x hx hf =>
    obtain ⟨k, hk, hw, rfl⟩ := hx
    exact ⟨k, h.start k hk hf hw, rfl⟩
  | cons x y n _ hy hf hban ih =>
    obtain ⟨i, hi, rfl⟩ := ih
    obtain ⟨k, hk, hw, rfl⟩ := hy
    exact ⟨k, h.step i hi k hk hf hban hw, rfl⟩
theorem Closed.none (h : Closed (gphOf ns rs bs) a w v) (hb : ∀ k ∈ v, nodeN ns (arcX rs k).to_ ≠ b) : ¬ connP ns rs bs a b w := by
  rintro ⟨x, n, hp, e⟩
  obtain ⟨k, hk, rfl⟩ := h.all hp
  exact hb k hk e
theorem WayIs.conn {l : List Nat} (h : WayIs ns rs bs a b w l) : connP ns rs bs a b w := by
  obtain ⟨x, hp, e⟩ := h.path
  refine ⟨x, _, hp.conv (fun y hy => ?_) (fun _ _ _ _ => rfl), e⟩
  obtain ⟨k, hk, ek⟩ := hy
  exact ⟨k, (h.lt k hk).1, (h.lt k hk).2, ek⟩
/-- An arc that is not on a way is not needed. -/
theorem WayIs.other {l : List Nat} (h : WayIs ns rs bs a b w l) {k : Nat} (hk : k ∉ l) : connP ns rs bs a b k := by
  obtain ⟨x, hp, e⟩ := h.path
  refine ⟨x, _, hp.conv (fun y hy => ?_) (fun _ _ _ _ => rfl), e⟩
  obtain ⟨j, hj, ej⟩ := hy
  refine ⟨j, (h.lt j hj).1, fun e => hk ?_, ej⟩
  have : j = k := by omega
  exact this ▸ hj
theorem bfs_ex (g : Gph) (a : Nat) (w : Int) : ∀ (d : Nat) (v : List Nat) (f : Nat → Option Int), g.m - v.length = d → Bfs g a w v f → ∃ v' f', Bfs g a w v' f' ∧ Closed g a w v' := by
  intro d
  induction d using Nat.strongRecOn with
  | ind d ih =>
    intro v f hd h
    by_cases hc : Closed g a w v
    · exact ⟨v, f, h, hc⟩
    · have hex : ∃ k p, k < g.m ∧ (k : Int) ≠ w ∧ k ∉ v ∧ Bef g a v k p := by
        refine Classical.byContradiction fun hno => hc ⟨fun k hk hf hw => ?_, fun i hi k hk hf hb hw => ?_⟩
        · exact Classical.byContradiction fun hv => hno ⟨k, -1, hk, hw, hv, .inl ⟨rfl, hf⟩⟩
        · refine Classical.byContradiction fun hv => ?_
          obtain ⟨j, hj, e⟩ := mem_at hi
          exact hno ⟨k, _, hk, hw, hv, .inr ⟨j, hj, rfl, by rw [e]; exact hf, by rw [e]; exact hb⟩⟩
      obtain ⟨k, p, hk, hw, hv, hb⟩ := hex
      have hn : f k = none := by
        cases hf : f k with
        | none => rfl
        | some z => exact absurd ((h.dom k).2 (by rw [hf]; simp)) hv
      have h2 := h.add hk hw hn hb
      have hl := h2.len
      rw [List.length_append, List.length_singleton] at hl
      exact ih (g.m - (v ++ [k]).length) (by rw [List.length_append, List.length_singleton]; omega) _ _ rfl h2
theorem conn_way (h : connP ns rs bs a b w) : ∃ l, WayIs ns rs bs a b w l := by
  obtain ⟨v, f, hB, hC⟩ := bfs_ex (gphOf ns rs bs) a w _ [] _ rfl Bfs.nil
  obtain ⟨x, n, hp, e⟩ := h
  obtain ⟨k, hk, rfl⟩ := hC.all hp
  obtain ⟨i, hi, rfl⟩ := mem_at hk
  obtain ⟨l, _, hW⟩ := hB.way hi e
  exact ⟨l, hW⟩
theorem arc_ix {x : Arc} : x ∈ rs ↔ ∃ k, k < rs.length ∧ arcX rs k = x := by
  constructor
  · intro h
    obtain ⟨k, hk, e⟩ := List.mem_iff_getElem.1 h
    exact ⟨k, hk, (arcX_get hk).trans e⟩
  · rintro ⟨k, hk, rfl⟩
    exact arcX_mem hk
/-- There is a way iff one comes there. -/
theorem all_conn (hC : chk (arcF ns) none rs = 0) (hal : rs.length ≤ 400) (ha : a < ns.length) (hb : b < ns.length) : arrG (gphOf ns rs bs) a b 0 < endT ↔ a = b ∨ connP ns rs bs a b (-1) := by
  constructor
  · intro h
    rcases arr_to hC ha hb h with e | ⟨x, n, hp, e⟩
    · exact .inl e
    · refine .inr ⟨x, n, hp.conv (fun y hy => ?_) (fun _ _ _ _ => rfl), e⟩
      obtain ⟨k, hk, ek⟩ := arc_ix.1 hy
      exact ⟨k, hk, by omega, ek⟩
  · rintro (e | h)
    · exact arr_of hC ha hb (.inl e)
    · obtain ⟨l, hW⟩ := conn_way h
      obtain ⟨x, hp, e⟩ := hW.path
      have := hW.len
      refine arr_of hC ha hb (.inr ⟨x, _, hp.conv (fun y hy => ?_) (fun _ _ _ _ => rfl), by omega, e⟩)
      obtain ⟨k, hk, ek⟩ := hy
      exact arc_ix.2 ⟨k, (hW.lt k hk).1, ek⟩
/-- Without an arc there is a way iff one comes there on the roads without it. -/
theorem less_conn (hC : chk (arcF ns) none rs = 0) (hal : rs.length ≤ 400) (ha : a < ns.length) (hb : b < ns.length) {k : Nat} (hk : k < rs.length) {g : ByteArray → Bool} (hg : ∀ s, g s = decide (s = (arcX rs k).key)) : arrG (gphOf ns (lessA rs g) (lessB bs g)) a b 0 < endT ↔ a = b ∨ connP ns rs bs a b k := by
  have hC' : chk (arcF ns) none (lessA rs g) = 0 := less_chkA hC
  have hmem : ∀ y, y ∈ lessA rs g ↔ ∃ j, j < rs.length ∧ (j : Int) ≠ (k : Int) ∧ arcX rs j = y := by
    intro y
    rw [lessA_mem]
    constructor
    · rintro ⟨h1, h2⟩
      obtain ⟨j, hj, rfl⟩ := arc_ix.1 h1
      refine ⟨j, hj, fun e => ?_, rfl⟩
      have : j = k := by omega
      subst this
      rw [hg] at h2
      simp at h2
    · rintro ⟨j, hj, hne, rfl⟩
      refine ⟨arcX_mem hj, ?_⟩
      rw [hg, decide_eq_false_iff_not]
      intro e
      have h1 := arc_at (sortA_of hC) hj
      have h2 := arc_at (sortA_of hC) hk
      rw [show (rs.getD j default).key = (rs.getD k default).key from e, h2] at h1
      exact hne h1.symm
  have hban : ∀ x y, x ∈ lessA rs g → y ∈ lessA rs g → banA (lessB bs g) x y = banA bs x y := fun x y hx hy => less_ban (lessA_mem.1 hx).2 (lessA_mem.1 hy).2
  constructor
  · intro h
    rcases arr_to hC' ha hb h with e | ⟨x, n, hp, e⟩
    · exact .inl e
    · exact .inr ⟨x, n, hp.conv (fun y hy => (hmem y).1 hy) (fun y z hy hz => (hban y z hy hz).symm), e⟩
  · rintro (e | h)
    · exact arr_of hC' ha hb (.inl e)
    · obtain ⟨l, hW⟩ := conn_way h
      obtain ⟨x, hp, e⟩ := hW.path
      have := hW.len
      have hml : ∀ y, (∃ j, j ∈ l ∧ arcX rs j = y) → y ∈ lessA rs g := fun y hy => by
        obtain ⟨j, hj, ej⟩ := hy
        exact (hmem y).2 ⟨j, (hW.lt j hj).1, (hW.lt j hj).2, ej⟩
      exact arr_of hC' ha hb (.inr ⟨x, _, hp.conv hml (fun y z hy hz => hban y z (hml y hy) (hml z hz)), by omega, e⟩)
end
end Go.Proofs.YtepbamacebjopaaGreatDoor
/- Queues of numbers: a row of one's own whose head is taken off, and that grows at its end. Of no program. -/
namespace Go.Proofs.YtepbamacebjopaaGreatDoor
open Go.RowKit

/-- What is left of a row of one's own behind what was taken off its head. -/
def QIs (w : World) (base : Nat) (e : TypeId) (A : Option Addr) (c : Nat) (l : List Int) : Prop :=
  (A = none ∧ l = [] ∧ c = 0) ∨ ∃ g off cs, A = some ⟨g, off, none⟩ ∧ base ≤ g ∧ l.length ≤ c ∧ w.heap[g]? = some (.cells cs e (0, 0)) ∧ off + c ≤ cs.size ∧ ∀ i x, l[i]? = some x → cs[off + i]? = some (.int .i64 x)
/-- The block in which it lies. -/
def blkOf (A : Option Addr) : Option Nat := A.map (·.block)
section
variable {w w' : World} {base : Nat} {e : TypeId} {A : Option Addr} {c : Nat} {l : List Int}
theorem QIs.nil : QIs w base e none 0 [] := .inl ⟨rfl, rfl, rfl⟩
theorem QIs.ge (h : QIs w base e A c l) : ∀ k, blkOf A = some k → base ≤ k := by
  intro k hk
  rcases h with ⟨rfl, _, _⟩ | ⟨g, off, cs, rfl, hb, _⟩
  · cases hk
  · injection hk with hk
    exact hk ▸ hb
theorem QIs.lt (h : QIs w base e A c l) : ∀ k, blkOf A = some k → k < w.heap.size := by
  intro k hk
  rcases h with ⟨rfl, _, _⟩ | ⟨g, off, cs, rfl, _, _, hh, _⟩
  · cases hk
  · injection hk with hk
    exact hk ▸ (Array.getElem?_eq_some_iff.1 hh).1
theorem QIs.kept {row : Option Nat} (h : QIs w base e A c l) (hg : w.grownBy w' row) (hne : ∀ k, blkOf A = some k → row ≠ some k) : QIs w' base e A c l := by
  rcases h with h | ⟨g, off, cs, rfl, h1, h2, h3, h4, h5⟩
  · exact .inl h
  · exact .inr ⟨g, off, cs, rfl, h1, h2, (hg.block g (Array.getElem?_eq_some_iff.1 h3).1 (fun e => hne g rfl e.symm)).trans h3, h4, h5⟩
theorem QIs.nx (h : QIs w base e A c l) (hn : Nx w w') : QIs w' base e A c l := h.kept (hn.gr none) (fun _ _ => by simp)
theorem QIs.gr {s : Nat} (h : QIs w base e A c l) (hn : Gr s w w') (hs : s < base) : QIs w' base e A c l := h.kept (row := some s) hn (fun k hk e => by
  injection e with e
  have := h.ge k hk
  omega)
theorem QIs.head {x : Int} (h : QIs w base e A c (x :: l)) : ∃ g off, A = some ⟨g, off, none⟩ ∧ w.cell? ⟨g, off, none⟩ = some (.int .i64 x) ∧ g < w.heap.size ∧ l.length + 1 ≤ c := by
  rcases h with ⟨_, h, _⟩ | ⟨g, off, cs, rfl, h1, h2, h3, h4, h5⟩
  · cases h
  · exact ⟨g, off, rfl, (cell_of_row w g off _ _ _ h3).trans (h5 0 x rfl), (Array.getElem?_eq_some_iff.1 h3).1, h2⟩
theorem QIs.tail {x : Int} {g off : Nat} (h : QIs w base e (some ⟨g, off, none⟩) c (x :: l)) : QIs w base e (some ⟨g, off + 1, none⟩) (c - 1) l ∧ (c - 1 = 0 → QIs w base e (some ⟨g, off, none⟩) 0 l) := by
  rcases h with ⟨h, _, _⟩ | ⟨g', off', cs, h0, h1, h2, h3, h4, h5⟩
  · cases h
  · injection h0 with h0
    injection h0 with e1 e2
    subst e1 e2
    rw [List.length_cons] at h2
    refine ⟨.inr ⟨g, off + 1, cs, rfl, h1, by omega, h3, by omega, fun i y hy => ?_⟩, fun hc => .inr ⟨g, off, cs, rfl, h1, by omega, h3, by omega, fun i y hy => ?_⟩⟩
    · have := h5 (i + 1) y (by simpa using hy)
      rw [show off + 1 + i = off + (i + 1) by omega]
      exact this
    · have : i < l.length := (List.getElem?_eq_some_iff.1 hy).1
      omega
theorem QIs.of_own {v : Value} {n : Nat} (h : w.ownsRow base e 1 v n (l.map (Value.int .i64))) : ∃ A c, v = .slice A l.length c ∧ QIs w base e A c l := by
  have hl : l.length = n := by have := h.1; rw [List.length_map] at this; omega
  rcases h.2 with ⟨rfl, h0⟩ | ⟨g, cap, cur, rfl, h1, h2, h3, h4, h5, h6⟩
  · have : l = [] := List.eq_nil_of_length_eq_zero (by omega)
    subst this
    exact ⟨none, 0, rfl, QIs.nil⟩
  · refine ⟨some ⟨g, 0, none⟩, cap, by rw [hl], .inr ⟨g, 0, cur, rfl, h1, by omega, h2, by omega, fun i x hx => ?_⟩⟩
    have hi : i < n := by have := (List.getElem?_eq_some_iff.1 hx).1; omega
    have e1 : (cur.toList.take (n * 1))[i]? = some (.int .i64 x) := by rw [h6, List.getElem?_map, hx]; rfl
    rw [List.getElem?_take_of_lt (by omega)] at e1
    rw [Nat.zero_add, ← Array.getElem?_toList]
    exact e1
end
/-- One more at the end: in its own spare cells, or in a new row. -/
theorem wpQApp {P : Program} {w : World} {ops : Array Oper} {rest : List Oper} {o : Oper} {a : Act} {Q : Exit → Act → World → Prop} (hgd : o.guard = none) (s x : Operand) (t : TypeId)
    (ho : o.op = .call { callee := .builtin .append, args := #[s, x], argTypes := #[t, t] })
    {e : TypeId} {bytes : Nat} (E : ElemOf P t e 1 bytes) (hB : bytes ≤ 1000) (base : Nat) (A : Option Addr) (c : Nat) (l : List Int) (hs : a.eval s = .slice A l.length c) (hq : QIs w base e A c l) (G : Nat) (y : Int) (hx : a.eval x = .slice (some ⟨G, 0, none⟩) 1 1)
    (hblk : w.heap[G]? = some (.cells #[.int .i64 y] e (0, 0))) (hlen : l.length ≤ 10000000) (hbase : base ≤ w.heap.size)
    (h : ∀ A' c' w', QIs w' base e A' c' (l ++ [y]) → w.grownBy w' (blkOf A) → (blkOf A' = blkOf A ∨ ∀ k, blkOf A' = some k → w.heap.size ≤ k) → wpList P ops Q rest (a.put o.dst (.slice A' (l.length + 1) c')) w') : wpList P ops Q (o :: rest) a w := by
  obtain ⟨i, z, h1, h2, h3, h4, h5⟩ := E.hi
  have hby : (l.length + 1) * bytes ≤ 140737488355328 := by
    have : (l.length + 1) * bytes ≤ 10000001 * 1000 := Nat.mul_le_mul (by omega) hB
    omega
  have hnews : ∀ j u, [Value.int .i64 y][j]? = some u → w.cell? ((⟨G, 0, none⟩ : Addr).add j) = some u := news_of hblk rfl
  have hone : ∀ u ∈ [Value.int .i64 y], u.oneCell' = true := by intro u hu; rw [List.mem_singleton.1 hu]; rfl
  have hgrow : ∀ v' w', w'.ownsRow w.heap.size e 1 v' (l.length + 1) (l.map (Value.int .i64) ++ [.int .i64 y]) → w.grownBy w' none → wpList P ops Q rest (a.put o.dst v') w' := by
    intro v' w' hown hg
    rw [show l.map (Value.int .i64) ++ [Value.int .i64 y] = (l ++ [y]).map (Value.int .i64) by rw [List.map_append]; rfl] at hown
    obtain ⟨A', c', rfl, hq'⟩ := QIs.of_own hown
    have hq2 : QIs w' base e A' c' (l ++ [y]) := by
      rcases hq' with h | ⟨g, off, cs, rfl, k1, k2, k3, k4, k5⟩
      · exact .inl h
      · exact .inr ⟨g, off, cs, rfl, by omega, k2, k3, k4, k5⟩
    have := h A' c' w' hq2 ⟨hg.os, hg.tape, hg.output, hg.size, fun k hk _ => hg.block k hk (by simp)⟩ (.inr hq'.ge)
    rw [show (l ++ [y]).length = l.length + 1 by simp]
    exact this
  rcases hq with ⟨rfl, rfl, rfl⟩ | ⟨g, off, cs, rfl, k1, k2, k3, k4, k5⟩
  · refine wpList_append_grows w hgd s x t ho e i z 1 bytes E.ht h1 h2 h3 h4 h5 (by omega) none 0 0 [] hs (fun _ => ⟨rfl, rfl⟩) rfl (fun b hb => by cases hb) ⟨G, 0, none⟩ 1 1 [.int .i64 y] hx rfl hnews hone (by omega) (by unfold maxLen; omega) hby ?_
    exact hgrow
  · refine wpList_append_arg w hgd s x t ho e i z 1 bytes E.ht h1 h2 h3 h4 h5 (by omega) g off l.length c (l.map (Value.int .i64)) hs (by rw [List.length_map, Nat.mul_one]) (fun j u hj => ?_) ⟨G, 0, none⟩ 1 1 [.int .i64 y] hx rfl hnews hone (fun hr j hj => ?_) (by unfold maxLen; omega) hby (fun hr => ?_) (fun _ => hgrow)
    · rw [List.getElem?_map] at hj
      obtain ⟨q, hq, rfl⟩ := Option.map_eq_some_iff.1 hj
      exact (cell_of_row w g _ _ _ _ k3).trans (k5 j q hq)
    · have hj0 : j = 0 := by simpa using hj
      subst hj0
      refine ⟨?_, by simp [World.frozen?, k3]⟩
      have : w.cell? ⟨g, off + l.length * 1 + 0, none⟩ = cs[off + l.length * 1 + 0]? := cell_of_row w g _ _ _ _ k3
      rw [this, Array.getElem?_eq_getElem (by omega)]
      rfl
    · have hset : w.setCells g (off + l.length * 1) [.int .i64 y] = w.setCell ⟨g, off + l.length * 1, none⟩ (.int .i64 y) := rfl
      rw [hset]
      refine h (some ⟨g, off, none⟩) c _ (.inr ⟨g, off, _, rfl, k1, by rw [List.length_append]; simpa using hr, heap_set k3, by rw [Array.size_setIfInBounds]; exact k4, fun i q hq => ?_⟩) (Gr.setS (Gr.refl g w) (p := ⟨g, off + l.length * 1, none⟩) (Or.inl rfl) _) (.inl rfl)
      rw [Nat.mul_one, Array.getElem?_setIfInBounds]
      rcases Nat.lt_or_ge i l.length with hi | hi
      · rw [if_neg (by omega)]
        rw [List.getElem?_append_left hi] at hq
        exact k5 i q hq
      · have hi2 : i < (l ++ [y]).length := (List.getElem?_eq_some_iff.1 hq).1
        rw [List.length_append, List.length_singleton] at hi2
        obtain rfl : i = l.length := by omega
        rw [List.getElem?_append_right (Nat.le_refl _)] at hq
        have hq' : y = q := by simpa using hq
        rw [if_pos rfl, if_pos (by omega), hq']
end Go.Proofs.YtepbamacebjopaaGreatDoor
