/- Two strings, sorted already: the sort lets them be. -/
import Derived.Test.YtklgknepamebdaaGreatDoorQG2
import Derived.Test.YtklgknepamebdaaGreatDoorQShelfL
import Derived.Test.YtklgknepamebdaaGreatDoorQG4
import Derived.Deep.RegionWith
import Derived.Lib.SliceRun
import Derived.Test.YtklgknepamebdaaGreatDoorQG17
import Derived.Test.YtklgknepamebdaaGreatDoorQG6
import Derived.Test.YtklgknepamebdaaGreatDoorQG0
import Derived.Test.YtklgknepamebdaaGreatDoorQCheckR
import Derived.Test.YtklgknepamebdaaGreatDoorQRoadT
import Derived.Test.YtklgknepamebdaaGreatDoorQG8
import Derived.Below
namespace Go.Proofs.YtklgknepamebdaaGreatDoor
open Go.RowKit Go.Proofs Go.Shelf

def sX : ByteArray := ⟨#[120]⟩
def sY : ByteArray := ⟨#[121]⟩
theorem w_isNaNS (a : ByteArray) (w : World) : Calls Tryz.prog 209 #[.string a] w fun e w' => e = .returned (.bool false) ∧ w = w' := by
  go_enter Tryz.func209, Tryz.ntmps209
  go_wp2
  go_ret
  exact ⟨rfl, rfl⟩
theorem w_LessYX (w : World) : Calls Tryz.prog 169 #[.string sY, .string sX] w fun e w' => e = .returned (.bool false) ∧ w = w' := by
  have t1 : Op.bytesLess sY.toList sX.toList = false := by rw [Lib.toList_data, Lib.toList_data]; decide
  go_enter Tryz.func169, Tryz.ntmps169
  go_wp2_with (go_at_call 209; refine (w_isNaNS _ _).mono ?_; rintro e w' ⟨rfl, rfl⟩)
  go_ret
  exact ⟨rfl, rfl⟩
set_option maxRecDepth 100000 in
set_option maxHeartbeats 1000000 in
theorem w_insXY (g c : Nat) (w : World) (h0 : w.cell? ⟨g, 0, none⟩ = some (.string sX)) (h1 : w.cell? ⟨g, 1, none⟩ = some (.string sY)) :
    Calls Tryz.prog 219 #[.slice (some ⟨g, 0, none⟩) 2 c, .int .i64 0, .int .i64 2] w fun e w' => e = .returned (.tuple #[]) ∧ Nx w w' := by
  go_enter Tryz.func219, Tryz.ntmps219
  go_wp2_with fail
  refine wp_loop_rounds 2 ?_
  rw [rounds_succ]
  go_wp2_with fail
  refine wp_loop_rounds 2 ?_
  rw [rounds_succ]
  go_wp2_with fail
  go_quiet ((go_at_call 169; exact Calls.quiet_of_same (flipc (w_LessYX _))))
  go_wp2_with fail
  rw [rounds_succ]
  go_wp2_with fail
  go_end0
  exact ⟨rfl, (Nx.refl _).drewN _⟩
set_option maxRecDepth 100000 in
set_option maxHeartbeats 1000000 in
theorem w_pdqXY (g c : Nat) (z : Int) (w : World) (h0 : w.cell? ⟨g, 0, none⟩ = some (.string sX)) (h1 : w.cell? ⟨g, 1, none⟩ = some (.string sY)) :
    Calls Tryz.prog 193 #[.slice (some ⟨g, 0, none⟩) 2 c, .int .i64 0, .int .i64 2, .int .i64 z] w fun e w' => e = .returned (.tuple #[]) ∧ Nx w w' := by
  go_enter Tryz.func193, Tryz.ntmps193
  go_wp2_with fail
  refine wp_loop_rounds 1 ?_
  rw [rounds_succ]
  go_wp2_with (go_at_call 219; refine (w_insXY g c w h0 h1).mono ?_; rintro e w1 ⟨rfl, hn1⟩)
  exact bodyPost_ret (results_none (by rfl) _ _ _) rfl ⟨rfl, hn1⟩
theorem w_Len (x : Int) (w : World) (h0 : 0 ≤ x) (h1 : x ≤ 1000000) : Calls Tryz.prog 166 #[.int .u64 x] w fun e w' => ∃ z : Int, e = .returned (.int .i64 z) ∧ w = w' :=
  (Any.bits_Len Tryz.bitsLen x w h0 (by omega)).mono fun _ _ ⟨h1, h2⟩ => ⟨_, h1, h2.symm⟩
theorem w_SortXY (g c : Nat) (w : World) (h0 : w.cell? ⟨g, 0, none⟩ = some (.string sX)) (h1 : w.cell? ⟨g, 1, none⟩ = some (.string sY)) :
    Calls Tryz.prog 148 #[.slice (some ⟨g, 0, none⟩) 2 c] w fun e w' => e = .returned (.tuple #[]) ∧ Nx w w' := by
  go_enter Tryz.func148, Tryz.ntmps148
  go_wp2_with (first
    | (go_at_call 166; refine (w_Len _ _ (by omega) (by omega)).mono ?_; rintro e w' ⟨z, rfl, rfl⟩)
    | (go_at_call 193; refine (w_pdqXY g c _ w h0 h1).mono ?_; rintro e w1 ⟨rfl, hn1⟩))
  go_end0
  exact ⟨rfl, hn1⟩
end Go.Proofs.YtklgknepamebdaaGreatDoor
/- Two strings sorted; equal ones thrown together. -/
namespace Go.Proofs.YtklgknepamebdaaGreatDoor
open Go.RowKit Go.Proofs Go.Shelf

theorem w_LessG (a b : ByteArray) (w : World) : Calls Tryz.prog 169 #[.string a, .string b] w fun e w' => e = .returned (.bool (Op.bytesLess a.toList b.toList)) ∧ w = w' := by
  go_enter Tryz.func169, Tryz.ntmps169
  go_wp2_with (go_at_call 209; refine (w_isNaNS _ _).mono ?_; rintro e w' ⟨rfl, rfl⟩)
  go_ret
  exact ⟨rfl, rfl⟩
def lo2 (a b : ByteArray) : ByteArray := if Op.bytesLess b.toList a.toList then b else a
def hi2 (a b : ByteArray) : ByteArray := if Op.bytesLess b.toList a.toList then a else b
/-- Two strings in a block, in order. -/
def Two2 (g : Nat) (a b : ByteArray) (w w' : World) : Prop := Gr g w w' ∧ w'.heap[g]? = some (.cells #[.string (lo2 a b), .string (hi2 a b)] 9 (0, 0))
set_option maxRecDepth 100000 in
set_option maxHeartbeats 2000000 in
theorem w_ins2 (g c : Nat) (a b : ByteArray) (w : World) (hg : w.heap[g]? = some (.cells #[.string a, .string b] 9 (0, 0))) :
    Calls Tryz.prog 219 #[.slice (some ⟨g, 0, none⟩) 2 c, .int .i64 0, .int .i64 2] w fun e w' => e = .returned (.tuple #[]) ∧ Two2 g a b w w' := by
  have h0 : w.cell? ⟨g, 0, none⟩ = some (.string a) := cell_of_row w g 0 _ _ _ hg
  have h1 : w.cell? ⟨g, 1, none⟩ = some (.string b) := cell_of_row w g 1 _ _ _ hg
  have f0 : w.frozen? ⟨g, 0, none⟩ = false := by simp [World.frozen?, hg]
  have f1 : w.frozen? ⟨g, 1, none⟩ = false := by simp [World.frozen?, hg]
  have HG := hide hg
  clear hg
  cases t : Op.bytesLess b.toList a.toList
  · have HE := hide (show lo2 a b = a ∧ hi2 a b = b by unfold lo2 hi2; rw [t]; exact ⟨rfl, rfl⟩)
    have hL := fun W => w_LessG b a W
    rw [t] at hL
    have HL := hide hL
    clear hL t
    go_enter Tryz.func219, Tryz.ntmps219
    go_wp2_with fail
    refine wp_loop_rounds 2 ?_
    rw [rounds_succ]
    go_wp2_with fail
    refine wp_loop_rounds 2 ?_
    rw [rounds_succ]
    go_wp2_with fail
    go_quiet ((go_at_call 169; exact Calls.quiet_of_same (flipc (HL.out _))))
    go_wp2_with fail
    rw [rounds_succ]
    go_wp2_with fail
    go_end0
    exact ⟨rfl, (Gr.refl _ _).drewN _, by rw [HE.out.1, HE.out.2]; exact HG.out⟩
  · have HE := hide (show lo2 a b = b ∧ hi2 a b = a by unfold lo2 hi2; rw [t]; exact ⟨rfl, rfl⟩)
    have hL := fun W => w_LessG b a W
    rw [t] at hL
    have HL := hide hL
    clear hL t
    go_enter Tryz.func219, Tryz.ntmps219
    go_wp2_with fail
    refine wp_loop_rounds 2 ?_
    rw [rounds_succ]
    go_wp2_with fail
    refine wp_loop_rounds 2 ?_
    rw [rounds_succ]
    go_wp2_with fail
    go_quiet ((go_at_call 169; exact Calls.quiet_of_same (flipc (HL.out _))))
    go_wp2_with fail
    go_region_with (fail)
    all_goals
      go_wp2_with fail
    all_goals
      rw [rounds_succ]
      go_wp2_with fail
      go_quiet (fail)
      go_wp2_with fail
      rw [rounds_succ]
      go_wp2_with fail
      go_end0
    all_goals
      refine ⟨rfl, (by repeat (first | exact Gr.refl _ _ | refine Gr.drewN ?_ _ | refine Gr.setS ?_ (.inl rfl) _)), ?_⟩
      rw [HE.out.1, HE.out.2]
      first
        | exact heap_set (i := 0) (heap_set (i := 1) (u := .string a) HG.out)
        | exact heap_set (i := 1) (heap_set (i := 0) (u := .string b) HG.out)
set_option maxRecDepth 100000 in
set_option maxHeartbeats 1000000 in
theorem w_pdq2 (g c : Nat) (a b : ByteArray) (z : Int) (w : World) (hg : w.heap[g]? = some (.cells #[.string a, .string b] 9 (0, 0))) :
    Calls Tryz.prog 193 #[.slice (some ⟨g, 0, none⟩) 2 c, .int .i64 0, .int .i64 2, .int .i64 z] w fun e w' => e = .returned (.tuple #[]) ∧ Two2 g a b w w' := by
  go_enter Tryz.func193, Tryz.ntmps193
  go_wp2_with fail
  refine wp_loop_rounds 1 ?_
  rw [rounds_succ]
  go_wp2_with (go_at_call 219; refine (w_ins2 g c a b w hg).mono ?_; rintro e w1 ⟨rfl, hn1⟩)
  exact bodyPost_ret (results_none (by rfl) _ _ _) rfl ⟨rfl, hn1⟩
theorem w_Sort2 (g c : Nat) (a b : ByteArray) (w : World) (hg : w.heap[g]? = some (.cells #[.string a, .string b] 9 (0, 0))) :
    Calls Tryz.prog 148 #[.slice (some ⟨g, 0, none⟩) 2 c] w fun e w' => e = .returned (.tuple #[]) ∧ Two2 g a b w w' := by
  go_enter Tryz.func148, Tryz.ntmps148
  go_wp2_with (first
    | (go_at_call 166; refine (w_Len _ _ (by omega) (by omega)).mono ?_; rintro e w' ⟨z, rfl, rfl⟩)
    | (go_at_call 193; refine (w_pdq2 g c a b _ w hg).mono ?_; rintro e w1 ⟨rfl, hn1⟩))
  go_end0
  exact ⟨rfl, hn1⟩
set_option maxRecDepth 100000 in
set_option maxHeartbeats 1000000 in
/-- Two strings that differ stay. -/
theorem w_Comp2 (g c : Nat) (a b : ByteArray) (w : World) (hg : w.heap[g]? = some (.cells #[.string a, .string b] 9 (0, 0))) (hne : a ≠ b) :
    Calls Tryz.prog 149 #[.slice (some ⟨g, 0, none⟩) 2 c] w fun e w' => e = .returned (.slice (some ⟨g, 0, none⟩) 2 c) ∧ Nx w w' := by
  have h0 : w.cell? ⟨g, 0, none⟩ = some (.string a) := cell_of_row w g 0 _ _ _ hg
  have h1 : w.cell? ⟨g, 1, none⟩ = some (.string b) := cell_of_row w g 1 _ _ _ hg
  have hne : (b.toList == a.toList) = false := by rw [eqS_iff]; exact decide_eq_false (fun e => hne e.symm)
  clear hg
  go_enter Tryz.func149, Tryz.ntmps149
  go_wp2_with fail
  refine wp_loop_rounds 2 ?_
  rw [rounds_succ]
  go_wp2_with fail
  go_quiet (fail)
  go_wp2_with fail
  rw [rounds_succ]
  go_wp2_with fail
  go_ret
  exact ⟨rfl, (Nx.refl _).drewN _⟩
set_option maxRecDepth 100000 in
set_option maxHeartbeats 1000000 in
/-- Of two equal strings one stays. -/
theorem w_Comp1 (g c : Nat) (a : ByteArray) (w : World) (hg : w.heap[g]? = some (.cells #[.string a, .string a] 9 (0, 0))) (hc : 2 ≤ c) :
    Calls Tryz.prog 149 #[.slice (some ⟨g, 0, none⟩) 2 c] w fun e w' => e = .returned (.slice (some ⟨g, 0, none⟩) 1 c) ∧ Gr g w w' ∧ w'.cell? ⟨g, 0, none⟩ = some (.string a) := by
  have h0 : w.cell? ⟨g, 0, none⟩ = some (.string a) := cell_of_row w g 0 _ _ _ hg
  have h1 : w.cell? ⟨g, 1, none⟩ = some (.string a) := cell_of_row w g 1 _ _ _ hg
  have f1 : w.frozen? ⟨g, 1, none⟩ = false := by simp [World.frozen?, hg]
  have hq : (a.toList == a.toList) = true := by simp
  clear hg
  have hcl : ∀ (n : Nat) ty, (Builtin.clear_ #[32] ty #[.slice (some ⟨g, 1, none⟩) 1 (c - 1)]).run Tryz.prog (w.drewN n) = .ok (.tuple #[]) ((w.drewN n).setCells g 1 (List.replicate 1 (.string ByteArray.empty))) := fun n ty =>
    Lib.run_clear_slice (w.drewN n) 32 9 ty (.string ByteArray.empty) Tryz.underlying32 (fun _ => by kernel_rfl) rfl rfl g 1 1 (c - 1) (by omega) (fun i hi => by obtain rfl : i = 0 := (by omega); show (w.cell? ⟨g, 1, none⟩).isSome = true; rw [h1]; rfl) (fun i hi => by obtain rfl : i = 0 := (by omega); exact f1)
  go_enter Tryz.func149, Tryz.ntmps149
  go_wp2_with fail
  refine wp_loop_rounds 2 ?_
  rw [rounds_succ]
  go_wp2_with fail
  go_quiet (fail)
  go_wp2_with fail
  refine wp_loop_rounds 1 ?_
  rw [rounds_succ]
  go_wp2_with (simp only [hcl])
  go_ret
  exact ⟨rfl, ((Gr.refl g w).drewN nq).setS (p := ⟨g, 1, none⟩) (.inl rfl) _, (World.cell?_setCell_other _ _ _ _ (by intro e; injection e with e1 e2; omega)).trans h0⟩
end Go.Proofs.YtklgknepamebdaaGreatDoor
/- The walks of the smallest functions of numbers. -/
namespace Go.Proofs.YtklgknepamebdaaGreatDoor
open Go.RowKit

theorem w_Moment (n : Int) (w : World) : Calls Tryz.prog 95 #[.int .i64 n] w fun e w' => e = .returned (.bool (momB n)) ∧ w = w' := by
  have H := hide (show outB n 0 345686399999 = outB n 0 lastMo from rfl)
  go_enter Tryz.func95, Tryz.ntmps95
  go_wp2_with (go_at_call 68; rw [show (345686399999 : Int) = lastMo from rfl]; refine (w_Out _ _ _ _).mono ?_; rintro e w' ⟨rfl, rfl⟩)
  go_ret
  exact ⟨ret_bool (by unfold momB; rfl), rfl⟩

theorem w_isPoint (x y : Int) (w : World) : Calls Tryz.prog 138 #[.int .i64 x, .int .i64 y] w fun e w' => e = .returned (.bool (isPtB x y)) ∧ w = w' := by
  go_enter Tryz.func138, Tryz.ntmps138
  cases h1 : outB x (-10000) 10000 <;> cases h2 : outB y (-10000) 10000
  all_goals
    go_wp2_with (go_at_call 68; refine (w_Out _ _ _ _).mono ?_; rintro e w' ⟨rfl, rfl⟩)
    go_ret
    exact ⟨ret_bool (by unfold isPtB; simp [h1, h2]), rfl⟩

theorem w_PointFault (x y : Int) (w : World) : Calls Tryz.prog 46 #[.int .i64 x, .int .i64 y] w fun e w' => e = .returned (.int .i64 (ptF x y)) ∧ w = w' := by
  have e1 := inB_out x (-10000) 10000
  have e2 := inB_out y (-10000) 10000
  go_enter Tryz.func46, Tryz.ntmps46
  cases h1 : outB x (-10000) 10000 <;> cases h2 : outB y (-10000) 10000
  all_goals
    rw [h1] at e1; rw [h2] at e2
    go_wp2_with (go_at_call 72; refine (w_in _ _ _ _).mono ?_; rintro e w' ⟨rfl, rfl⟩)
    go_ret
    exact ⟨ret_int (by unfold ptF isPtB; simp [h1, h2, argF]), rfl⟩

theorem w_MomentFault (x : Int) (w : World) : Calls Tryz.prog 20 #[.int .i64 x] w fun e w' => e = .returned (.int .i64 (momF x)) ∧ w = w' := by
  have e1 := inB_out x 0 lastMo
  go_enter Tryz.func20, Tryz.ntmps20
  cases h1 : outB x 0 lastMo
  all_goals
    rw [h1] at e1
    go_wp2_with (go_at_call 72; rw [show (345686399999 : Int) = lastMo from rfl]; refine (w_in _ _ _ _).mono ?_; rintro e w' ⟨rfl, rfl⟩)
    go_ret
    exact ⟨ret_int (by unfold momF momB; simp [h1, argF]), rfl⟩

end Go.Proofs.YtklgknepamebdaaGreatDoor
/- How long an arc takes at a moment: road.TimeOn, in general. -/
namespace Go.Proofs.YtklgknepamebdaaGreatDoor
open Go.RowKit

/-- The nodes at an arc's ends. -/
def pairN (a b : ByteArray) : List Node := if a = b then [⟨a, 0, 0⟩] else [⟨lo2 a b, 0, 0⟩, ⟨hi2 a b, 0, 0⟩]
def timeOnF (a : Arc) (at_ : Int) : Int := if roadsF (pairN a.from_ a.to_) [a] [] = 0 then momF at_ else roadsF (pairN a.from_ a.to_) [a] []
def timeOnI (a : Arc) (at_ : Int) : Int := if timeOnF a at_ = 0 then timeI a.knots at_ else 0
theorem timeOn_ok {a : Arc} {ns : List Node} (h : roadsF ns [a] [] = 0) : KOk a.knots := by
  unfold roadsF at h
  by_cases h0 : nodesF ns = 0
  · rw [if_pos h0] at h
    by_cases h1 : chk (arcF ns) none [a] = 0
    · have h2 := chk_all (F := arcF ns) (Q := fun x => arcG ns x = 0) (fun p x hx => (arcF_ok hx).2) _ _ h1 a (by simp)
      exact knotsF_chk (arcG_ok h2).2.2.2.2
    · rw [if_neg h1] at h; exact absurd h h1
  · rw [if_neg h0] at h; exact absurd h h0
theorem el_Node : ElemOf Tryz.prog 26 39 3 32 := ElemOf.mk' (z := .agg #[.string ByteArray.empty, .int .i64 0, .int .i64 0]) Tryz.underlying26 (by kernel_rfl) rfl
theorem lo_hi_ne {a b : ByteArray} (h : a ≠ b) : lo2 a b ≠ hi2 a b := by
  unfold lo2 hi2
  cases Op.bytesLess b.toList a.toList with
  | true => exact fun e => h e.symm
  | false => exact h
theorem lo_hi_eq (a : ByteArray) : lo2 a a = a ∧ hi2 a a = a := by
  unfold lo2 hi2
  cases Op.bytesLess a.toList a.toList <;> exact ⟨rfl, rfl⟩
theorem lo_small {a b : ByteArray} (ha : a.size ≤ 1000000) (hb : b.size ≤ 1000000) : (lo2 a b).size ≤ 1000000 ∧ (hi2 a b).size ≤ 1000000 := by
  unfold lo2 hi2
  cases Op.bytesLess b.toList a.toList <;> exact ⟨by assumption, by assumption⟩
/-- The strings thrown together: one where they are equal. -/
theorem w_CompG (g c : Nat) (a b : ByteArray) (w : World) (hg : w.heap[g]? = some (.cells #[.string (lo2 a b), .string (hi2 a b)] 9 (0, 0))) (hc : 2 ≤ c) :
    Calls Tryz.prog 149 #[.slice (some ⟨g, 0, none⟩) 2 c] w fun e w' => e = .returned (.slice (some ⟨g, 0, none⟩) (pairN a b).length c) ∧ Gr g w w' ∧ (∀ i, i < (pairN a b).length → w'.cell? ⟨g, i, none⟩ = some (.string ((pairN a b).getD i default).key)) := by
  by_cases h : a = b
  · subst h
    rw [(lo_hi_eq a).1, (lo_hi_eq a).2] at hg
    refine (w_Comp1 g c a w hg hc).mono ?_
    rintro e w' ⟨rfl, h1, h2⟩
    have e : pairN a a = [⟨a, 0, 0⟩] := by unfold pairN; rw [if_pos rfl]
    rw [e]
    refine ⟨rfl, h1, fun i hi => ?_⟩
    obtain rfl : i = 0 := by simp at hi; exact hi
    exact h2
  · refine (w_Comp2 g c _ _ w hg (lo_hi_ne h)).mono ?_
    rintro e w' ⟨rfl, h1⟩
    have e : pairN a b = [⟨lo2 a b, 0, 0⟩, ⟨hi2 a b, 0, 0⟩] := by unfold pairN; rw [if_neg h]
    rw [e]
    have hl : g < w.heap.size := (Array.getElem?_eq_some_iff.1 hg).1
    refine ⟨rfl, Gr.of_nx h1, fun i hi => ?_⟩
    have hi' : i < 2 := hi
    rcases (by omega : i = 0 ∨ i = 1) with rfl | rfl
    · exact nx_cell h1 hl (cell_of_row w g 0 _ _ _ hg)
    · exact nx_cell h1 hl (cell_of_row w g 1 _ _ _ hg)
theorem pair_zero {a b : ByteArray} : ∀ x ∈ pairN a b, x = ⟨x.key, 0, 0⟩ := by
  unfold pairN
  intro x hx
  split at hx
  · simp at hx; subst hx; rfl
  · simp at hx; rcases hx with rfl | rfl <;> rfl
theorem pair_len (a b : ByteArray) : (pairN a b).length ≤ 2 := by unfold pairN; split <;> simp
theorem pair_small {a b : ByteArray} (ha : a.size ≤ 1000000) (hb : b.size ≤ 1000000) : SmallN (pairN a b) := by
  unfold pairN
  intro x hx
  split at hx
  · simp at hx; subst hx; exact ha
  · simp at hx
    rcases hx with rfl | rfl
    · exact (lo_small ha hb).1
    · exact (lo_small ha hb).2

set_option maxRecDepth 100000 in
set_option maxHeartbeats 4000000 in
theorem w_TimeOn (lo : Nat) (a : Arc) (at_ : Int) (w : World) (hK : Rd w lo a.ka 2 encKnot a.knots) (hkl : a.knots.length ≤ 400) (h1 : a.key.size ≤ 1000000) (h2 : a.from_.size ≤ 1000000) (h3 : a.to_.size ≤ 1000000) :
    Calls Tryz.prog 87 #[.agg #[.string a.key, .string a.from_, .string a.to_, .int .i64 a.long, .slice a.ka a.knots.length a.kc], .int .i64 at_] w fun e w' => e = .returned (.tuple #[.int .i64 (timeOnI a at_), .int .i64 (timeOnF a at_)]) ∧ Nx w w' := by
  have HPS := hide (pair_small h2 h3)
  have HPZ := hide (@pair_zero a.from_ a.to_)
  have HPL := hide (pair_len a.from_ a.to_)
  have HTI := hide (show timeOnI a at_ = if timeOnF a at_ = 0 then timeI a.knots at_ else 0 from rfl)
  have HTF := hide (show timeOnF a at_ = if roadsF (pairN a.from_ a.to_) [a] [] = 0 then momF at_ else roadsF (pairN a.from_ a.to_) [a] [] from rfl)
  have HCG := hide (fun g c W hg hc => w_CompG g c a.from_ a.to_ W hg hc)
  obtain ⟨wa, hwa⟩ : ∃ wa, wa = w.alloc (.cells #[.string a.key, .string a.from_, .string a.to_, .int .i64 a.long, .slice a.ka a.knots.length a.kc] 83) := ⟨_, rfl⟩
  have hna : Nx w wa := hwa ▸ (Nx.refl w).alloc _
  have hgw : w.heap.size < wa.heap.size := by rw [hwa]; simp
  have b0 : wa.cell? ⟨w.heap.size, 0, none⟩ = some (.string a.key) := by rw [hwa]; go_simp
  have b1 : wa.cell? ⟨w.heap.size, 1, none⟩ = some (.string a.from_) := by rw [hwa]; go_simp
  have b2 : wa.cell? ⟨w.heap.size, 2, none⟩ = some (.string a.to_) := by rw [hwa]; go_simp
  have b3 : wa.cell? ⟨w.heap.size, 3, none⟩ = some (.int .i64 a.long) := by rw [hwa]; go_simp
  have b4 : wa.cell? ⟨w.heap.size, 4, none⟩ = some (.slice a.ka a.knots.length a.kc) := by rw [hwa]; go_simp
  have HK := hide (fun W (hx : Nx wa W) => (hK.nx hna).nx hx)
  have HCR := hide (fun (lo1 g ca cn : Nat) (A : Option Addr) W (hx : Nx wa W) (hg : W.heap[g]? = some (.cells #[.string a.key, .string a.from_, .string a.to_, .int .i64 a.long, .slice a.ka a.knots.length a.kc] 83 (0, 0))) (hR : Rd W lo1 A 3 encNode (pairN a.from_ a.to_)) =>
    w_CheckRoads lo1 0 0 A (some ⟨g, 0, none⟩) none cn ca 0 (pairN a.from_ a.to_) [a] [] W hR HPS.out (by have := HPL.out; omega) ⟨Rd.lit hg (Nat.zero_le _) encArc_len rfl, fun x hx2 => by simp at hx2; subst hx2; exact ⟨(HK.out W hx).low (Nat.zero_le _), hkl, h1⟩⟩ (by simp) Rd.nil (by simp))
  clear hK
  generalize timeOnF a at_ = F at *
  generalize timeOnI a at_ = V at *
  generalize hpn : pairN a.from_ a.to_ = ps at *
  generalize hkn : a.knots.length = kn at *
  have HKN := hide hkn
  clear hkn hpn
  go_enter Tryz.func87, Tryz.ntmps87
  go_wp2_with fail
  rw [← hwa]
  obtain ⟨wb, hwb⟩ : ∃ wb, wb = wa.alloc (.cells #[.string a.from_, .string a.to_] 9) := ⟨_, rfl⟩
  rw [← hwb]
  have hsa : wa.heap.size = w.heap.size + 1 := by rw [hwa]; simp
  have hnb : Nx wa wb := hwb ▸ (Nx.refl wa).alloc _
  have hgb : w.heap.size + 1 < wb.heap.size := by rw [hwb]; simp; omega
  have kb : wb.heap[w.heap.size + 1]? = some (.cells #[.string a.from_, .string a.to_] 9 (0, 0)) := by rw [hwb]; exact hnew hsa.symm
  have HWA := hide hwa
  have HWB := hide hwb
  have HSA := hide hsa
  clear hwa hwb hsa
  obtain ⟨g1, hg1⟩ : ∃ g1, g1 = w.heap.size + 1 := ⟨_, rfl⟩
  rw [← hg1] at hgb kb ⊢
  have hag : wa.heap.size ≤ g1 := by have := HSA.out; omega
  clear hg1
  generalize w.heap.size = g0 at *
  refine (w_Sort2 g1 2 a.from_ a.to_ _ kb).mono ?_
  rintro e w1 ⟨rfl, hgr1, kb1⟩
  go_wp2_with fail
  refine (HCG.out g1 2 _ kb1 (by omega)).mono ?_
  rintro e w2 ⟨rfl, hgr2, hcells⟩
  have hx2 : Nx wa w2 := Nx.of_gr (((Gr.of_nx hnb).trans hgr1).trans hgr2) hag
  have hgd : g1 < w2.heap.size := by have h8 := hgr1.sz; have h9 := hgr2.sz; omega
  have HCE := hide hcells
  have hown0 : w2.ownsRow w2.heap.size 39 3 (.slice none 0 0) ([] : List Node).length (([] : List Node).flatMap encNode) := World.ownsRow_nil _ _ _ _
  have HO0 := hide hown0
  clear hown0 kb kb1 hgr1 hgr2 hcells
  generalize hpl : ps.length = pn at *
  have HPN := hide hpl
  clear hpl
  have hpn2 := HPL.out
  go_wp2_with fail
  go_loopw [7, 21] (fun v i wr => ∃ k : Nat, k ≤ pn ∧ i = .int .i64 k ∧ wr.ownsRow w2.heap.size 39 3 v (ps.take k).length ((ps.take k).flatMap encNode) ∧ Nx w2 wr) (fun _ i _ => pn - (intOf i).toNat)
  case atStart => exact ⟨0, Nat.zero_le _, rfl, HO0.out, Nx.refl _⟩
  case round =>
    obtain ⟨k, hk, rfl, hown, hbw⟩ := hrel
    have HOW := hide hown
    clear hown
    by_cases hlt : k < pn
    · have hlt' : k < ps.length := by have := HPN.out; omega
      have kc := nx_cell hbw hgd (HCE.out k hlt)
      rw [List.getD_eq_getElem?_getD, List.getElem?_eq_getElem hlt'] at kc
      replace kc : wr.cell? ⟨g1, k, none⟩ = some (.string ps[k].key) := kc
      have hz := HPZ.out ps[k] (List.getElem_mem hlt')
      have htk := List.take_succ_eq_append_getElem hlt'
      generalize ps[k] = x at *
      have HZ := hide hz
      have HTK := hide htk
      clear hz htk
      have hbs := hbw.sz
      have hkl2 : (ps.take k).length ≤ 10000000 := by rw [List.length_take]; omega
      go_wp2_with (at_builtin; refine wpApp rfl _ _ _ rfl el_Node encNode encNode_len encNode_one (by omega) (by omega) w2.heap.size _ (ps.take k) rfl (HOW.out.alloc _) _ x _ rfl (hnew rfl) (by rw [HZ.out]; rfl) hkl2 (by simp; omega) ?_; intro v3 w3 hown3 hg3)
      go_roundw
      case rel => exact ⟨k + 1, by omega, by go_num, by rw [HTK.out]; exact hown3, (hbw.alloc _).grown hg3 (own_blk_lt HOW.out)⟩
      case measure => simp [intOf]; omega
    · obtain rfl : pn = k := by omega
      have hown := HOW.out
      rw [List.take_of_length_le (by have := HPN.out; omega)] at hown
      obtain ⟨A4, c4, ev, hR4, _⟩ := Rd.of_own encNode_len rfl hown
      have HR4 := hide hR4
      have ha4 : Nx wa wr := hx2.trans hbw
      have d0 := nx_cell ha4 hgw b0
      have d1 := nx_cell ha4 hgw b1
      have d2 := nx_cell ha4 hgw b2
      have d3 := nx_cell ha4 hgw b3
      have d4 := nx_cell ha4 hgw b4
      have HPN2 := HPN.out
      subst ev
      clear hown hR4 hlt HOW HCE
      go_wp2_with fail
      have hx5 := (Nx.refl wr).alloc (.cells #[.string a.key, .string a.from_, .string a.to_, .int .i64 a.long, .slice a.ka kn a.kc] 83)
      refine (HCR.out _ _ 1 c4 A4 _ (ha4.trans hx5) (hnew rfl) (HR4.out.nx hx5)).mono ?_
      rintro e w5 ⟨rfl, hn5⟩
      have ha5 : Nx wa w5 := (ha4.trans hx5).trans hn5
      have e4 := nx_cell ha5 hgw b4
      by_cases hz : roadsF ps [a] [] = 0
      · have HOK := hide (timeOn_ok hz)
        rw [hz]
        have HTF2 := hide (HTF.out.trans (if_pos hz))
        clear hz
        cases hm : momB at_
        · have HF := hide (show F = 1 by rw [HTF2.out]; unfold momF; rw [hm]; rfl)
          go_wp2_with (go_at_call 95; refine (w_Moment _ _).mono ?_; rintro e w' ⟨rfl, rfl⟩)
          go_ret2
          exact ⟨by rw [HTI.out, HF.out]; rfl, hna.trans ha5⟩
        · have HF := hide (show F = 0 by rw [HTF2.out]; unfold momF; rw [hm]; rfl)
          have hb := outB_false.1 (show outB at_ 0 lastMo = false by unfold momB at hm; simpa using hm)
          unfold lastMo at hb
          go_wp2_with (first
            | (go_at_call 95; refine (w_Moment _ _).mono ?_; rintro e w' ⟨rfl, rfl⟩)
            | (go_at_call 144; refine (w_TimeD g0 lo a.ka a.kc a.knots at_ _ (by rw [HKN.out]; exact e4) (Nat.lt_of_lt_of_le hgw ha5.sz) (HK.out _ ha5) HOK.out hb).mono ?_; rintro e w6 ⟨rfl, hn6⟩))
          go_ret2
          exact ⟨by rw [HTI.out, HF.out]; rfl, hna.trans (ha5.trans hn6)⟩
      · have tz : (roadsF ps [a] [] != 0) = true := by simpa using hz
        have HF := hide (HTF.out.trans (if_neg hz))
        have HZ := hide hz
        clear hz
        go_wp2_with fail
        go_ret2
        exact ⟨by rw [HTI.out, HF.out, if_neg HZ.out]; rfl, hna.trans ha5⟩
end Go.Proofs.YtklgknepamebdaaGreatDoor
/- jitlaw1.driven answers true. -/
namespace Go.Proofs.YtklgknepamebdaaGreatDoor
open Go.RowKit

def sAd : ByteArray := ⟨#[97]⟩
def drKnots : List Knot := [⟨0, 100⟩, ⟨1000, 600⟩]
def drArc (A : Option Addr) (c : Nat) : Arc := ⟨sAd, sX, sY, 5, A, c, drKnots⟩
def drNodes : List Node := [⟨sX, 0, 0⟩, ⟨sY, 0, 0⟩]
theorem dr_le : strLe sY sX = false := by unfold strLe; rw [Lib.toList_data, Lib.toList_data]; decide
theorem dr_key : keyB sAd = true ∧ keyB sX = true ∧ keyB sY = true := by decide
theorem dr_nodes : nodesF drNodes = 0 := by
  unfold nodesF drNodes
  rw [if_neg (by decide)]
  have h1 : nodeF none ⟨sX, 0, 0⟩ = 0 := by unfold nodeF; rw [dr_key.2.1]; decide
  have h2 : nodeF (some ⟨sX, 0, 0⟩) ⟨sY, 0, 0⟩ = 0 := by unfold nodeF; rw [dr_key.2.2]; simp only [dr_le]; decide
  simp only [chk, h1, h2, if_pos]
theorem dr_pair : pairN sX sY = drNodes := by
  have h : Op.bytesLess sY.toList sX.toList = false := by rw [Lib.toList_data, Lib.toList_data]; decide
  unfold pairN lo2 hi2
  rw [if_neg (by decide), h]
  rfl
theorem dr_roads (A : Option Addr) (c : Nat) : roadsF (pairN sX sY) [drArc A c] [] = 0 := by
  unfold roadsF
  rw [dr_pair, if_pos dr_nodes]
  have hg : arcG drNodes (drArc A c) = 0 := by
    unfold arcG
    show (if nodeI drNodes sX < 0 ∨ nodeI drNodes sY < 0 then (8 : Int) else if sX = sY then 6 else if outB 5 1 1000000 = true then 1 else knotsF drKnots) = 0
    rw [if_neg (show ¬ (nodeI drNodes sX < 0 ∨ nodeI drNodes sY < 0) by decide), if_neg (show ¬ sX = sY by decide), if_neg (show ¬ outB 5 1 1000000 = true by decide)]
    exact (show knotsF drKnots = 0 by decide)
  have h1 : arcF drNodes none (drArc A c) = 0 := by
    unfold arcF
    rw [show keyB (drArc A c).key = true from dr_key.1, if_pos rfl]
    exact hg
  have h2 : chk (arcF drNodes) none [drArc A c] = 0 := by simp only [chk, h1, if_pos]
  rw [if_pos h2]
  rfl
theorem dr_F (A : Option Addr) (c : Nat) : timeOnF (drArc A c) 500 = 0 := by
  unfold timeOnF
  rw [show (drArc A c).from_ = sX from rfl, show (drArc A c).to_ = sY from rfl, if_pos (dr_roads A c)]
  decide
theorem dr_I (A : Option Addr) (c : Nat) : timeOnI (drArc A c) 500 = 350 := by
  unfold timeOnI
  rw [if_pos (dr_F A c)]
  exact (show timeI drKnots 500 = 350 by decide)

set_option maxRecDepth 100000 in
set_option maxHeartbeats 1000000 in
theorem w_driven (w : World) : Calls Tryz.prog 31 #[] w fun e w' => e = .returned (.bool true) ∧ Nx w w' := by
  have hK : Rd (w.alloc (.cells #[.int .i64 0, .int .i64 100, .int .i64 1000, .int .i64 600] 111)) 0 (some ⟨w.heap.size, 0, none⟩) 2 encKnot drKnots := Rd.lit (hnew rfl) (Nat.zero_le _) encKnot_len rfl
  have hT := w_TimeOn 0 (drArc (some ⟨w.heap.size, 0, none⟩) 2) 500 _ hK (show drKnots.length ≤ 400 by decide) (show sAd.size ≤ 1000000 by decide) (show sX.size ≤ 1000000 by decide) (show sY.size ≤ 1000000 by decide)
  rw [dr_I, dr_F] at hT
  have HT := hide hT
  clear hT hK
  go_enter Tryz.func31, Tryz.ntmps31
  go_wp2_with (go_at_call 87; refine HT.out.mono ?_; rintro e w2 ⟨rfl, hn2⟩)
  go_ret
  exact ⟨rfl, ((Nx.refl w).alloc _).trans hn2⟩
end Go.Proofs.YtklgknepamebdaaGreatDoor
/- When somebody leaves: the stream's moments. -/
namespace Go.Proofs.YtklgknepamebdaaGreatDoor
open Go.RowKit

set_option maxRecDepth 100000 in
set_option maxHeartbeats 2000000 in
theorem w_Departure (s k : Nat) (w : World) (hS : Str w s k) (hk : k < 900000) :
    Calls Tryz.prog 10 #[.pointer (some ⟨s, 0, none⟩)] w (StrInt (-1) 345686400000 s (k + 4) w) := by
  have hsl := hS.lt
  go_enter Tryz.func10, Tryz.ntmps10
  go_wp2_with fail
  refine (w_Next 20000 _ _ _ hS (by omega) (by omega)).mono ?_
  rintro e w1 ⟨r1, h11, h12, rfl, hg1, hS1⟩
  go_wp2_with fail
  refine (w_Next 20000 _ _ _ hS1 (by omega) (by omega)).mono ?_
  rintro e w2 ⟨r2, h21, h22, rfl, hg2, hS2⟩
  have hs2 := hS2.lt
  go_wp2_with fail
  refine (w_PickI w2.heap.size [345686399999, 345686399950, -1, 345686400000] _ _ _ _ (hS2.nx ((Nx.refl _).alloc _)) (by omega) (hnew rfl) (by omega) rfl (by simp) (by simp)).mono ?_
  rintro e w3 ⟨r3, h3, rfl, hg3, hS3⟩
  have hs3 := hS3.lt
  have h3' : -1 ≤ r3 ∧ r3 ≤ 345686400000 := by simp at h3; omega
  go_wp2_with fail
  refine (w_PickI w3.heap.size [0, 30, 55, 100, 500, 1000, 5000, 3600000, 86399980, r1, r2, r3] _ _ _ _ (hS3.nx ((Nx.refl _).alloc _)) (by omega) (hnew rfl) (by omega) rfl (by simp) (by simp)).mono ?_
  rintro e w4 ⟨r4, h4, rfl, hg4, hS4⟩
  have h4' : -1 ≤ r4 ∧ r4 ≤ 345686400000 := by simp at h4; omega
  go_wp2_with fail
  go_ret
  exact ⟨r4, h4'.1, h4'.2, rfl, hg1.trans (hg2.trans (((Gr.refl s w2).alloc _).trans (hg3.trans (((Gr.refl s w3).alloc _).trans hg4)))), hS4⟩
end Go.Proofs.YtklgknepamebdaaGreatDoor
/- Plain: a heap in a list, as the library's heap keeps it. -/
namespace Go.Proofs.YtklgknepamebdaaGreatDoor

structure Ext where
  at_ : Int
  arc : Nat
instance : Inhabited Ext := ⟨⟨0, 0⟩⟩
def extLt (a b : Ext) : Bool := decide (a.at_ < b.at_ ∨ (a.at_ = b.at_ ∧ a.arc < b.arc))
theorem extLt_t {a b : Ext} : extLt a b = true ↔ a.at_ < b.at_ ∨ (a.at_ = b.at_ ∧ a.arc < b.arc) := decide_eq_true_iff
theorem extLt_f {a b : Ext} : extLt a b = false ↔ ¬ (a.at_ < b.at_ ∨ (a.at_ = b.at_ ∧ a.arc < b.arc)) := decide_eq_false_iff_not
def gx (l : List Ext) (k : Nat) : Ext := l.getD k default
theorem gx_lt {l : List Ext} {k : Nat} (h : k < l.length) : gx l k = l[k] := by
  unfold gx; rw [List.getD_eq_getElem?_getD, List.getElem?_eq_getElem h]; rfl
def swapL (l : List Ext) (i j : Nat) : List Ext := (l.set i (gx l j)).set j (gx l i)
theorem swapL_len (l : List Ext) (i j : Nat) : (swapL l i j).length = l.length := by unfold swapL; simp
theorem gx_swap (l : List Ext) (i j k : Nat) (hi : i < l.length) (hj : j < l.length) : gx (swapL l i j) k = if k = j then gx l i else if k = i then gx l j else gx l k := by
  unfold swapL gx
  rw [List.getD_eq_getElem?_getD, List.getElem?_set, List.getElem?_set]
  by_cases h1 : k = j
  · subst h1; simp [hj]
  · by_cases h2 : k = i
    · subst h2; simp [h1, hi, Ne.symm h1]
    · simp [h1, h2, Ne.symm h1, Ne.symm h2]
theorem swapL_perm (l : List Ext) (i j : Nat) (hi : i < l.length) (hj : j < l.length) : (swapL l i j).Perm l := by
  have h := Array.swap_perm (xs := l.toArray) (i := i) (j := j) (by simpa using hi) (by simpa using hj)
  have h2 := h.toList
  simp at h2
  unfold swapL
  rw [gx_lt hi, gx_lt hj]
  exact h2
def hup (l : List Ext) (j : Nat) : List Ext :=
  if _h : j = 0 then l else if extLt (gx l j) (gx l ((j - 1) / 2)) then hup (swapL l ((j - 1) / 2) j) ((j - 1) / 2) else l
termination_by j
decreasing_by omega
def kidN (l : List Ext) (i n : Nat) : Nat := if 2 * i + 2 < n ∧ extLt (gx l (2 * i + 2)) (gx l (2 * i + 1)) = true then 2 * i + 2 else 2 * i + 1
theorem kidN_or (l : List Ext) (i n : Nat) : kidN l i n = 2 * i + 1 ∨ (kidN l i n = 2 * i + 2 ∧ 2 * i + 2 < n) := by
  unfold kidN; split
  · rename_i h; exact .inr ⟨rfl, h.1⟩
  · exact .inl rfl
def hdown (l : List Ext) (i n : Nat) : List Ext :=
  if _h : 2 * i + 1 < n then (if extLt (gx l (kidN l i n)) (gx l i) then hdown (swapL l i (kidN l i n)) (kidN l i n) n else l) else l
termination_by n - i
decreasing_by rcases kidN_or l i n with h | h <;> omega
def hpush (l : List Ext) (x : Ext) : List Ext := hup (l ++ [x]) l.length
def hrest (l : List Ext) : List Ext := (hdown (swapL l 0 (l.length - 1)) 0 (l.length - 1)).take (l.length - 1)
def HeapN (l : List Ext) (n : Nat) : Prop := ∀ j, 0 < j → j < n → extLt (gx l j) (gx l ((j - 1) / 2)) = false

theorem hup_len (l : List Ext) (j : Nat) : (hup l j).length = l.length := by
  fun_induction hup l j with
  | case1 => rfl
  | case2 l j h h1 ih => rw [ih, swapL_len]
  | case3 => rfl
theorem hdown_len (l : List Ext) (i n : Nat) : (hdown l i n).length = l.length := by
  fun_induction hdown l i n with
  | case1 l i h h1 ih => rw [ih, swapL_len]
  | case2 => rfl
  | case3 => rfl
theorem hup_perm (l : List Ext) (j : Nat) (hj : j < l.length) : (hup l j).Perm l := by
  fun_induction hup l j with
  | case1 => exact .refl _
  | case2 l j h h1 ih => exact (ih (by rw [swapL_len]; omega)).trans (swapL_perm l _ _ (by omega) hj)
  | case3 => exact .refl _
theorem hdown_perm (l : List Ext) (i n : Nat) (hn : n ≤ l.length) : (hdown l i n).Perm l := by
  fun_induction hdown l i n with
  | case1 l i h h1 ih =>
    have hk : kidN l i n < l.length := by rcases kidN_or l i n with h | h <;> omega
    exact (ih (by rw [swapL_len]; omega)).trans (swapL_perm l _ _ (by omega) hk)
  | case2 => exact .refl _
  | case3 => exact .refl _
theorem hdown_ge (l : List Ext) (i n : Nat) (hn : n ≤ l.length) (k : Nat) (hk : n ≤ k) : gx (hdown l i n) k = gx l k := by
  fun_induction hdown l i n with
  | case1 l i h h1 ih =>
    have hk2 : kidN l i n < n := by rcases kidN_or l i n with h | h <;> omega
    rw [ih (by rw [swapL_len]; omega), gx_swap l _ _ _ (by omega) (by omega), if_neg (by omega), if_neg (by omega)]
  | case2 => rfl
  | case3 => rfl
/-- The heap's order everywhere but at j; what hangs under j fits what is above j. -/
theorem hup_heap (l : List Ext) (j : Nat) (hj : j < l.length) (h1 : ∀ k, 0 < k → k < l.length → k ≠ j → extLt (gx l k) (gx l ((k - 1) / 2)) = false)
    (h2 : 0 < j → ∀ k, 0 < k → k < l.length → (k - 1) / 2 = j → extLt (gx l k) (gx l ((j - 1) / 2)) = false) : HeapN (hup l j) l.length := by
  fun_induction hup l j with
  | case1 l =>
    intro k hk1 hk2
    exact h1 k hk1 hk2 (by omega)
  | case3 l j h h3 =>
    intro k hk1 hk2
    by_cases e : k = j
    · subst e; simpa using h3
    · exact h1 k hk1 hk2 e
  | case2 l j h h3 ih =>
    have hp : (j - 1) / 2 < l.length := by omega
    have key := ih (by rw [swapL_len]; exact hp) ?_ ?_
    · rw [swapL_len] at key; exact key
    · intro k hk1 hk2 hk3
      rw [swapL_len] at hk2
      rw [gx_swap l _ _ _ hp hj, gx_swap l _ _ _ hp hj]
      by_cases e1 : k = j
      · subst e1
        rw [if_pos rfl, if_neg (by omega), if_pos rfl]
        rw [extLt_t] at h3; rw [extLt_f]; omega
      · rw [if_neg e1, if_neg hk3]
        have q1 := h1 k hk1 hk2 e1
        by_cases e2 : (k - 1) / 2 = j
        · rw [if_pos e2]
          exact h2 (by omega) k hk1 hk2 e2
        · rw [if_neg e2]
          by_cases e3 : (k - 1) / 2 = (j - 1) / 2
          · rw [if_pos e3]
            rw [e3] at q1
            rw [extLt_t] at h3; rw [extLt_f] at *; omega
          · rw [if_neg e3]; exact q1
    · intro hp0 k hk1 hk2 hk3
      rw [swapL_len] at hk2
      rw [gx_swap l _ _ _ hp hj, gx_swap l _ _ _ hp hj, if_neg (show ((j - 1) / 2 - 1) / 2 ≠ j by omega), if_neg (show ((j - 1) / 2 - 1) / 2 ≠ (j - 1) / 2 by omega)]
      have q0 := h1 ((j - 1) / 2) hp0 hp (by omega)
      by_cases e1 : k = j
      · subst e1; rw [if_pos rfl]; exact q0
      · rw [if_neg e1, if_neg (by omega)]
        have q1 := h1 k hk1 hk2 e1
        rw [hk3] at q1
        rw [extLt_f] at *; omega
theorem hdown_heap (l : List Ext) (i n : Nat) (hn : n ≤ l.length) (h1 : ∀ k, 0 < k → k < n → (k - 1) / 2 ≠ i → extLt (gx l k) (gx l ((k - 1) / 2)) = false)
    (h2 : 0 < i → ∀ k, 0 < k → k < n → (k - 1) / 2 = i → extLt (gx l k) (gx l ((i - 1) / 2)) = false) : HeapN (hdown l i n) n := by
  fun_induction hdown l i n with
  | case3 l i h =>
    intro k hk1 hk2
    exact h1 k hk1 hk2 (by omega)
  | case2 l i h h3 =>
    intro k hk1 hk2
    by_cases e : (k - 1) / 2 = i
    · rw [e]
      have h4 : extLt (gx l (kidN l i n)) (gx l i) = false := by simpa using h3
      unfold kidN at h4
      split at h4
      · rename_i h5
        have e2 : k = 2 * i + 1 ∨ k = 2 * i + 2 := by omega
        have h6 := h5.2
        rw [extLt_t] at h6
        rw [extLt_f] at *
        rcases e2 with rfl | rfl
        · omega
        · exact h4
      · rename_i h5
        have e2 : k = 2 * i + 1 ∨ k = 2 * i + 2 := by omega
        rcases e2 with rfl | rfl
        · exact h4
        · have h6 : extLt (gx l (2 * i + 2)) (gx l (2 * i + 1)) = false := by
            cases h7 : extLt (gx l (2 * i + 2)) (gx l (2 * i + 1)) with
            | true => exact absurd ⟨hk2, h7⟩ h5
            | false => rfl
          rw [extLt_f] at *; omega
    · exact h1 k hk1 hk2 e
  | case1 l i h h3 ih =>
    have hko := kidN_or l i n
    have hk : kidN l i n < n := by omega
    have hkl : kidN l i n < l.length := by omega
    have hil : i < l.length := by omega
    -- the smaller child
    have hmin : ∀ k, 0 < k → k < n → (k - 1) / 2 = i → extLt (gx l k) (gx l (kidN l i n)) = false := by
      intro k hk1 hk2 hk3
      have e2 : k = 2 * i + 1 ∨ k = 2 * i + 2 := by omega
      unfold kidN
      split
      · rename_i h5
        have h6 := h5.2
        rw [extLt_t] at h6
        rw [extLt_f]
        rcases e2 with rfl | rfl <;> omega
      · rename_i h5
        rcases e2 with rfl | rfl
        · rw [extLt_f]; omega
        · cases h7 : extLt (gx l (2 * i + 2)) (gx l (2 * i + 1)) with
          | true => exact absurd ⟨hk2, h7⟩ h5
          | false => rfl
    have hup : (kidN l i n - 1) / 2 = i := by rcases hko with h | h <;> omega
    generalize kidN l i n = c at *
    have key := ih (by rw [swapL_len]; exact hn) ?_ ?_
    · exact key
    · intro k hk1 hk2 hk3
      rw [gx_swap l _ _ _ hil hkl, gx_swap l _ _ _ hil hkl]
      by_cases e1 : k = c
      · subst e1
        rw [if_pos rfl, if_neg (by omega), if_pos hup]
        rw [extLt_t] at h3; rw [extLt_f]; omega
      · rw [if_neg e1, if_neg hk3]
        by_cases e2 : k = i
        · subst e2
          rw [if_pos rfl, if_neg (by omega)]
          exact h2 hk1 c (by omega) hk hup
        · rw [if_neg e2]
          by_cases e3 : (k - 1) / 2 = i
          · rw [if_pos e3]
            exact hmin k hk1 hk2 e3
          · rw [if_neg e3]; exact h1 k hk1 hk2 e3
    · intro hp0 k hk1 hk2 hk3
      rw [gx_swap l _ _ _ hil hkl, gx_swap l _ _ _ hil hkl, hup, if_neg (by omega), if_neg (by omega), if_neg (by omega), if_pos rfl]
      have q1 := h1 k hk1 hk2 (by omega)
      rw [hk3] at q1
      exact q1
theorem heap_root {l : List Ext} {n : Nat} (h : HeapN l n) : ∀ k, k < n → extLt (gx l k) (gx l 0) = false := by
  intro k
  induction k using Nat.strongRecOn with
  | ind k ih =>
    intro hk
    by_cases h0 : k = 0
    · subst h0; rw [extLt_f]; omega
    · have h1 := ih ((k - 1) / 2) (by omega) (by omega)
      have h2 := h k (by omega) hk
      rw [extLt_f] at *; omega
def Heap (l : List Ext) : Prop := HeapN l l.length
theorem heap_nil : Heap [] := fun _ _ h => absurd h (by simp)
theorem gx_app {l : List Ext} {x : Ext} {k : Nat} (h : k < l.length) : gx (l ++ [x]) k = gx l k := by
  unfold gx; rw [List.getD_eq_getElem?_getD, List.getD_eq_getElem?_getD, List.getElem?_append_left h]
theorem hpush_heap {l : List Ext} (h : Heap l) (x : Ext) : Heap (hpush l x) := by
  have e : (l ++ [x]).length = l.length + 1 := by simp
  have := hup_heap (l ++ [x]) l.length (by omega) ?_ ?_
  · unfold Heap hpush
    rw [hup_len]
    exact this
  · intro k h1 h2 h3
    rw [gx_app (by omega), gx_app (by omega)]
    exact h k h1 (by omega)
  · intro h0 k h1 h2 h3
    omega
theorem hpush_perm (l : List Ext) (x : Ext) : (hpush l x).Perm (x :: l) :=
  (hup_perm _ _ (by simp)).trans (List.perm_append_singleton x l)
theorem hpush_len (l : List Ext) (x : Ext) : (hpush l x).length = l.length + 1 := by unfold hpush; rw [hup_len]; simp
theorem gx_take {l : List Ext} {n k : Nat} (h : k < n) : gx (l.take n) k = gx l k := by
  unfold gx; rw [List.getD_eq_getElem?_getD, List.getD_eq_getElem?_getD, List.getElem?_take_of_lt h]
theorem hrest_len (l : List Ext) : (hrest l).length = l.length - 1 := by
  unfold hrest; rw [List.length_take, hdown_len, swapL_len]; omega
theorem hrest_heap {l : List Ext} (h : Heap l) (h0 : l ≠ []) : Heap (hrest l) := by
  have hl := List.length_pos_iff.2 h0
  have hd := hdown_heap (swapL l 0 (l.length - 1)) 0 (l.length - 1) (by rw [swapL_len]; omega) ?_ (fun h => absurd h (by omega))
  · intro k h1 h2
    rw [hrest_len] at h2
    have := hd k h1 h2
    unfold hrest
    rw [gx_take h2, gx_take (by omega)]
    exact this
  · intro k h1 h2 h3
    rw [gx_swap l _ _ _ hl (by omega), gx_swap l _ _ _ hl (by omega), if_neg (by omega), if_neg (by omega), if_neg (by omega), if_neg h3]
    exact h k h1 (by omega)
theorem hpop_top (l : List Ext) (h0 : l ≠ []) : gx (hdown (swapL l 0 (l.length - 1)) 0 (l.length - 1)) (l.length - 1) = gx l 0 := by
  have hl := List.length_pos_iff.2 h0
  rw [hdown_ge _ _ _ (by rw [swapL_len]; omega) _ (Nat.le_refl _), gx_swap l _ _ _ hl (by omega), if_pos rfl]
theorem hrest_perm (l : List Ext) (h0 : l ≠ []) : l.Perm (gx l 0 :: hrest l) := by
  have hl := List.length_pos_iff.2 h0
  have hp := (hdown_perm (swapL l 0 (l.length - 1)) 0 (l.length - 1) (by rw [swapL_len]; omega)).trans (swapL_perm l 0 (l.length - 1) hl (by omega))
  have ht := hpop_top l h0
  have hlen : (hdown (swapL l 0 (l.length - 1)) 0 (l.length - 1)).length = l.length := by rw [hdown_len, swapL_len]
  unfold hrest
  generalize hdown (swapL l 0 (l.length - 1)) 0 (l.length - 1) = d at *
  have e : d = d.take (l.length - 1) ++ [gx l 0] := by
    rw [← ht, gx_lt (by omega)]
    have := List.take_append_drop (l.length - 1) d
    rw [List.drop_eq_getElem_cons (by omega), List.drop_of_length_le (by omega)] at this
    exact this.symm
  have h2 : l.Perm (d.take (l.length - 1) ++ [gx l 0]) := by rw [← e]; exact hp.symm
  exact h2.trans (List.perm_append_singleton _ _)
/-- The first one is the least. -/
theorem heap_min {l : List Ext} (h : Heap l) {x : Ext} (hx : x ∈ l) : extLt x (gx l 0) = false := by
  obtain ⟨k, hk, e⟩ := List.mem_iff_getElem.1 hx
  have := heap_root h k hk
  rw [gx_lt hk, e] at this
  exact this
end Go.Proofs.YtklgknepamebdaaGreatDoor
/- Plain: the fastest ways from a node, as they are searched. -/
namespace Go.Proofs.YtklgknepamebdaaGreatDoor

structure Gph where
  m : Nat
  nn : Nat
  to_ : Nat → Nat
  from_ : Nat → Nat
  outs : Nat → List Nat
  ban : Nat → Nat → Bool
  out : Nat → Int → Int
def endT : Int := 345686400000
structure GOk (g : Gph) : Prop where
  to_lt : ∀ k, k < g.m → g.to_ k < g.nn
  outs_lt : ∀ n k, k ∈ g.outs n → k < g.m
  outs_iff : ∀ n k, n < g.nn → k < g.m → (k ∈ g.outs n ↔ g.from_ k = n)
  outs_len : ∀ n, (g.outs n).length ≤ g.m
  gt : ∀ k t, k < g.m → 0 ≤ t → t < g.out k t
  mono : ∀ k t t', k < g.m → 0 ≤ t → t ≤ t' → g.out k t ≤ g.out k t'
structure Sr where
  first : List Int
  last : List Int
  prev : List Int
  best : List Int
  done : List Bool
  q : List Ext
def gi (l : List Int) (k : Nat) : Int := l.getD k 0
def gb (l : List Bool) (k : Nat) : Bool := l.getD k false
theorem gi_set (l : List Int) (i k : Nat) (v : Int) (hi : i < l.length) : gi (l.set i v) k = if k = i then v else gi l k := by
  unfold gi
  rw [List.getD_eq_getElem?_getD, List.getElem?_set]
  by_cases h : k = i
  · subst h; simp [hi]
  · simp [h, Ne.symm h]
theorem gb_set (l : List Bool) (i k : Nat) (v : Bool) (hi : i < l.length) : gb (l.set i v) k = if k = i then v else gb l k := by
  unfold gb
  rw [List.getD_eq_getElem?_getD, List.getElem?_set]
  by_cases h : k = i
  · subst h; simp [hi]
  · simp [h, Ne.symm h]
theorem gi_rep (n k : Nat) (h : k < n) : gi (List.replicate n (-1)) k = -1 := by unfold gi; simp [h]
theorem gb_rep (n k : Nat) : gb (List.replicate n false) k = false := by
  unfold gb
  rw [List.getD_eq_getElem?_getD, List.getElem?_replicate]
  split <;> rfl
/-- An arc is entered at a moment, behind another one. -/
def enterG (g : Gph) (s : Sr) (arc : Nat) (p : Int) (t : Int) : Sr :=
  if g.out arc t < endT ∧ (gi s.best arc < 0 ∨ g.out arc t < gi s.best arc) then
    { s with best := s.best.set arc (g.out arc t), prev := s.prev.set arc p, q := hpush s.q ⟨g.out arc t, arc⟩ } else s
def onG (g : Gph) (x : Nat) (t : Int) (s : Sr) (k : Nat) : Sr := if gb s.done k = false ∧ g.ban x k = false then enterG g s k (x : Int) t else s
def initG (g : Gph) (a : Nat) (at_ : Int) : Sr := ⟨(List.replicate g.nn (-1)).set a at_, List.replicate g.nn (-1), List.replicate g.m (-1), List.replicate g.m (-1), List.replicate g.m false, []⟩
def startG (g : Gph) (a : Nat) (at_ : Int) : Sr := (g.outs a).foldl (fun s k => enterG g s k (-1) at_) (initG g a at_)
def markG (g : Gph) (s : Sr) (x : Ext) : Sr :=
  if gi s.first (g.to_ x.arc) < 0 then { s with done := s.done.set x.arc true, q := hrest s.q, first := s.first.set (g.to_ x.arc) x.at_, last := s.last.set (g.to_ x.arc) (x.arc : Int) }
  else { s with done := s.done.set x.arc true, q := hrest s.q }
def popG (g : Gph) (s : Sr) : Sr :=
  if gb s.done (gx s.q 0).arc then { s with q := hrest s.q }
  else (g.outs (g.to_ (gx s.q 0).arc)).foldl (onG g (gx s.q 0).arc (gx s.q 0).at_) (markG g s (gx s.q 0))
def runG (g : Gph) : Nat → Sr → Sr
  | 0, s => s
  | f + 1, s => if s.q = [] then s else runG g f (popG g s)
/-- One can come out of an arc at a moment. -/
inductive Rch (g : Gph) (a : Nat) (at_ : Int) : Nat → Int → Prop
  | start (k : Nat) : k < g.m → g.from_ k = a → g.out k at_ < endT → Rch g a at_ k (g.out k at_)
  | step (k i : Nat) (t : Int) : Rch g a at_ k t → i < g.m → g.from_ i = g.to_ k → g.ban k i = false → g.out i t < endT → Rch g a at_ i (g.out i t)
section
variable {g : Gph} {a : Nat} {at_ : Int}
theorem Rch.lt {k : Nat} {t : Int} (h : Rch g a at_ k t) : k < g.m := by cases h <;> assumption
theorem Rch.ge (hg : GOk g) (h0 : 0 ≤ at_) {k : Nat} {t : Int} (h : Rch g a at_ k t) : at_ < t ∧ t < endT := by
  induction h with
  | start k hk _ he => exact ⟨hg.gt k at_ hk h0, he⟩
  | step k i t _ hi _ _ he ih => exact ⟨by have := hg.gt i t hi (by omega); omega, he⟩
/-- What holds while ways are searched; cl0, cl: which arcs were asked already. -/
structure Inv (g : Gph) (a : Nat) (at_ : Int) (s : Sr) (T : Int) (cl0 : Nat → Prop) (cl : Nat → Nat → Prop) : Prop where
  lf : s.first.length = g.nn
  ll : s.last.length = g.nn
  lp : s.prev.length = g.m
  lb : s.best.length = g.m
  ld : s.done.length = g.m
  t0 : at_ ≤ T
  heap : Heap s.q
  qr : ∀ x ∈ s.q, x.arc < g.m ∧ Rch g a at_ x.arc x.at_ ∧ 0 ≤ gi s.best x.arc ∧ gi s.best x.arc ≤ x.at_ ∧ T ≤ x.at_
  b2 : ∀ k, k < g.m → 0 ≤ gi s.best k → Rch g a at_ k (gi s.best k)
  b3 : ∀ k, k < g.m → 0 ≤ gi s.best k → gb s.done k = false → (⟨gi s.best k, k⟩ : Ext) ∈ s.q
  d1 : ∀ k, k < g.m → gb s.done k = true → 0 ≤ gi s.best k ∧ gi s.best k ≤ T
  c0 : ∀ i, i < g.m → g.from_ i = a → cl0 i → g.out i at_ < endT → 0 ≤ gi s.best i ∧ gi s.best i ≤ g.out i at_
  c1 : ∀ k i, k < g.m → i < g.m → gb s.done k = true → g.from_ i = g.to_ k → g.ban k i = false → cl k i → g.out i (gi s.best k) < endT → 0 ≤ gi s.best i ∧ gi s.best i ≤ g.out i (gi s.best k)
  p1 : ∀ k, k < g.m → 0 ≤ gi s.best k → (gi s.prev k = -1 ∧ g.from_ k = a ∧ gi s.best k = g.out k at_) ∨ ∃ p : Nat, p < g.m ∧ gi s.prev k = (p : Int) ∧ gb s.done p = true ∧ g.from_ k = g.to_ p ∧ g.ban p k = false ∧ gi s.best k = g.out k (gi s.best p)
  f0 : gi s.first a = at_ ∧ gi s.last a = -1
  f1 : ∀ n, n < g.nn → n ≠ a → (gi s.first n = -1 ∧ gi s.last n = -1 ∧ ∀ k, k < g.m → gb s.done k = true → g.to_ k ≠ n) ∨ ∃ k : Nat, k < g.m ∧ gb s.done k = true ∧ g.to_ k = n ∧ gi s.last n = (k : Int) ∧ gi s.first n = gi s.best k ∧ ∀ k', k' < g.m → gb s.done k' = true → g.to_ k' = n → gi s.best k ≤ gi s.best k'
/-- Where an arc is entered from. -/
def Src (g : Gph) (a : Nat) (at_ : Int) (s : Sr) (i : Nat) (p t : Int) : Prop :=
  (p = -1 ∧ g.from_ i = a ∧ t = at_) ∨ ∃ k : Nat, k < g.m ∧ p = (k : Int) ∧ gb s.done k = true ∧ g.from_ i = g.to_ k ∧ g.ban k i = false ∧ t = gi s.best k
theorem enter_done (g : Gph) (s : Sr) (i : Nat) (p t : Int) : (enterG g s i p t).done = s.done := by unfold enterG; split <;> rfl
theorem enter_best (g : Gph) (s : Sr) (i : Nat) (p t : Int) (k : Nat) (hk : k ≠ i) (hl : i < s.best.length) : gi (enterG g s i p t).best k = gi s.best k := by
  unfold enterG; split
  · show gi (s.best.set i _) k = _
    rw [gi_set _ _ _ _ hl, if_neg hk]
  · rfl
theorem enter_inv (hg : GOk g) (h0 : 0 ≤ at_) {s : Sr} {T : Int} {cl0 : Nat → Prop} {cl : Nat → Nat → Prop} (h : Inv g a at_ s T cl0 cl) {i : Nat} {p t : Int} (hi : i < g.m) (hd : gb s.done i = false) (hs : Src g a at_ s i p t) (hT : T ≤ t) :
    Inv g a at_ (enterG g s i p t) T (fun j => cl0 j ∨ (p = -1 ∧ j = i)) (fun k j => cl k j ∨ ((k : Int) = p ∧ j = i)) := by
  have ht0 : 0 ≤ t := by have := h.t0; omega
  have hgt := hg.gt i t hi ht0
  have hR : g.out i t < endT → Rch g a at_ i (g.out i t) := by
    intro he
    rcases hs with ⟨_, h1, rfl⟩ | ⟨k, hk, _, hdk, h1, h2, rfl⟩
    · exact .start i hi h1 he
    · exact .step k i _ (h.b2 k hk (h.d1 k hk hdk).1) hi h1 h2 he
  by_cases hc : g.out i t < endT ∧ (gi s.best i < 0 ∨ g.out i t < gi s.best i)
  · have e : enterG g s i p t = { s with best := s.best.set i (g.out i t), prev := s.prev.set i p, q := hpush s.q ⟨g.out i t, i⟩ } := by unfold enterG; rw [if_pos hc]
    rw [e]
    have hib : i < s.best.length := by rw [h.lb]; exact hi
    have hip : i < s.prev.length := by rw [h.lp]; exact hi
    have gbs : ∀ k, gi (s.best.set i (g.out i t)) k = if k = i then g.out i t else gi s.best k := fun k => gi_set _ _ _ _ hib
    have gps : ∀ k, gi (s.prev.set i p) k = if k = i then p else gi s.prev k := fun k => gi_set _ _ _ _ hip
    have hq : ∀ x, x ∈ hpush s.q ⟨g.out i t, i⟩ ↔ x = ⟨g.out i t, i⟩ ∨ x ∈ s.q := fun x => ((hpush_perm _ _).mem_iff).trans (by simp)
    have hne : ∀ k, gb s.done k = true → k ≠ i := fun k hk e => by rw [e, hd] at hk; cases hk
    refine ⟨h.lf, h.ll, by simpa using h.lp, by simpa using h.lb, h.ld, h.t0, hpush_heap h.heap _, ?_, ?_, ?_, ?_, ?_, ?_, ?_, h.f0, ?_⟩
    · intro x hx
      rw [gbs]
      rcases (hq x).1 hx with rfl | hx
      · exact ⟨hi, hR hc.1, by rw [if_pos rfl]; omega, by rw [if_pos rfl]; exact Int.le_refl _, by show T ≤ g.out i t; omega⟩
      · obtain ⟨q1, q2, q3, q4, q5⟩ := h.qr x hx
        refine ⟨q1, q2, ?_, ?_, q5⟩
        · split <;> omega
        · split
          · rename_i e; rw [e] at q3 q4; omega
          · exact q4
    · intro k hk hb
      rw [gbs] at hb ⊢
      split
      · rename_i e; subst e; exact hR hc.1
      · rename_i e; rw [if_neg e] at hb; exact h.b2 k hk hb
    · intro k hk hb hdk
      rw [gbs] at hb ⊢
      rw [hq]
      split
      · rename_i e; subst e; exact .inl rfl
      · rename_i e; rw [if_neg e] at hb; exact .inr (h.b3 k hk hb hdk)
    · intro k hk hdk
      rw [gbs, if_neg (hne k hdk)]
      exact h.d1 k hk hdk
    · intro j hj hf hcl he
      rw [gbs]
      split
      · rename_i e; subst e
        rcases hcl with hcl | ⟨hp, _⟩
        · have := h.c0 j hj hf hcl he; omega
        · rcases hs with ⟨_, _, rfl⟩ | ⟨k, _, rfl, _⟩
          · omega
          · omega
      · rename_i e
        rcases hcl with hcl | ⟨_, h2⟩
        · exact h.c0 j hj hf hcl he
        · exact absurd h2 e
    · intro k j hk hj hdk hf hb hcl he
      rw [gbs, gbs, if_neg (hne k hdk)]
      rw [gbs, if_neg (hne k hdk)] at he
      split
      · rename_i e; subst e
        rcases hcl with hcl | ⟨hp, _⟩
        · have := h.c1 k j hk hj hdk hf hb hcl he; omega
        · rcases hs with ⟨h1, _, _⟩ | ⟨k', _, h1, _, _, _, rfl⟩
          · omega
          · have : k = k' := by omega
            subst this; omega
      · rename_i e
        rcases hcl with hcl | ⟨_, h2⟩
        · exact h.c1 k j hk hj hdk hf hb hcl he
        · exact absurd h2 e
    · intro k hk hb
      rw [gbs] at hb ⊢
      rw [gps]
      by_cases e : k = i
      · subst e
        rw [if_pos rfl, if_pos rfl]
        rcases hs with ⟨h1, h2, rfl⟩ | ⟨k', h1, h2, h3, h4, h5, rfl⟩
        · exact .inl ⟨h1, h2, rfl⟩
        · exact .inr ⟨k', h1, h2, h3, h4, h5, by rw [gbs, if_neg (hne k' h3)]⟩
      · rw [if_neg e] at hb ⊢
        rw [if_neg e]
        rcases h.p1 k hk hb with h1 | ⟨p', h1, h2, h3, h4, h5, h6⟩
        · exact .inl h1
        · exact .inr ⟨p', h1, h2, h3, h4, h5, by rw [gbs, if_neg (hne p' h3)]; exact h6⟩
    · intro n hn hna
      rcases h.f1 n hn hna with h1 | ⟨k, h1, h2, h3, h4, h5, h6⟩
      · exact .inl h1
      · refine .inr ⟨k, h1, h2, h3, h4, by rw [gbs, if_neg (hne k h2)]; exact h5, fun k' hk' hd' ht' => ?_⟩
        rw [gbs, gbs, if_neg (hne k h2), if_neg (hne k' hd')]
        exact h6 k' hk' hd' ht'
  · have e : enterG g s i p t = s := by unfold enterG; rw [if_neg hc]
    rw [e]
    have hcl : g.out i t < endT → 0 ≤ gi s.best i ∧ gi s.best i ≤ g.out i t := by
      intro he
      have : ¬ (gi s.best i < 0 ∨ g.out i t < gi s.best i) := fun h2 => hc ⟨he, h2⟩
      omega
    refine ⟨h.lf, h.ll, h.lp, h.lb, h.ld, h.t0, h.heap, h.qr, h.b2, h.b3, h.d1, ?_, ?_, h.p1, h.f0, h.f1⟩
    · intro j hj hf hc2 he
      rcases hc2 with hc2 | ⟨hp, rfl⟩
      · exact h.c0 j hj hf hc2 he
      · rcases hs with ⟨_, _, rfl⟩ | ⟨k, _, rfl, _⟩
        · exact hcl he
        · omega
    · intro k j hk hj hdk hf hb hc2 he
      rcases hc2 with hc2 | ⟨hp, rfl⟩
      · exact h.c1 k j hk hj hdk hf hb hc2 he
      · rcases hs with ⟨h1, _, _⟩ | ⟨k', _, h1, _, _, _, rfl⟩
        · omega
        · have : k = k' := by omega
          subst this; exact hcl he
end
end Go.Proofs.YtklgknepamebdaaGreatDoor
/- Plain: the search comes to an end; what it found. -/
namespace Go.Proofs.YtklgknepamebdaaGreatDoor
section
variable {g : Gph} {a : Nat} {at_ : Int}
theorem Inv.mono {s : Sr} {T : Int} {cl0 cl0' : Nat → Prop} {cl cl' : Nat → Nat → Prop} (h : Inv g a at_ s T cl0 cl) (h0 : ∀ i, i < g.m → g.from_ i = a → cl0' i → cl0 i)
    (h1 : ∀ k i, k < g.m → i < g.m → gb s.done k = true → g.from_ i = g.to_ k → g.ban k i = false → cl' k i → cl k i) : Inv g a at_ s T cl0' cl' :=
  ⟨h.lf, h.ll, h.lp, h.lb, h.ld, h.t0, h.heap, h.qr, h.b2, h.b3, h.d1, fun i hi hf hc he => h.c0 i hi hf (h0 i hi hf hc) he, fun k i hk hi hd hf hb hc he => h.c1 k i hk hi hd hf hb (h1 k i hk hi hd hf hb hc) he, h.p1, h.f0, h.f1⟩
theorem init_inv (ha : a < g.nn) : Inv g a at_ (initG g a at_) at_ (fun _ => False) (fun _ _ => True) := by
  have hb : ∀ k, k < g.m → gi (initG g a at_).best k = -1 := fun k hk => gi_rep _ _ hk
  have hd : ∀ k, gb (initG g a at_).done k = false := fun k => gb_rep _ k
  refine ⟨by simp [initG], by simp [initG], by simp [initG], by simp [initG], by simp [initG], Int.le_refl _, heap_nil, fun x hx => absurd hx (by simp [initG]), ?_, ?_, ?_, fun _ _ _ h => absurd h id, ?_, ?_, ?_, ?_⟩
  · intro k hk h; rw [hb k hk] at h; omega
  · intro k hk h; rw [hb k hk] at h; omega
  · intro k hk h; rw [hd] at h; cases h
  · intro k i hk hi h; rw [hd] at h; cases h
  · intro k hk h; rw [hb k hk] at h; omega
  · refine ⟨?_, gi_rep _ _ ha⟩
    show gi ((List.replicate g.nn (-1)).set a at_) a = at_
    rw [gi_set _ _ _ _ (by simpa using ha), if_pos rfl]
  · intro n hn hna
    refine .inl ⟨?_, gi_rep _ _ hn, fun k _ h => by rw [hd] at h; cases h⟩
    show gi ((List.replicate g.nn (-1)).set a at_) n = -1
    rw [gi_set _ _ _ _ (by simpa using ha), if_neg hna]
    exact gi_rep _ _ hn
theorem fold_start (hg : GOk g) (h0 : 0 ≤ at_) : ∀ (l : List Nat) (s : Sr) (cl0 : Nat → Prop), Inv g a at_ s at_ cl0 (fun _ _ => True) → (∀ k, gb s.done k = false) → (∀ k ∈ l, k < g.m ∧ g.from_ k = a) →
    Inv g a at_ (l.foldl (fun s k => enterG g s k (-1) at_) s) at_ (fun j => cl0 j ∨ j ∈ l) (fun _ _ => True) ∧ ∀ k, gb (l.foldl (fun s k => enterG g s k (-1) at_) s).done k = false
  | [], s, cl0, h, hd, _ => ⟨h.mono (fun i _ _ hc => hc.elim id (fun h => absurd h (by simp))) (fun _ _ _ _ _ _ _ _ => trivial), hd⟩
  | k :: l, s, cl0, h, hd, hl => by
    rw [List.foldl_cons]
    have hk := hl k (by simp)
    have h1 := enter_inv hg h0 h hk.1 (hd k) (.inl ⟨rfl, hk.2, rfl⟩) (Int.le_refl _)
    have h2 := fold_start hg h0 l _ (fun j => cl0 j ∨ j = k) (h1.mono (fun i _ _ hc => hc.imp id (fun e => ⟨rfl, e⟩)) (fun _ _ _ _ _ _ _ _ => .inl trivial)) (fun j => by rw [enter_done]; exact hd j) (fun j hj => hl j (by simp [hj]))
    refine ⟨h2.1.mono (fun i _ _ hc => ?_) (fun _ _ _ _ _ _ _ _ => trivial), h2.2⟩
    rcases hc with hc | hc
    · exact .inl (.inl hc)
    · rcases List.mem_cons.1 hc with rfl | hc
      · exact .inl (.inr rfl)
      · exact .inr hc
theorem start_inv (hg : GOk g) (h0 : 0 ≤ at_) (ha : a < g.nn) : Inv g a at_ (startG g a at_) at_ (fun _ => True) (fun _ _ => True) :=
  (fold_start hg h0 (g.outs a) _ _ (init_inv ha) (fun k => gb_rep _ k) (fun k hk => ⟨hg.outs_lt a k hk, (hg.outs_iff a k ha (hg.outs_lt a k hk)).1 hk⟩)).1.mono (fun i hi hf _ => .inr ((hg.outs_iff a i ha hi).2 hf)) (fun _ _ _ _ _ _ _ h => h)
theorem mark_inv (h0 : 0 ≤ at_) (hg : GOk g) {s : Sr} {T : Int} (h : Inv g a at_ s T (fun _ => True) (fun _ _ => True)) (hq : s.q ≠ []) (hd : gb s.done (gx s.q 0).arc = false) :
    gi s.best (gx s.q 0).arc = (gx s.q 0).at_ ∧ Inv g a at_ (markG g s (gx s.q 0)) (gx s.q 0).at_ (fun _ => True) (fun k _ => k ≠ (gx s.q 0).arc) := by
  have hp := hrest_perm s.q hq
  have hx : gx s.q 0 ∈ s.q := hp.mem_iff.2 (by simp)
  have hmin := fun y hy => heap_min h.heap (x := y) hy
  generalize gx s.q 0 = x at *
  obtain ⟨q1, q2, q3, q4, q5⟩ := h.qr x hx
  have hb : gi s.best x.arc = x.at_ := by
    have := hmin _ (h.b3 x.arc q1 q3 hd)
    rw [extLt_f] at this
    have this : ¬ (gi s.best x.arc < x.at_) := fun h2 => this (.inl h2)
    omega
  refine ⟨hb, ?_⟩
  have hxd : x.arc < s.done.length := by rw [h.ld]; exact q1
  have hds : ∀ k, gb (s.done.set x.arc true) k = if k = x.arc then true else gb s.done k := fun k => gb_set _ _ _ _ hxd
  have hdk : ∀ k, gb (s.done.set x.arc true) k = true → k = x.arc ∨ gb s.done k = true := by
    intro k hk
    rw [hds] at hk
    by_cases e : k = x.arc
    · exact .inl e
    · rw [if_neg e] at hk; exact .inr hk
  have hne : ∀ k, gb s.done k = true → k ≠ x.arc := fun k hk e => by rw [e, hd] at hk; cases hk
  have hr : ∀ y, y ∈ hrest s.q → y ∈ s.q := fun y hy => hp.mem_iff.2 (by simp [hy])
  -- what does not hang on first and last
  have core : ∀ fi la : List Int, fi.length = g.nn → la.length = g.nn → (gi fi a = at_ ∧ gi la a = -1) →
      (∀ n, n < g.nn → n ≠ a → (gi fi n = -1 ∧ gi la n = -1 ∧ ∀ k, k < g.m → gb (s.done.set x.arc true) k = true → g.to_ k ≠ n) ∨ ∃ k : Nat, k < g.m ∧ gb (s.done.set x.arc true) k = true ∧ g.to_ k = n ∧ gi la n = (k : Int) ∧ gi fi n = gi s.best k ∧ ∀ k', k' < g.m → gb (s.done.set x.arc true) k' = true → g.to_ k' = n → gi s.best k ≤ gi s.best k') →
      Inv g a at_ ⟨fi, la, s.prev, s.best, s.done.set x.arc true, hrest s.q⟩ x.at_ (fun _ => True) (fun k _ => k ≠ x.arc) := by
    intro fi la e1 e2 e3 e4
    refine ⟨e1, e2, h.lp, h.lb, by simpa using h.ld, by have := h.t0; omega, hrest_heap h.heap hq, ?_, h.b2, ?_, ?_, h.c0, ?_, ?_, e3, e4⟩
    · intro y hy
      obtain ⟨r1, r2, r3, r4, r5⟩ := h.qr y (hr y hy)
      have := hmin y (hr y hy)
      rw [extLt_f] at this
      exact ⟨r1, r2, r3, r4, by have : ¬ (y.at_ < x.at_) := fun h2 => this (.inl h2); omega⟩
    · intro k hk hb2 hdk2
      have hkx : k ≠ x.arc := fun e => by rw [hds, if_pos e] at hdk2; cases hdk2
      rw [hds, if_neg hkx] at hdk2
      have := hp.mem_iff.1 (h.b3 k hk hb2 hdk2)
      rcases List.mem_cons.1 this with e | h3
      · exact absurd (by rw [← e]) hkx
      · exact h3
    · intro k hk hk2
      rcases hdk k hk2 with e | hk3
      · subst e; show 0 ≤ gi s.best x.arc ∧ gi s.best x.arc ≤ x.at_; omega
      · have := h.d1 k hk hk3; exact ⟨this.1, Int.le_trans this.2 q5⟩
    · intro k i hk hi hk2 hf hbn hc he
      rcases hdk k hk2 with e | hk3
      · exact absurd e hc
      · exact h.c1 k i hk hi hk3 hf hbn trivial he
    · intro k hk hb2
      rcases h.p1 k hk hb2 with h1 | ⟨p, h1, h2, h3, h4, h5, h6⟩
      · exact .inl h1
      · exact .inr ⟨p, h1, h2, by rw [hds, if_neg (hne p h3)]; exact h3, h4, h5, h6⟩
  have hto := hg.to_lt x.arc q1
  unfold markG
  by_cases hf : gi s.first (g.to_ x.arc) < 0
  · rw [if_pos hf]
    have hna : g.to_ x.arc ≠ a := fun e => by rw [e, h.f0.1] at hf; omega
    have hfl : g.to_ x.arc < s.first.length := by rw [h.lf]; exact hto
    have hll : g.to_ x.arc < s.last.length := by rw [h.ll]; exact hto
    refine core _ _ (by simpa using h.lf) (by simpa using h.ll) ?_ ?_
    · rw [gi_set _ _ _ _ hfl, gi_set _ _ _ _ hll, if_neg (Ne.symm hna), if_neg (Ne.symm hna)]
      exact h.f0
    · intro n hn hna2
      rw [gi_set _ _ _ _ hfl, gi_set _ _ _ _ hll]
      by_cases e : n = g.to_ x.arc
      · rw [if_pos e, if_pos e]
        refine .inr ⟨x.arc, q1, by rw [hds, if_pos rfl], e.symm, rfl, hb.symm, fun k' hk' hd' ht' => ?_⟩
        rcases hdk k' hd' with e2 | hd2
        · rw [e2]; exact Int.le_refl _
        · exfalso
          rcases h.f1 n hn hna2 with ⟨_, _, h3⟩ | ⟨k, h1, h2, h3, h4, h5, h6⟩
          · exact h3 k' hk' hd2 ht'
          · rw [← e, h5] at hf
            have := h.d1 k h1 h2; omega
      · rw [if_neg e, if_neg e]
        rcases h.f1 n hn hna2 with ⟨h1, h2, h3⟩ | ⟨k, h1, h2, h3, h4, h5, h6⟩
        · refine .inl ⟨h1, h2, fun k hk hk2 => ?_⟩
          rcases hdk k hk2 with e2 | hk3
          · rw [e2]; exact Ne.symm e
          · exact h3 k hk hk3
        · refine .inr ⟨k, h1, by rw [hds, if_neg (hne k h2)]; exact h2, h3, h4, h5, fun k' hk' hd' ht' => ?_⟩
          rcases hdk k' hd' with e2 | hd2
          · rw [e2] at ht'; exact absurd ht'.symm e
          · exact h6 k' hk' hd2 ht'
  · rw [if_neg hf]
    refine core _ _ h.lf h.ll h.f0 ?_
    intro n hn hna2
    rcases h.f1 n hn hna2 with ⟨h1, h2, h3⟩ | ⟨k, h1, h2, h3, h4, h5, h6⟩
    · refine .inl ⟨h1, h2, fun k hk hk2 => ?_⟩
      rcases hdk k hk2 with e2 | hk3
      · rw [e2]; intro e; rw [e, h1] at hf; omega
      · exact h3 k hk hk3
    · refine .inr ⟨k, h1, by rw [hds, if_neg (hne k h2)]; exact h2, h3, h4, h5, fun k' hk' hd' ht' => ?_⟩
      rcases hdk k' hd' with e2 | hd2
      · rw [e2, hb]; have := h.d1 k h1 h2; omega
      · exact h6 k' hk' hd2 ht'
theorem on_done (x : Nat) (t : Int) (s : Sr) (k : Nat) : (onG g x t s k).done = s.done := by unfold onG; split; exact enter_done _ _ _ _ _; rfl
theorem fold_on (hg : GOk g) (h0 : 0 ≤ at_) {x : Nat} (hxm : x < g.m) {T : Int} : ∀ (l : List Nat) (s : Sr) (cl : Nat → Nat → Prop), Inv g a at_ s T (fun _ => True) cl → gi s.best x = T → gb s.done x = true → (∀ k ∈ l, k < g.m ∧ g.from_ k = g.to_ x) →
    Inv g a at_ (l.foldl (onG g x T) s) T (fun _ => True) (fun k j => cl k j ∨ (k = x ∧ j ∈ l))
  | [], s, cl, h, _, _, _ => h.mono (fun _ _ _ h => h) (fun _ _ _ _ _ _ _ hc => hc.elim id (fun h => absurd h.2 (by simp)))
  | k :: l, s, cl, h, hb, hd, hl => by
    rw [List.foldl_cons]
    have hk := hl k (by simp)
    have key : Inv g a at_ (onG g x T s k) T (fun _ => True) (fun k' j => cl k' j ∨ (k' = x ∧ j = k)) ∧ gi (onG g x T s k).best x = T := by
      unfold onG
      by_cases hc : gb s.done k = false ∧ g.ban x k = false
      · rw [if_pos hc]
        have h1 := enter_inv hg h0 h hk.1 hc.1 (.inr ⟨x, hxm, rfl, hd, hk.2, hc.2, hb.symm⟩) (Int.le_refl _)
        refine ⟨h1.mono (fun _ _ _ h => .inl h) (fun k' j _ _ _ _ _ hc2 => hc2.imp id (fun e => ⟨by omega, e.2⟩)), ?_⟩
        rw [enter_best _ _ _ _ _ _ (fun e => by rw [e, hc.1] at hd; cases hd) (by rw [h.lb]; exact hk.1)]
        exact hb
      · rw [if_neg hc]
        refine ⟨⟨h.lf, h.ll, h.lp, h.lb, h.ld, h.t0, h.heap, h.qr, h.b2, h.b3, h.d1, h.c0, ?_, h.p1, h.f0, h.f1⟩, hb⟩
        intro k' j hk' hj hdk hf hbn hc2 he
        rcases hc2 with hc2 | ⟨rfl, rfl⟩
        · exact h.c1 k' j hk' hj hdk hf hbn hc2 he
        · have hdj : gb s.done j = true := by
            cases e : gb s.done j with
            | true => rfl
            | false => exact absurd ⟨e, hbn⟩ hc
          have h1 := h.d1 j hj hdj
          have h2 := h.t0
          have h3 := hg.gt j (gi s.best k') hj (by omega)
          omega
    have h2 := fold_on hg h0 hxm l _ _ key.1 key.2 (by rw [on_done]; exact hd) (fun j hj => hl j (by simp [hj]))
    refine h2.mono (fun _ _ _ h => h) (fun k' j _ _ _ _ _ hc => ?_)
    rcases hc with hc | ⟨e1, hc⟩
    · exact .inl (.inl hc)
    · rcases List.mem_cons.1 hc with rfl | hc
      · exact .inl (.inr ⟨e1, rfl⟩)
      · exact .inr ⟨e1, hc⟩
theorem pop_inv (hg : GOk g) (h0 : 0 ≤ at_) {s : Sr} {T : Int} (h : Inv g a at_ s T (fun _ => True) (fun _ _ => True)) (hq : s.q ≠ []) : ∃ T', Inv g a at_ (popG g s) T' (fun _ => True) (fun _ _ => True) := by
  have hp := hrest_perm s.q hq
  have hx : gx s.q 0 ∈ s.q := hp.mem_iff.2 (by simp)
  unfold popG
  cases hd : gb s.done (gx s.q 0).arc with
  | true =>
    rw [if_pos rfl]
    refine ⟨T, h.lf, h.ll, h.lp, h.lb, h.ld, h.t0, hrest_heap h.heap hq, fun y hy => h.qr y (hp.mem_iff.2 (by simp [hy])), h.b2, ?_, h.d1, h.c0, h.c1, h.p1, h.f0, h.f1⟩
    intro k hk hb hdk
    have hdk : gb s.done k = false := hdk
    rcases List.mem_cons.1 (hp.mem_iff.1 (h.b3 k hk hb hdk)) with e | h3
    · rw [← e, hdk] at hd; cases hd
    · exact h3
  | false =>
    rw [if_neg (by simp)]
    obtain ⟨hb, hm⟩ := mark_inv h0 hg h hq hd
    have q1 := (h.qr _ hx).1
    have hto := hg.to_lt _ q1
    have hb2 : gi (markG g s (gx s.q 0)).best (gx s.q 0).arc = (gx s.q 0).at_ := by
      unfold markG; split <;> exact hb
    have hd2 : gb (markG g s (gx s.q 0)).done (gx s.q 0).arc = true := by
      have : (markG g s (gx s.q 0)).done = s.done.set (gx s.q 0).arc true := by unfold markG; split <;> rfl
      rw [this, gb_set _ _ _ _ (by rw [h.ld]; exact q1), if_pos rfl]
    have h2 := fold_on hg h0 q1 (g.outs (g.to_ (gx s.q 0).arc)) _ _ hm hb2 hd2 (fun k hk => ⟨hg.outs_lt _ k hk, (hg.outs_iff _ k hto (hg.outs_lt _ k hk)).1 hk⟩)
    refine ⟨_, h2.mono (fun _ _ _ h => h) (fun k i _ hi _ hf _ _ => ?_)⟩
    by_cases e : k = (gx s.q 0).arc
    · subst e
      exact .inr ⟨rfl, (hg.outs_iff _ i hto hi).2 hf⟩
    · exact .inl e
def meas (g : Gph) (s : Sr) : Nat := s.done.count false * (g.m + 1) + s.q.length
theorem enter_qlen (s : Sr) (i : Nat) (p t : Int) : (enterG g s i p t).q.length ≤ s.q.length + 1 := by
  unfold enterG; split
  · show (hpush s.q _).length ≤ _; rw [hpush_len]; exact Nat.le_refl _
  · exact Nat.le_succ _
theorem fold_qlen (x : Nat) (t : Int) : ∀ (l : List Nat) (s : Sr), (l.foldl (onG g x t) s).q.length ≤ s.q.length + l.length ∧ (l.foldl (onG g x t) s).done = s.done
  | [], s => ⟨Nat.le_refl _, rfl⟩
  | k :: l, s => by
    rw [List.foldl_cons]
    obtain ⟨h1, h2⟩ := fold_qlen x t l (onG g x t s k)
    have h3 : (onG g x t s k).q.length ≤ s.q.length + 1 := by
      unfold onG; split
      · exact enter_qlen _ _ _ _
      · exact Nat.le_succ _
    refine ⟨by rw [List.length_cons]; omega, h2.trans (on_done _ _ _ _)⟩
theorem start_qlen : ∀ (l : List Nat) (s : Sr), (l.foldl (fun s k => enterG g s k (-1) at_) s).q.length ≤ s.q.length + l.length ∧ (l.foldl (fun s k => enterG g s k (-1) at_) s).done = s.done
  | [], s => ⟨Nat.le_refl _, rfl⟩
  | k :: l, s => by
    rw [List.foldl_cons]
    obtain ⟨h1, h2⟩ := start_qlen l (enterG g s k (-1) at_)
    have h3 := enter_qlen (g := g) s k (-1) at_
    exact ⟨by rw [List.length_cons]; omega, h2.trans (enter_done _ _ _ _ _)⟩
theorem pop_meas (hg : GOk g) {s : Sr} (hq : s.q ≠ []) (hx : (gx s.q 0).arc < s.done.length) : meas g (popG g s) < meas g s := by
  have hl := List.length_pos_iff.2 hq
  have hr := hrest_len s.q
  unfold popG meas
  cases hd : gb s.done (gx s.q 0).arc with
  | true => rw [if_pos rfl]; show s.done.count false * (g.m + 1) + (hrest s.q).length < _; omega
  | false =>
    rw [if_neg (by simp)]
    obtain ⟨h1, h2⟩ := fold_qlen (g := g) (gx s.q 0).arc (gx s.q 0).at_ (g.outs (g.to_ (gx s.q 0).arc)) (markG g s (gx s.q 0))
    have h3 := hg.outs_len (g.to_ (gx s.q 0).arc)
    have h4 : (markG g s (gx s.q 0)).done = s.done.set (gx s.q 0).arc true := by unfold markG; split <;> rfl
    have h5 : (markG g s (gx s.q 0)).q = hrest s.q := by unfold markG; split <;> rfl
    rw [h5] at h1
    rw [h2, h4]
    have h6 : s.done[(gx s.q 0).arc] = false := by
      unfold gb at hd
      rw [List.getD_eq_getElem?_getD, List.getElem?_eq_getElem hx] at hd
      exact hd
    have h7 : (s.done.set (gx s.q 0).arc true).count false + 1 = s.done.count false := by
      have hpos : 0 < s.done.count false := List.count_pos_iff.2 (h6 ▸ List.getElem_mem hx)
      rw [List.count_set hx, h6]
      simp
      omega
    have h8 : s.done.count false * (g.m + 1) = (s.done.set (gx s.q 0).arc true).count false * (g.m + 1) + (g.m + 1) := by
      rw [← h7, Nat.succ_mul]
    omega
theorem run_inv (hg : GOk g) (h0 : 0 ≤ at_) : ∀ (f : Nat) (s : Sr) (T : Int), Inv g a at_ s T (fun _ => True) (fun _ _ => True) → meas g s ≤ f → (runG g f s).q = [] ∧ ∃ T', Inv g a at_ (runG g f s) T' (fun _ => True) (fun _ _ => True)
  | 0, s, T, h, hf => by
    refine ⟨List.eq_nil_of_length_eq_zero (by unfold meas at hf; show s.q.length = 0; omega), T, h⟩
  | f + 1, s, T, h, hf => by
    unfold runG
    by_cases hq : s.q = []
    · rw [if_pos hq]; exact ⟨hq, T, h⟩
    · rw [if_neg hq]
      obtain ⟨T', h'⟩ := pop_inv hg h0 h hq
      have hx : gx s.q 0 ∈ s.q := (hrest_perm s.q hq).mem_iff.2 (by simp)
      have := pop_meas (g := g) hg hq (by rw [h.ld]; exact (h.qr _ hx).1)
      exact run_inv hg h0 f _ T' h' (by omega)
def fuelG (g : Gph) : Nat := (g.m + 1) * (g.m + 1)
def searchG (g : Gph) (a : Nat) (at_ : Int) : Sr := runG g (fuelG g) (startG g a at_)
theorem start_meas (hg : GOk g) : meas g (startG g a at_) ≤ fuelG g := by
  obtain ⟨h1, h2⟩ := start_qlen (g := g) (at_ := at_) (g.outs a) (initG g a at_)
  have h3 := hg.outs_len a
  unfold meas startG fuelG
  rw [h2]
  have h4 : (initG g a at_).done.count false = g.m := by show (List.replicate g.m false).count false = _; simp
  have h5 : (initG g a at_).q.length = 0 := rfl
  rw [h4, Nat.succ_mul]
  omega
theorem search_inv (hg : GOk g) (h0 : 0 ≤ at_) (ha : a < g.nn) : (searchG g a at_).q = [] ∧ ∃ T, Inv g a at_ (searchG g a at_) T (fun _ => True) (fun _ _ => True) :=
  run_inv hg h0 _ _ _ (start_inv hg h0 ha) (start_meas hg)
/-- What a search found. -/
structure FoundG (g : Gph) (a : Nat) (at_ : Int) (s : Sr) : Prop where
  lf : s.first.length = g.nn
  ll : s.last.length = g.nn
  lp : s.prev.length = g.m
  rch : ∀ k, k < g.m → 0 ≤ gi s.best k → Rch g a at_ k (gi s.best k)
  min_ : ∀ k t, Rch g a at_ k t → 0 ≤ gi s.best k ∧ gi s.best k ≤ t
  prev : ∀ k, k < g.m → 0 ≤ gi s.best k → (gi s.prev k = -1 ∧ g.from_ k = a ∧ gi s.best k = g.out k at_) ∨ ∃ p : Nat, p < g.m ∧ gi s.prev k = (p : Int) ∧ 0 ≤ gi s.best p ∧ g.from_ k = g.to_ p ∧ g.ban p k = false ∧ gi s.best k = g.out k (gi s.best p)
  f0 : gi s.first a = at_ ∧ gi s.last a = -1
  f1 : ∀ n, n < g.nn → n ≠ a → (gi s.first n = -1 ∧ gi s.last n = -1 ∧ ∀ k t, Rch g a at_ k t → g.to_ k ≠ n) ∨ ∃ k : Nat, k < g.m ∧ 0 ≤ gi s.best k ∧ g.to_ k = n ∧ gi s.last n = (k : Int) ∧ gi s.first n = gi s.best k ∧ ∀ k' t, Rch g a at_ k' t → g.to_ k' = n → gi s.best k ≤ t
theorem search_found (hg : GOk g) (h0 : 0 ≤ at_) (ha : a < g.nn) : FoundG g a at_ (searchG g a at_) := by
  obtain ⟨hq, T, h⟩ := search_inv hg h0 ha
  generalize searchG g a at_ = s at *
  have hdn : ∀ k, k < g.m → 0 ≤ gi s.best k → gb s.done k = true := by
    intro k hk hb
    cases hd : gb s.done k with
    | true => rfl
    | false => have := h.b3 k hk hb hd; rw [hq] at this; exact absurd this (by simp)
  have hmin : ∀ k t, Rch g a at_ k t → 0 ≤ gi s.best k ∧ gi s.best k ≤ t := by
    intro k t hr
    induction hr with
    | start k hk hf he => exact h.c0 k hk hf trivial he
    | step k i t hr hi hf hb he ih =>
      have hk := hr.lt
      have hm := hg.mono i _ _ hi ih.1 ih.2
      have := h.c1 k i hk hi (hdn k hk ih.1) hf hb trivial (by omega)
      exact ⟨this.1, by omega⟩
  refine ⟨h.lf, h.ll, h.lp, h.b2, hmin, ?_, h.f0, ?_⟩
  · intro k hk hb
    rcases h.p1 k hk hb with h1 | ⟨p, h1, h2, h3, h4, h5, h6⟩
    · exact .inl h1
    · exact .inr ⟨p, h1, h2, (h.d1 p h1 h3).1, h4, h5, h6⟩
  · intro n hn hna
    rcases h.f1 n hn hna with ⟨h1, h2, h3⟩ | ⟨k, h1, h2, h3, h4, h5, h6⟩
    · exact .inl ⟨h1, h2, fun k t hr => h3 k hr.lt (hdn k hr.lt (hmin k t hr).1)⟩
    · refine .inr ⟨k, h1, (h.d1 k h1 h2).1, h3, h4, h5, fun k' t hr ht => ?_⟩
      have h7 := hmin k' t hr
      have h8 := h6 k' hr.lt (hdn k' hr.lt h7.1) ht
      omega
end
end Go.Proofs.YtklgknepamebdaaGreatDoor
/- Plain: when one arrives; the way back; the reference's out times. -/
namespace Go.Proofs.YtklgknepamebdaaGreatDoor
section
variable {g : Gph} {a : Nat} {at_ : Int}
/-- v is when one is at a node at the earliest (endT: never). -/
def Arrives (g : Gph) (a : Nat) (at_ : Int) (b : Nat) (v : Int) : Prop :=
  (a = b ∧ v = at_) ∨ (a ≠ b ∧ ((v = endT ∧ ∀ k t, Rch g a at_ k t → g.to_ k ≠ b) ∨ ∃ k, g.to_ k = b ∧ Rch g a at_ k v ∧ ∀ k' t, Rch g a at_ k' t → g.to_ k' = b → v ≤ t))
theorem Arrives.uniq {b : Nat} {v v' : Int} (h : Arrives g a at_ b v) (h' : Arrives g a at_ b v') : v = v' := by
  rcases h with ⟨e, rfl⟩ | ⟨e, h⟩
  · rcases h' with ⟨_, rfl⟩ | ⟨e', _⟩
    · rfl
    · exact absurd e e'
  · rcases h' with ⟨e', _⟩ | ⟨_, h'⟩
    · exact absurd e' e
    · rcases h with ⟨rfl, h1⟩ | ⟨k, h1, h2, h3⟩
      · rcases h' with ⟨rfl, _⟩ | ⟨k', h1', h2', _⟩
        · rfl
        · exact absurd h1' (h1 k' _ h2')
      · rcases h' with ⟨rfl, h1'⟩ | ⟨k', h1', h2', h3'⟩
        · exact absurd h1 (h1' k _ h2)
        · exact Int.le_antisymm (h3 _ _ h2' h1') (h3' _ _ h2 h1)
def firstV (s : Sr) (b : Nat) : Int := if gi s.first b < 0 then endT else gi s.first b
theorem FoundG.arr (h0 : 0 ≤ at_) {s : Sr} (h : FoundG g a at_ s) {b : Nat} (hb : b < g.nn) : Arrives g a at_ b (firstV s b) := by
  unfold firstV
  by_cases e : b = a
  · subst e
    rw [h.f0.1, if_neg (by omega)]
    exact .inl ⟨rfl, rfl⟩
  · refine .inr ⟨Ne.symm e, ?_⟩
    rcases h.f1 b hb e with ⟨h1, _, h3⟩ | ⟨k, h1, h2, h3, h4, h5, h6⟩
    · rw [h1, if_pos (by decide)]
      exact .inl ⟨rfl, h3⟩
    · rw [h5, if_neg (by omega)]
      exact .inr ⟨k, h3, h.rch k h1 h2, h6⟩
/-- The reference's out times: endT is never. -/
structure OutSol (g : Gph) (a : Nat) (at_ : Int) (o : List Int) : Prop where
  len : o.length = g.m
  sound : ∀ k, k < g.m → gi o k = endT ∨ Rch g a at_ k (gi o k)
  c0 : ∀ i, i < g.m → g.from_ i = a → g.out i at_ < endT → gi o i ≤ g.out i at_
  c1 : ∀ k i, k < g.m → i < g.m → g.from_ i = g.to_ k → g.ban k i = false → gi o k < endT → gi o i ≤ g.out i (gi o k)
theorem OutSol.min_ (hg : GOk g) (h0 : 0 ≤ at_) {o : List Int} (h : OutSol g a at_ o) : ∀ k t, Rch g a at_ k t → gi o k ≤ t := by
  intro k t hr
  induction hr with
  | start k hk hf he => exact h.c0 k hk hf he
  | step k i t hr hi hf hb he ih =>
    have h1 := hr.ge hg h0
    have h2 : 0 ≤ gi o k := by
      rcases h.sound k hr.lt with e | e
      · rw [e]; decide
      · have := e.ge hg h0; omega
    have := h.c1 k i hr.lt hi hf hb (by omega)
    have := hg.mono i _ _ hi h2 ih
    omega
/-- The least of the out times of the first arcs that end at a node. -/
def leastTo (g : Gph) (o : List Int) (b : Nat) : Nat → Int
  | 0 => endT
  | k + 1 => if g.to_ k = b then (if gi o k < leastTo g o b k then gi o k else leastTo g o b k) else leastTo g o b k
theorem leastTo_le (o : List Int) (b : Nat) : ∀ (n : Nat), leastTo g o b n ≤ endT ∧ (∀ k, k < n → g.to_ k = b → leastTo g o b n ≤ gi o k) ∧ (leastTo g o b n = endT ∨ ∃ k, k < n ∧ g.to_ k = b ∧ leastTo g o b n = gi o k)
  | 0 => ⟨Int.le_refl _, fun k hk => absurd hk (by omega), .inl rfl⟩
  | n + 1 => by
    obtain ⟨h1, h2, h3⟩ := leastTo_le o b n
    unfold leastTo
    by_cases e : g.to_ n = b
    · rw [if_pos e]
      by_cases hl : gi o n < leastTo g o b n
      · rw [if_pos hl]
        refine ⟨by omega, fun k hk he => ?_, .inr ⟨n, by omega, e, rfl⟩⟩
        by_cases ek : k = n
        · rw [ek]; exact Int.le_refl _
        · have := h2 k (by omega) he; omega
      · rw [if_neg hl]
        refine ⟨h1, fun k hk he => ?_, h3.imp id (fun ⟨k, hk, hh⟩ => ⟨k, by omega, hh⟩)⟩
        by_cases ek : k = n
        · rw [ek]; omega
        · exact h2 k (by omega) he
    · rw [if_neg e]
      refine ⟨h1, fun k hk he => ?_, h3.imp id (fun ⟨k, hk, hh⟩ => ⟨k, by omega, hh⟩)⟩
      by_cases ek : k = n
      · rw [ek] at he; exact absurd he e
      · exact h2 k (by omega) he
theorem OutSol.arr (hg : GOk g) (h0 : 0 ≤ at_) {o : List Int} (h : OutSol g a at_ o) {b : Nat} (hab : a ≠ b) : Arrives g a at_ b (leastTo g o b g.m) := by
  obtain ⟨h1, h2, h3⟩ := leastTo_le (g := g) o b g.m
  have hm := h.min_ hg h0
  refine .inr ⟨hab, ?_⟩
  by_cases e : leastTo g o b g.m = endT
  · refine .inl ⟨e, fun k t hr ht => ?_⟩
    have := h2 k hr.lt ht
    have := hm k t hr
    have := (hr.ge hg h0).2
    omega
  · rcases h3 with h3 | ⟨k, hk, hb, h4⟩
    · exact absurd h3 e
    · refine .inr ⟨k, hb, ?_, fun k' t hr ht => ?_⟩
      · rcases h.sound k hk with h5 | h5
        · rw [h4] at e; exact absurd h5 e
        · rw [h4]; exact h5
      · have := h2 k' hr.lt ht
        have := hm k' t hr
        omega
/-- Who leaves later does not arrive earlier. -/
theorem Rch.later (hg : GOk g) {at' : Int} (h0 : 0 ≤ at_) (hl : at_ ≤ at') {k : Nat} {t : Int} (h : Rch g a at' k t) : ∃ t', t' ≤ t ∧ Rch g a at_ k t' := by
  induction h with
  | start k hk hf he =>
    have := hg.mono k _ _ hk h0 hl
    exact ⟨_, this, .start k hk hf (by omega)⟩
  | step k i t hr hi hf hb he ih =>
    obtain ⟨t', h1, h2⟩ := ih
    have h3 := h2.ge hg h0
    have := hg.mono i _ _ hi (show 0 ≤ t' by omega) h1
    exact ⟨_, this, .step k i t' h2 hi hf hb (by omega)⟩
theorem Arrives.later (hg : GOk g) {at' : Int} (h0 : 0 ≤ at_) (hl : at_ ≤ at') (he : at' < endT) {b : Nat} {v v' : Int} (h : Arrives g a at_ b v) (h' : Arrives g a at' b v') : v ≤ v' := by
  rcases h with ⟨e, rfl⟩ | ⟨e, h⟩
  · rcases h' with ⟨_, rfl⟩ | ⟨e', _⟩
    · exact hl
    · exact absurd e e'
  · rcases h' with ⟨e', _⟩ | ⟨_, h'⟩
    · exact absurd e' e
    · have hv : v ≤ endT := by
        rcases h with ⟨rfl, _⟩ | ⟨k, _, h2, _⟩
        · exact Int.le_refl _
        · have := (h2.ge hg h0).2; omega
      rcases h' with ⟨rfl, _⟩ | ⟨k', h1', h2', _⟩
      · exact hv
      · obtain ⟨t', h3, h4⟩ := h2'.later hg h0 hl
        rcases h with ⟨rfl, h1⟩ | ⟨k, h1, h2, h5⟩
        · exact absurd h1' (h1 k' t' h4)
        · have := h5 k' t' h4 h1'; omega
theorem nodup_lt : ∀ (m : Nat) (l : List Nat), l.Nodup → (∀ x ∈ l, x < m) → l.length ≤ m
  | 0, [], _, _ => Nat.le_refl _
  | 0, x :: l, _, h => absurd (h x (by simp)) (by omega)
  | m + 1, l, hn, h => by
    have h1 := nodup_lt m (l.erase m) (hn.erase m) (fun x hx => by
      have := (List.Nodup.mem_erase_iff hn).1 hx
      have h2 := h x this.2
      have h3 := this.1
      omega)
    have h2 := List.length_erase (a := m) (l := l)
    split at h2 <;> omega
/-- Arcs one after the other, the last one first; one comes out of the last one at a moment. -/
inductive Trail (g : Gph) (a : Nat) (at_ : Int) : List Nat → Int → Prop
  | one (k : Nat) : k < g.m → g.from_ k = a → g.out k at_ < endT → Trail g a at_ [k] (g.out k at_)
  | cons (k i : Nat) (l : List Nat) (t : Int) : Trail g a at_ (k :: l) t → i < g.m → g.from_ i = g.to_ k → g.ban k i = false → g.out i t < endT → Trail g a at_ (i :: k :: l) (g.out i t)
/-- The way back by the arcs before. -/
inductive Chain (m : Nat) (prev : List Int) : Int → List Nat → Prop
  | nil : Chain m prev (-1) []
  | cons (k : Nat) (l : List Nat) : k < m → Chain m prev (gi prev k) l → Chain m prev (k : Int) (k :: l)
theorem Chain.uniq {m : Nat} {prev : List Int} {k : Int} {l l' : List Nat} (h : Chain m prev k l) (h' : Chain m prev k l') : l = l' := by
  induction h generalizing l' with
  | nil => cases h' with | nil => rfl
  | cons k l hk h ih =>
    generalize e : (k : Int) = kk at h'
    cases h' with
    | nil => omega
    | cons k' l2 hk' h2 =>
      have : k = k' := by omega
      subst this
      rw [ih h2]
theorem FoundG.way (hg : GOk g) (h0 : 0 ≤ at_) {s : Sr} (h : FoundG g a at_ s) : ∀ (n : Nat) (k : Nat), k < g.m → 0 ≤ gi s.best k → gi s.best k ≤ n →
    ∃ l, Chain g.m s.prev (k : Int) (k :: l) ∧ Trail g a at_ (k :: l) (gi s.best k) ∧ (k :: l).Nodup ∧ (∀ x ∈ k :: l, x < g.m ∧ gi s.best x ≤ gi s.best k)
  | n, k, hk, hb, hn => by
    have hr := h.rch k hk hb
    rcases h.prev k hk hb with ⟨h1, h2, h3⟩ | ⟨p, h1, h2, h3, h4, h5, h6⟩
    · refine ⟨[], .cons k [] hk (by rw [h1]; exact .nil), ?_, by simp, fun x hx => ?_⟩
      · have he := (hr.ge hg h0).2
        rw [h3] at he ⊢
        exact .one k hk h2 he
      · simp at hx; subst hx; exact ⟨hk, Int.le_refl _⟩
    · have hlt := hg.gt k (gi s.best p) hk h3
      match n, hn with
      | 0, hn => omega
      | n + 1, hn =>
        obtain ⟨l, w1, w2, w3, w4⟩ := FoundG.way hg h0 h n p h1 h3 (by omega)
        refine ⟨p :: l, .cons k _ hk (by rw [h2]; exact w1), ?_, List.nodup_cons.2 ⟨fun hx => ?_, w3⟩, fun x hx => ?_⟩
        · have he := (hr.ge hg h0).2
          rw [h6] at he ⊢
          exact .cons p k l _ w2 hk h4 h5 he
        · have := (w4 k hx).2; omega
        · rcases List.mem_cons.1 hx with rfl | hx
          · exact ⟨hk, Int.le_refl _⟩
          · have := w4 x hx; exact ⟨this.1, by omega⟩
/-- The way to a node that is reached. -/
theorem FoundG.wayTo (hg : GOk g) (h0 : 0 ≤ at_) {s : Sr} (h : FoundG g a at_ s) {b : Nat} (hb : b < g.nn) (hf : 0 ≤ gi s.first b) :
    ∃ l, Chain g.m s.prev (gi s.last b) l ∧ l.length ≤ g.m ∧ (∀ x ∈ l, x < g.m) ∧ ((l = [] ∧ a = b ∧ gi s.first b = at_) ∨ ∃ k l', l = k :: l' ∧ g.to_ k = b ∧ Trail g a at_ l (gi s.first b)) := by
  by_cases e : b = a
  · subst e
    exact ⟨[], by rw [h.f0.2]; exact .nil, Nat.zero_le _, fun x hx => absurd hx (by simp), .inl ⟨rfl, rfl, h.f0.1⟩⟩
  · rcases h.f1 b hb e with ⟨h1, _⟩ | ⟨k, h1, h2, h3, h4, h5, h6⟩
    · omega
    · obtain ⟨l, w1, w2, w3, w4⟩ := FoundG.way hg h0 h (gi s.best k).toNat k h1 h2 (by omega)
      exact ⟨k :: l, by rw [h4]; exact w1, nodup_lt _ _ w3 (fun x hx => (w4 x hx).1), fun x hx => (w4 x hx).1, .inr ⟨k, l, rfl, h3, by rw [h5]; exact w2⟩⟩
end
end Go.Proofs.YtklgknepamebdaaGreatDoor
/- Plain: the reference's out times, asked until nothing gets better; when one can leave at the latest. -/
namespace Go.Proofs.YtklgknepamebdaaGreatDoor

def betB (g : Gph) (o : List Int) (i : Nat) (t : Int) : Bool := decide (t < endT) && decide (g.out i t < gi o i)
def betO (g : Gph) (o : List Int) (i : Nat) (t : Int) : List Int := if betB g o i t then o.set i (g.out i t) else o
def sumO : List Int → Nat
  | [] => 0
  | x :: l => x.toNat + sumO l
theorem sumO_set : ∀ (l : List Int) (i : Nat) (v : Int), i < l.length → 0 ≤ v → v < gi l i → sumO (l.set i v) < sumO l
  | [], i, v, h, _, _ => absurd h (by simp)
  | x :: l, 0, v, _, h0, h1 => by
    have h1 : v < x := h1
    show v.toNat + sumO l < x.toNat + sumO l
    omega
  | x :: l, i + 1, v, h, h0, h1 => by
    have := sumO_set l i v (by simpa using h) h0 h1
    show x.toNat + sumO (l.set i v) < x.toNat + sumO l
    omega
theorem sumO_rep (n : Nat) : sumO (List.replicate n endT) = n * endT.toNat := by
  induction n with
  | zero => rw [Nat.zero_mul]; rfl
  | succ n ih => rw [List.replicate_succ, Nat.succ_mul]; show endT.toNat + sumO _ = _; omega
section
variable {g : Gph} {a : Nat} {at_ : Int}
structure OutInv (g : Gph) (a : Nat) (at_ : Int) (o : List Int) : Prop where
  len : o.length = g.m
  sound : ∀ k, k < g.m → gi o k = endT ∨ Rch g a at_ k (gi o k)
theorem OutInv.bd (hg : GOk g) (h0 : 0 ≤ at_) {o : List Int} (h : OutInv g a at_ o) {k : Nat} (hk : k < g.m) : 0 ≤ gi o k ∧ gi o k ≤ endT := by
  rcases h.sound k hk with e | e
  · rw [e]; decide
  · have := e.ge hg h0; omega
theorem outInv_new : OutInv g a at_ (List.replicate g.m endT) :=
  ⟨by simp, fun k hk => .inl (by unfold gi; simp [hk])⟩
theorem OutInv.bet (hg : GOk g) (_h0 : 0 ≤ at_) {o : List Int} (h : OutInv g a at_ o) {i : Nat} {t : Int} (hi : i < g.m) (hR : t < endT → g.out i t < endT → Rch g a at_ i (g.out i t)) : OutInv g a at_ (betO g o i t) := by
  unfold betO
  cases hb : betB g o i t with
  | false => rw [if_neg (by simp)]; exact h
  | true =>
    rw [if_pos rfl]
    unfold betB at hb
    simp only [Bool.and_eq_true, decide_eq_true_eq] at hb
    have hbd := h.bd hg _h0 hi
    refine ⟨by simpa using h.len, fun k hk => ?_⟩
    rw [gi_set _ _ _ _ (by rw [h.len]; exact hi)]
    split
    · rename_i e; subst e
      exact .inr (hR hb.1 (by omega))
    · exact h.sound k hk
theorem OutInv.low (hg : GOk g) (_h0 : 0 ≤ at_) {o : List Int} (h : OutInv g a at_ o) {i : Nat} {t : Int} (hi : i < g.m) (ht : 0 ≤ t) (hb : betB g o i t = true) : sumO (betO g o i t) < sumO o := by
  unfold betO
  rw [hb, if_pos rfl]
  unfold betB at hb
  simp only [Bool.and_eq_true, decide_eq_true_eq] at hb
  have := hg.gt i t hi ht
  exact sumO_set o i _ (by rw [h.len]; exact hi) (by omega) hb.2
/-- In a round: o0 is what it began with; ag: something got better. -/
structure RInv (g : Gph) (a : Nat) (at_ : Int) (o0 o : List Int) (ag : Bool) (D0 : Nat → Prop) (D1 : Nat → Nat → Prop) : Prop where
  inv : OutInv g a at_ o
  same : ag = false → o = o0 ∧ (∀ i, i < g.m → D0 i → g.from_ i = a → g.out i at_ < endT → gi o i ≤ g.out i at_) ∧
    ∀ k i, k < g.m → i < g.m → D1 k i → g.from_ i = g.to_ k → g.ban k i = false → gi o k < endT → gi o i ≤ g.out i (gi o k)
  less : ag = true → sumO o < sumO o0
theorem RInv.start {o : List Int} (h : OutInv g a at_ o) : RInv g a at_ o o false (fun _ => False) (fun _ _ => False) :=
  ⟨h, fun _ => ⟨rfl, fun _ _ hf => hf.elim, fun _ _ _ _ hf => hf.elim⟩, fun h => by cases h⟩
theorem RInv.mono {o0 o : List Int} {ag : Bool} {D0 D0' : Nat → Prop} {D1 D1' : Nat → Nat → Prop} (h : RInv g a at_ o0 o ag D0 D1)
    (h0 : ∀ i, i < g.m → g.from_ i = a → D0' i → D0 i) (h1 : ∀ k i, k < g.m → i < g.m → g.from_ i = g.to_ k → g.ban k i = false → D1' k i → D1 k i) : RInv g a at_ o0 o ag D0' D1' :=
  ⟨h.inv, fun e => ⟨(h.same e).1, fun i hi hd hf => (h.same e).2.1 i hi (h0 i hi hf hd) hf, fun k i hk hi hd hf hb => (h.same e).2.2 k i hk hi (h1 k i hk hi hf hb hd) hf hb⟩, h.less⟩
theorem RInv.step (hg : GOk g) (h0 : 0 ≤ at_) {o0 o : List Int} {ag : Bool} {D0 : Nat → Prop} {D1 : Nat → Nat → Prop} (h : RInv g a at_ o0 o ag D0 D1) {i : Nat} {t : Int} (hi : i < g.m) (ht : 0 ≤ t)
    (hR : t < endT → g.out i t < endT → Rch g a at_ i (g.out i t)) {D0' : Nat → Prop} {D1' : Nat → Nat → Prop}
    (hd : betB g o i t = false → (∀ j, j < g.m → g.from_ j = a → D0' j → D0 j ∨ (j = i ∧ t = at_ ∧ at_ < endT)) ∧ (∀ k j, k < g.m → j < g.m → g.from_ j = g.to_ k → g.ban k j = false → D1' k j → D1 k j ∨ (j = i ∧ t = gi o k))) :
    RInv g a at_ o0 (betO g o i t) (ag || betB g o i t) D0' D1' := by
  refine ⟨h.inv.bet hg h0 hi hR, fun e => ?_, fun e => ?_⟩
  · rw [Bool.or_eq_false_iff] at e
    obtain ⟨h1, h2, h3⟩ := h.same e.1
    obtain ⟨d0, d1⟩ := hd e.2
    have eo : betO g o i t = o := by unfold betO; rw [e.2, if_neg (by simp)]
    have hnb : t < endT → gi o i ≤ g.out i t := by
      intro h4
      have h5 := e.2
      unfold betB at h5
      rw [decide_eq_true h4, Bool.true_and] at h5
      have := of_decide_eq_false h5
      omega
    rw [eo]
    refine ⟨h1, fun j hj hdj hf he => ?_, fun k j hk hj hdj hf hb he => ?_⟩
    · rcases d0 j hj hf hdj with hx | ⟨rfl, rfl, hx⟩
      · exact h2 j hj hx hf he
      · exact hnb hx
    · rcases d1 k j hk hj hf hb hdj with hx | ⟨rfl, rfl⟩
      · exact h3 k j hk hj hx hf hb he
      · exact hnb he
  · cases hb : betB g o i t with
    | true =>
      have h1 := h.inv.low hg h0 hi ht hb
      cases hag : ag with
      | true => have := h.less hag; omega
      | false => rw [(h.same hag).1] at h1 ⊢; exact h1
    | false =>
      have eo : betO g o i t = o := by unfold betO; rw [hb, if_neg (by simp)]
      rw [eo]
      rw [hb, Bool.or_false] at e
      exact h.less e
theorem RInv.sol {o0 o : List Int} {D0 : Nat → Prop} {D1 : Nat → Nat → Prop} (h : RInv g a at_ o0 o false D0 D1) (h0 : ∀ i, i < g.m → D0 i) (h1 : ∀ k i, k < g.m → i < g.m → D1 k i) : OutSol g a at_ o :=
  ⟨h.inv.len, h.inv.sound, fun i hi hf he => (h.same rfl).2.1 i hi (h0 i hi) hf he, fun k i hk hi hf hb he => (h.same rfl).2.2 k i hk hi (h1 k i hk hi) hf hb he⟩
end
/-- When one is at a node at the earliest (endT: never). -/
def arrG (g : Gph) (a b : Nat) (at_ : Int) : Int := firstV (searchG g a at_) b
section
variable {g : Gph}
theorem arrG_ok (hg : GOk g) {a b : Nat} {at_ : Int} (h0 : 0 ≤ at_) (ha : a < g.nn) (hb : b < g.nn) : Arrives g a at_ b (arrG g a b at_) := (search_found hg h0 ha).arr h0 hb
theorem arrG_self (hg : GOk g) {a : Nat} {at_ : Int} (h0 : 0 ≤ at_) (ha : a < g.nn) : arrG g a a at_ = at_ := (arrG_ok hg h0 ha ha).uniq (.inl ⟨rfl, rfl⟩)
theorem arrG_bd (hg : GOk g) {a b : Nat} {at_ : Int} (h0 : 0 ≤ at_) (he : at_ < endT) (ha : a < g.nn) (hb : b < g.nn) : at_ ≤ arrG g a b at_ ∧ arrG g a b at_ ≤ endT := by
  rcases arrG_ok hg h0 ha hb with ⟨_, e⟩ | ⟨_, ⟨e, _⟩ | ⟨k, _, hr, _⟩⟩
  · rw [e]; omega
  · rw [e]; omega
  · have := hr.ge hg h0; omega
theorem arrG_mono (hg : GOk g) {a b : Nat} {t t' : Int} (h0 : 0 ≤ t) (h : t ≤ t') (he : t' < endT) (ha : a < g.nn) (hb : b < g.nn) : arrG g a b t ≤ arrG g a b t' :=
  (arrG_ok hg h0 ha hb).later hg h0 h he (arrG_ok hg (by omega) ha hb)
theorem arrG_sol (hg : GOk g) {a b : Nat} {at_ : Int} (h0 : 0 ≤ at_) (ha : a < g.nn) (hb : b < g.nn) {o : List Int} (h : OutSol g a at_ o) (hab : a ≠ b) : leastTo g o b g.m = arrG g a b at_ := (h.arr hg h0 hab).uniq (arrG_ok hg h0 ha hb)
/-- When one can leave at the latest; -1: never. -/
structure LeaveOk (g : Gph) (a b : Nat) (by_ L : Int) : Prop where
  low : -1 ≤ L
  high : L ≤ by_
  ok : 0 ≤ L → arrG g a b L ≤ by_
  last : L < by_ → ¬ arrG g a b (L + 1) ≤ by_
theorem LeaveOk.uniq (hg : GOk g) {a b : Nat} {by_ L L' : Int} (ha : a < g.nn) (hb : b < g.nn) (he : by_ < endT) (h : LeaveOk g a b by_ L) (h' : LeaveOk g a b by_ L') : L = L' := by
  have key : ∀ {L L' : Int}, LeaveOk g a b by_ L → LeaveOk g a b by_ L' → ¬ L < L' := by
    intro L L' h h' hlt
    have h1 := h.low
    have h2 := h'.high
    refine h.last (by omega) (Int.le_trans (arrG_mono hg (t := L + 1) (t' := L') (by omega) (by omega) (by omega) ha hb) (h'.ok (by omega)))
  have := key h h'
  have := key h' h
  omega
end
end Go.Proofs.YtklgknepamebdaaGreatDoor
