/- slices.Repeat of [1]. -/
import Derived.Test.YtjhmgkoghapocaaDoorMul
import Derived.Test.YtjhmgkoghapocaaDoorHand
import Derived.Laws.CopyOwn
import Derived.Deep.DeepCutAuto
namespace Go.Proofs.YtjhmgkoghapocaaDoor
open Go.RowKit Go.Proofs Go.Shelf

theorem w_MulU (x y z : Nat) (w : World) (hx : x ≤ 4294967296) (hy : y ≤ 2147483648) (hz : x * y = z) :
    Calls Tryd.prog 97 #[.int .u64 (x : Int), .int .u64 (y : Int)] w fun e w' => e = .returned (.tuple #[.int .u64 0, .int .u64 (z : Int)]) ∧ w = w' := by
  go_enter Tryd.func97, Tryd.ntmps97
  go_wp2_with (go_at_call 92; refine (w_Mul64 x y z _ hx hy hz).mono ?_; rintro e w' ⟨rfl, rfl⟩)
  go_ret2
  exact ⟨rfl, rfl⟩

def rowM (n m : Nat) : List Int := List.replicate m 1 ++ List.replicate (n - m) 0
theorem rowM_len (n m : Nat) (h : m ≤ n) : (rowM n m).length = n := by unfold rowM; simp; omega
theorem mapI (l : List Int) : l.flatMap encI = l.map (Value.int .i64) := by
  induction l with
  | nil => rfl
  | cons x l ih => rw [List.flatMap_cons, ih]; rfl
theorem rowM_more (n m q : Nat) (h : m + q ≤ n) : (rowM n m).take m ++ List.replicate q (1 : Int) ++ (rowM n m).drop (m + q) = rowM n (m + q) := by
  have e1 : (rowM n m).take m = List.replicate m 1 := by
    unfold rowM
    rw [List.take_append_of_le_length (by simp)]; simp
  have e2 : (rowM n m).drop (m + q) = List.replicate (n - (m + q)) 0 := by
    unfold rowM
    rw [List.drop_append]
    simp
    omega
  rw [e1, e2, List.replicate_append_replicate]
  rfl

set_option maxRecDepth 100000 in
set_option maxHeartbeats 2000000 in
theorem w_RepeatOne (n gl : Nat) (w : World) (hn : 1 ≤ n) (hn2 : n ≤ 100) (hg : w.heap[gl]? = some (.cells #[.int .i64 1] 3 (0, 0))) :
    Calls Tryd.prog 76 #[.slice (some ⟨gl, 0, none⟩) 1 1, .int .i64 (n : Int)] w fun e w' => ∃ g, e = .returned (.slice (some ⟨g, 0, none⟩) n n) ∧ Rd w' w.heap.size (some ⟨g, 0, none⟩) 1 encI (List.replicate n 1) ∧ Nx w w' := by
  have hgl : gl < w.heap.size := (Array.getElem?_eq_some_iff.1 hg).1
  have hmk := fun w => run_make_ints n (by omega) w
  obtain ⟨Z, hZ⟩ : ∃ Z : Array Value, madeCells #[.int .i64 0] n = Z := ⟨_, rfl⟩
  have hZl := made_ints n
  rw [hZ] at hmk hZl
  have hs1 : (Tryd.prog.info? 3).map (·.size) = some 1 := by kernel_rfl
  have t1 : decide ((n : Int) < 0) = false := decide_eq_false (by omega)
  have t2 : IntKind.u64.wrap (n : Int) = (n : Int) := by rw [IntKind.wrap_u64]; omega
  have t3 : IntKind.i64.wrap (n : Int) = (n : Int) := IntWalk.i64_in _ (by omega)
  have t4 : decide ((n : Int) > 9223372036854775807) = false := decide_eq_false (by omega)
  have t5 : ¬ (9223372036854775807 : Int) < (n : Int) := by omega
  have hl0 : Z.toList = (rowM n 0).map (Value.int .i64) := by rw [hZl, mapI]; simp [rowM]
  have hcp : ∀ ty, (Builtin.copy_ #[22, 22] ty #[.slice (some ⟨w.heap.size, 0, none⟩) n n, .slice (some ⟨gl, 0, none⟩) 1 1]).run Tryd.prog (w.alloc (.cells Z 3)) = .ok (goInt 1) ((w.alloc (.cells Z 3)).setRow w.heap.size ((rowM n 1).map (Value.int .i64)).toArray) := by
    intro ty
    have h := run_copy_row (P := Tryd.prog) (w.alloc (.cells Z 3)) 22 22 ty 3 w.heap.size 0 n n ⟨gl, 0, none⟩ 1 1 Z 3 [.int .i64 1] Tryd.underlying22 hs1 (hnew rfl) (by show 1 = min 1 n; omega) (fun j v hj => by
      rcases j with _ | j
      · simp at hj; subst hj
        exact cell_of_row _ gl 0 _ _ _ ((((Nx.refl w).alloc _).block gl hgl).trans hg)
      · simp at hj) (by rw [← Array.length_toList, hl0]; simp [rowM_len n 0 (by omega)]; omega) (by intro v hv; simp at hv; subst hv; rfl)
    rw [h]
    congr 2
    have := rowM_more n 0 1 (by omega)
    rw [Nat.zero_add] at this
    rw [hl0, ← this]
    simp
  go_enter Tryd.func76, Tryd.ntmps76
  go_wp2_with (go_at_call 97; refine (w_MulU 1 n n _ (by omega) (by omega) (by omega)).mono ?_; rintro e w' ⟨rfl, rfl⟩)
  have hrow1 : ((w.alloc (.cells Z 3)).setRow w.heap.size ((rowM n 1).map (Value.int .i64)).toArray).heap[w.heap.size]? = some (.cells ((rowM n 1).map (Value.int .i64)).toArray 3 (0, 0)) := setRow_heap _ _ _ _ _ _ (hnew rfl)
  have hnx1 : Nx w ((w.alloc (.cells Z 3)).setRow w.heap.size ((rowM n 1).map (Value.int .i64)).toArray) := by
    have h0 := (Nx.refl w).alloc (.cells Z 3)
    refine ⟨h0.os, h0.tape, h0.output, by simp [World.setRow], fun i hi => ?_⟩
    rw [← h0.block i hi]
    simp only [World.setRow]
    rw [Array.getElem?_modify, if_neg (by omega)]
  have HST := hide (And.intro hrow1 hnx1)
  clear hrow1 hnx1 hcp hmk hZ hZl hl0
  go_loopw [8] (fun u wr => ∃ m : Nat, 1 ≤ m ∧ m ≤ n ∧ u = .int .i64 m ∧ wr.heap[w.heap.size]? = some (.cells ((rowM n m).map (Value.int .i64)).toArray 3 (0, 0)) ∧ Nx w wr) (fun u _ => n - (intOf u).toNat)
  case atStart => exact ⟨1, by omega, hn, rfl, HST.out.1, HST.out.2⟩
  case round =>
    clear HST
    obtain ⟨m, hm1, hmn, rfl, hrow, hnx⟩ := hrel
    by_cases hlt : m < n
    · have q1 : (m : Int) ≤ (n : Int) := by omega
      have q2 : (0 : Int) ≤ (m : Int) := by omega
      obtain ⟨q, hq⟩ : ∃ q, q = min m (n - m) := ⟨_, rfl⟩
      have hq1 : 1 ≤ q ∧ m + q ≤ n := by omega
      have q3 : IntKind.i64.wrap ((m : Int) + (q : Int)) = (m : Int) + (q : Int) := IntWalk.i64_in _ (by omega)
      obtain ⟨C, hC⟩ : ∃ C : List Value, (rowM n m).map (Value.int .i64) = C := ⟨_, rfl⟩
      obtain ⟨cs, hcs⟩ : ∃ cs : List Value, List.replicate q (Value.int .i64 1) = cs := ⟨_, rfl⟩
      have hcl : cs.length = q := by rw [← hcs, List.length_replicate]
      have hCl : C.length = n := by rw [← hC, List.length_map, rowM_len n m hmn]
      have HSRC := hide (show ∀ j v, cs[j]? = some v → wr.cell? ((⟨w.heap.size, 0, none⟩ : Addr).add j) = some v from by
        intro j v hj
        have hjq : j < q := by have := (List.getElem?_eq_some_iff.1 hj).1; omega
        have e1 : (⟨w.heap.size, 0, none⟩ : Addr).add j = ⟨w.heap.size, j, none⟩ := by unfold Addr.add; split <;> simp_all
        rw [e1, cell_of_row _ _ j _ _ _ hrow, ← Array.getElem?_toList]
        rw [← hcs, List.getElem?_replicate, if_pos hjq] at hj
        rw [← hj]
        unfold rowM
        rw [List.map_append, List.getElem?_append_left (by simp; omega), List.getElem?_map, List.getElem?_replicate, if_pos (by omega)]; rfl)
      have H1 := hide (show ∀ v ∈ cs, v.oneCell' = true from by
        intro v hv; rw [← hcs] at hv; obtain ⟨_, rfl⟩ := List.mem_replicate.1 hv; rfl)
      have HSP := hide (show splice C m cs = (rowM n (m + q)).map (Value.int .i64) from by
        unfold splice
        rw [← rowM_more n m q hq1.2, hcl, ← hC, ← hcs]
        simp)
      rw [hC] at hrow
      have HROW := hide hrow
      have HN := hide hnx
      have HCL := hide (And.intro hcl (And.intro hCl hq))
      clear hC hcs hcl hCl hq hrow hnx
      go_wp2_with fail
      go_region_law (refine step_copy_splice rfl (.tmp 41) (.tmp 44) 22 22 rfl 3 Tryd.underlying22 hs1 (some ⟨w.heap.size, m, none⟩) (some ⟨w.heap.size, 0, none⟩) (n - m) (n - m) m n (by simp [Act.eval, Act.put]; omega) (by simp [Act.eval, Act.put]) w.heap.size m C 3 HROW.out cs (by rw [HCL.out.1, HCL.out.2.2]) (fun _ => ⟨rfl, _, rfl, HSRC.out⟩) (by rw [HCL.out.1, HCL.out.2.1]; exact hq1.2) H1.out w.heap.size w (HN.out.drew) (Nat.le_refl _) ?_; intro w4 hg4 hb4; rw [HCL.out.1])
      have hl4 := hg4.out
      rw [HSP.out] at hl4
      have HL4 := hide hl4
      clear hg4 hl4
      go_wp2_with fail
      go_roundw
      case rel => exact ⟨m + q, by omega, hq1.2, by go_num, HL4.out, hb4⟩
      case measure => simp [intOf]; omega
    · have em : m = n := by omega
      subst em
      go_wp2_with fail
      go_ret
      refine ⟨w.heap.size, rfl, ?_, hnx⟩
      exact Rd.lit hrow (Nat.le_refl _) (fun _ => rfl) (by rw [mapI]; simp [rowM])
end Go.Proofs.YtjhmgkoghapocaaDoor
