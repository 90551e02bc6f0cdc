/- The number of a node. -/
import Derived.Test.YthlhomcgjgfdhaaGreatDoorQRoadB
import Derived.Test.YthlhomcgjgfdhaaGreatDoorQG19
import Derived.Test.YthlhomcgjgfdhaaGreatDoorQRoadN
namespace Go.Proofs.YthlhomcgjgfdhaaGreatDoor
open Go.RowKit

theorem SortN.at {l : List Node} (h : SortN l) {i j : Nat} (hij : i < j) (hj : j < l.length) : ltS (l.getD i default).key (l.getD j default).key := by
  unfold SortN at h
  rw [List.pairwise_iff_getElem] at h
  have := h i j (by omega) hj hij
  rw [List.getD_eq_getElem?_getD, List.getD_eq_getElem?_getD, List.getElem?_eq_getElem (by omega), List.getElem?_eq_getElem hj]
  exact this
theorem SortN.mono {l : List Node} (h : SortN l) (s : ByteArray) (i j : Nat) (hij : i ≤ j) (hj : j < l.length) (hn : cmpS (l.getD j default).key s < 0) : cmpS (l.getD i default).key s < 0 := by
  rcases Nat.lt_or_ge i j with h1 | h1
  · exact cmpS_neg.2 (ltS_trans (h.at h1 hj) (cmpS_neg.1 hn))
  · have : i = j := by omega
    subst this; exact hn
set_option maxRecDepth 100000 in
set_option maxHeartbeats 1000000 in
theorem w_nodeR (g lo : Nat) (A : Option Addr) (c : Nat) (l : List Node) (s : ByteArray) (w : World) (hg : w.cell? ⟨g, 0, none⟩ = some (.slice A l.length c)) (hR : Rd w lo A 3 encNode l) (hl : l.length ≤ 65536) (hs : SortN l) :
    Calls Tryz.prog 155 #[.pointer (some ⟨g, 0, none⟩), .string s] w fun e w' => e = .returned (.int .i64 (nodeI l s)) ∧ Nx w w' := by
  have hB := w_BsfNode 200 (fun n => cmpS n.key s) s (enters_of Tryz.func200 (by kernel_rfl) rfl) (fun y W => w_node1 y s W) lo A c l w hR hl (fun i j => hs.mono s i j)
  by_cases hex : ∃ k, k < l.length ∧ (l.getD k default).key = s
  · obtain ⟨k, hk, hks⟩ := hex
    have hlo : ∀ i, i < k → cmpS (l.getD i default).key s < 0 := fun i hi => cmpS_neg.2 (by rw [← hks]; exact hs.at hi hk)
    have HI := hide (show nodeI l s = (k : Int) by
      have := idxP_at (fun n : Node => decide (n.key = s)) l 0 k hk (decide_eq_true hks) (fun i hi => decide_eq_false (fun e => by have := hlo i hi; rw [cmpS_zero.2 e] at this; omega))
      rw [Nat.zero_add] at this; exact this)
    have hB2 : Calls Tryz.prog 199 #[.slice A l.length c, .string s, .func (.func 200) #[] #[]] w fun e w' => e = .returned (.tuple #[.int .i64 (k : Int), .bool true]) ∧ Nx w w' := by
      refine hB.mono ?_
      rintro e w' ⟨r, is, rfl, hF, hn⟩
      obtain ⟨rfl, rfl⟩ := found_at hF k hk (cmpS_zero.2 hks) hlo
      exact ⟨rfl, hn⟩
    have HB := hide hB2
    clear hB hB2 hR hs hlo hks hk
    generalize l.length = n at *
    generalize nodeI l s = z at *
    go_enter Tryz.func155, Tryz.ntmps155
    go_wp2_with (go_at_call 199; refine HB.out.mono ?_; rintro e w2 ⟨rfl, hn2⟩)
    go_ret
    exact ⟨ret_int HI.out.symm, hn2⟩
  · have hno : ∀ k, k < l.length → (l.getD k default).key ≠ s := fun k hk e => hex ⟨k, hk, e⟩
    have HI := hide (show nodeI l s = -1 from idxP_no _ l 0 (fun k hk => decide_eq_false (hno k hk)))
    have hB2 : Calls Tryz.prog 199 #[.slice A l.length c, .string s, .func (.func 200) #[] #[]] w fun e w' => ∃ r : Nat, e = .returned (.tuple #[.int .i64 (r : Int), .bool false]) ∧ Nx w w' := by
      refine hB.mono ?_
      rintro e w' ⟨r, is, rfl, hF, hn⟩
      obtain rfl := found_no hF (fun k hk e => hno k hk (cmpS_zero.1 e))
      exact ⟨r, rfl, hn⟩
    have HB := hide hB2
    clear hB hB2 hR hs hno hex
    generalize l.length = n at *
    generalize nodeI l s = z at *
    go_enter Tryz.func155, Tryz.ntmps155
    go_wp2_with (go_at_call 199; refine HB.out.mono ?_; rintro e w2 ⟨r, rfl, hn2⟩)
    go_ret
    exact ⟨ret_int HI.out.symm, hn2⟩
end Go.Proofs.YthlhomcgjgfdhaaGreatDoor
/- Knots: what comes behind one; the program's check. -/
namespace Go.Proofs.YthlhomcgjgfdhaaGreatDoor
open Go.RowKit

theorem knot_at {l : List Knot} {k : Nat} (hk : k < l.length) : l.getD k default = l[k] := by rw [List.getD_eq_getElem?_getD, List.getElem?_eq_getElem hk]; rfl
set_option maxRecDepth 100000 in
set_option maxHeartbeats 1000000 in
theorem w_After (lo : Nat) (A : Option Addr) (c : Nat) (l : List Knot) (i : Nat) (w : World) (hR : Rd w lo A 2 encKnot l) (hl : l.length ≤ 65536) (hi : i < l.length) :
    Calls Tryz.prog 161 #[.slice A l.length c, .int .i64 (i : Int)] w fun e w' => e = .returned (.agg #[.int .i64 (afterK l i).at_, .int .i64 (afterK l i).time]) ∧ Nx w w' := by
  obtain ⟨b, off, rfl, _, hb, _, hc⟩ := hR.open_ (Nx.refl w) (by omega)
  by_cases hlt : i + 1 < l.length
  · have c0 : w.cell? ⟨b, off + (i + 1) * 2, none⟩ = some (.int .i64 l[i + 1].at_) := hc (i + 1) hlt 0 _ rfl
    have c1 : w.cell? ⟨b, off + (i + 1) * 2 + 1, none⟩ = some (.int .i64 l[i + 1].time) := hc (i + 1) hlt 1 _ rfl
    have HA := hide (show afterK l i = l[i + 1] by unfold afterK; rw [if_pos hlt, knot_at hlt])
    rw [HA.out]
    clear hc hR
    generalize l[i + 1] = y at *
    generalize l.length = n at *
    clear HA
    have q1 : IntKind.i64.wrap ((i : Int) + 1) = ((i + 1 : Nat) : Int) := by rw [IntWalk.i64_in _ (by omega)]; rfl
    have q2 : decide (((i + 1 : Nat) : Int) < (n : Int)) = true := by simp; omega
    have q3 : ((i + 1 : Nat) : Int).toNat = i + 1 := by omega
    go_enter Tryz.func161, Tryz.ntmps161
    go_wp2
    exact bodyPost_ret (v := .agg #[.int .i64 y.at_, .int .i64 y.time]) (by simp [results, Tryz.results161, go_sem]) rfl ⟨rfl, ((Nx.refl _).alloc _)⟩
  · have c1 : w.cell? ⟨b, off + 1, none⟩ = some (.int .i64 (l[0]'(by omega)).time) := by have := hc 0 (by omega) 1 _ rfl; simpa using this
    have HA := hide (show afterK l i = ⟨dayMs, (l[0]'(by omega)).time⟩ by unfold afterK; rw [if_neg hlt, knot_at (by omega)])
    rw [HA.out]
    clear hc hR
    generalize (l[0]'(by omega)).time = y at *
    generalize l.length = n at *
    clear HA
    go_enter Tryz.func161, Tryz.ntmps161
    go_wp2
    exact bodyPost_ret (v := .agg #[.int .i64 dayMs, .int .i64 y]) (by simp [results, Tryz.results161, go_sem, dayMs]) rfl ⟨rfl, ((Nx.refl _).alloc _)⟩
end Go.Proofs.YthlhomcgjgfdhaaGreatDoor
