/- The stream's strings; clones. -/
import Derived.Test.YtfnbmcinbmbehaaGreatDoorQG16
import Derived.Test.YtfnbmcinbmbehaaGreatDoorQG11
import Derived.Lib.SliceRun
namespace Go.Proofs.YtfnbmcinbmbehaaGreatDoor
open Go.RowKit Go.Sort Go.Proofs Go.Shelf

/-- A string of some list. -/
def StrSome (zs : List ByteArray) (s k : Nat) (w : World) (e : Ending) (w' : World) : Prop := ∃ r ∈ zs, e = .returned (.string r) ∧ Gr s w w' ∧ Str w' s k
set_option maxRecDepth 100000 in
set_option maxHeartbeats 400000 in
/-- 's.Some(..)' of strings that lie in a block of their own. -/
theorem w_Some (g : Nat) (zs : List ByteArray) (cs : Array Value) (s k : Nat) (w : World) (hS : Str w s k) (hk : k < 1000000) (hg : w.heap[g]? = some (.cells cs 9 (0, 0))) (hne : g ≠ s) (hcs : cs.toList = zs.map Value.string) (h0 : zs ≠ []) (h1 : zs.length < 1000) :
    Calls Tryz.prog 20 #[.pointer (some ⟨s, 0, none⟩), .slice (some ⟨g, 0, none⟩) zs.length zs.length] w (StrSome zs s (k + 1) w) := by
  have hl : cs.size = zs.length := by rw [← Array.length_toList, hcs, List.length_map]
  have hp := List.length_pos_iff.2 h0
  generalize hm : zs.length = m at *
  have HM := hide hm
  clear hm h0
  go_enter Tryz.func20, Tryz.ntmps20
  go_wp2_with (go_at_call 15; refine (w_Next _ _ _ _ hS hk (by omega)).mono ?_; rintro e w' ⟨r, hr1, hr2, rfl, hgr, hS'⟩; (obtain ⟨q, rfl⟩ := Int.eq_ofNat_of_zero_le hr1); (have hq : q < zs.length := by have := HM.out; omega); (have hcell : w'.cell? ⟨g, q, none⟩ = some (.string zs[q]) := World.grownBy.cell hgr ((cell_of_row w g q _ _ _ hg).trans (by rw [← Array.getElem?_toList, hcs, List.getElem?_map, List.getElem?_eq_getElem hq]; rfl)) (by simp; omega)))
  go_ret
  exact ⟨_, List.getElem_mem hq, rfl, hgr, hS'⟩

set_option maxRecDepth 100000 in
set_option maxHeartbeats 400000 in
theorem w_CloneS (lo : Nat) (A : Option Addr) (c : Nat) (l : List ByteArray) (w : World) (hR : Rd w lo A 1 encS l) (hl : l.length ≤ 100000) :
    Calls Tryz.prog 19 #[.slice A l.length c] w fun e w' => ∃ v, e = .returned v ∧ w'.ownsRow w.heap.size 9 1 v l.length (l.flatMap encS) ∧ Nx w w' := by
  have q22 : ∀ (w : World) (a : Option Addr) (n c n' c' : Nat), (binOp .eql 30 (.slice a n c) (.slice none n' c')).run Tryz.prog w = .ok (.bool a.isNone) w := fun w a n c n' c' => Lib.run_eql_slice_nil w _ _ a n c n' c' Tryz.underlying30
  cases A with
  | none =>
    have hy : l = [] := by
      rcases l with _ | ⟨y, l⟩
      · rfl
      · obtain ⟨b, off, e, _⟩ := hR (by simp); cases e
    subst hy
    go_enter Tryz.func19, Tryz.ntmps19
    go_wp2
    go_ret
    exact ⟨_, rfl, World.ownsRow_nil _ _ _ _, Nx.refl _⟩
  | some a =>
    have hst := own_lit (w := w.alloc (.cells #[] 9)) (e := 9) (g := w.heap.size) (n := 0) (m := 0) (base := w.heap.size) (xs := ([] : List ByteArray)) encS_len (hnew rfl) (Nat.le_refl _) rfl rfl (Nat.le_refl _) (by unfold maxLen; omega)
    have HST := hide hst
    have HR := hide hR
    clear hst hR
    generalize hn : l.length = n at *
    have HN := hide hn
    clear hn
    go_enter Tryz.func19, Tryz.ntmps19
    go_wp2_with (at_builtin; refine wpAppL rfl _ _ _ rfl el_S encS encS_len encS_one (by omega) (by omega) w.heap.size _ [] rfl HST.out (some a) c l (by rw [HN.out]; rfl) (HR.out.nx ((Nx.refl _).alloc _)) (by have := HN.out; simp; omega) (by simp) ?_; intro v2 w2 hown2 hg2)
    go_ret
    rw [List.nil_append, HN.out] at hown2
    refine ⟨_, rfl, hown2, ?_⟩
    exact ((Nx.refl w).alloc _).grown hg2 (own_blk_lt HST.out)

/-- Rides, and what their groups cost. -/
def StrCosts (s k : Nat) (w : World) (e : Ending) (w' : World) : Prop :=
  ∃ (A : Option Addr) (c : Nat) (l : List ByteArray) (B : Option Addr) (c' : Nat) (cs : List Int), e = .returned (.tuple #[.slice A l.length c, .slice B cs.length c']) ∧ l.length ≤ 6 ∧ Small l ∧ cs.length ≤ 40 ∧
    Rd w' w.heap.size A 1 encS l ∧ Rd w' w.heap.size B 1 encI cs ∧ Gr s w w' ∧ Str w' s k
def jaB : ByteArray := ⟨#[106, 97]⟩
def jL : List ByteArray := [⟨#[106, 97]⟩, ⟨#[106, 98]⟩, ⟨#[106, 99]⟩, ⟨#[106, 100]⟩, ⟨#[106, 101]⟩]
theorem jL_small (n : Nat) : Small (jL.take n) := by
  intro x hx
  have h := List.mem_of_mem_take hx
  simp [jL] at h
  rcases h with rfl | rfl | rfl | rfl | rfl <;> decide

set_option maxRecDepth 100000 in
set_option maxHeartbeats 4000000 in
theorem w_Costs (s k : Nat) (w : World) (hS : Str w s k) (hk : k < 700000) :
    Calls Tryz.prog 7 #[.pointer (some ⟨s, 0, none⟩), .int .i64 5] w (StrCosts s (k + 50) w) := by
  have hsl := hS.lt
  go_enter Tryz.func7, Tryz.ntmps7
  go_wp2_with fail
  refine (w_Range 0 5 _ _ _ (hS.nx ((Nx.refl _).alloc _)) (by omega) (by omega) (by omega)).mono ?_
  rintro e w1 ⟨r, hr1, hr2, rfl, hg1, hS1⟩
  obtain ⟨n, rfl⟩ := Int.eq_ofNat_of_zero_le hr1
  have hr0 := own_lit (w := w.alloc (.cells (jL.map Value.string).toArray 9)) (e := 9) (g := w.heap.size) (n := n) (m := 5) (base := w.heap.size) (xs := jL) encS_len (hnew rfl) (Nat.le_refl _) rfl rfl (by omega) (by unfold maxLen; omega)
  have hr1' := own_gr (w' := w1) hr0 hg1 hsl
  have hjl : (jL.take n).length = n := by rw [List.length_take, show jL.length = 5 from rfl]; omega
  have hgr1 : Gr s w w1 := ((Gr.refl s w).alloc _).trans hg1
  have HR1 := hide hr1'
  have HJL := hide hjl
  clear hr0 hr1' hjl
  go_wp2_with fail
  have hc0 := own_lit (w := w1.alloc (.cells #[.int .i64 0] 3)) (e := 3) (g := w1.heap.size) (n := 1) (m := 1) (base := w.heap.size) (xs := [(0 : Int)]) encI_len (hnew rfl) (by have := hgr1.sz; omega) rfl rfl (Nat.le_refl _) (by unfold maxLen; omega)
  have hs1 := hgr1.sz
  have HST := hide (And.intro (HR1.out.alloc (.cells #[.int .i64 0] 3)) (And.intro (hgr1.alloc (.cells #[.int .i64 0] 3)) (And.intro (hS1.nx ((Nx.refl _).alloc (.cells #[.int .i64 0] 3))) hc0)))
  have hpw := pow_bd (n := n) (by omega)
  have hp5 : 2 ^ n ≤ 2 ^ 5 := Nat.pow_le_pow_right (by omega) (by omega)
  have hshl := shl_pow (n := n) (by omega)
  generalize hp : 2 ^ n = p at *
  have HP := hide hp
  clear hc0 hgr1 HR1 hS1 hg1 hp
  go_loopw [7, 8] (fun v i wr => ∃ (k' : Nat) (cs : List Int), 1 ≤ k' ∧ k' ≤ p ∧ i = .int .i64 k' ∧ cs.length = k' ∧ wr.ownsRow w.heap.size 3 1 v cs.length (cs.flatMap encI) ∧ wr.ownsRow w.heap.size 9 1 (.slice (some ⟨w.heap.size, 0, none⟩) n 5) n ((jL.take n).flatMap encS) ∧ Gr s w wr ∧ Str wr s (k + k')) (fun _ i _ => p - (intOf i).toNat)
  case atStart => exact ⟨1, [0], by omega, by omega, rfl, rfl, HST.out.2.2.2, HST.out.1, HST.out.2.1, HST.out.2.2.1⟩
  case round =>
    clear HST
    obtain ⟨k', cs, hk1, hkp, rfl, hcl, hown, hrow, hgr, hSr⟩ := hrel
    have HCL := hide hcl
    have hsz := hgr.sz
    clear hcl
    by_cases hlt : k' < p
    · go_wp2_with fail
      refine (w_PickI _ [0, 4, 6, 8, 100, 101, 250] _ _ _ _ (hSr.nx ((Nx.refl _).alloc _)) (by omega) (hnew rfl) (by omega) rfl (by simp) (by simp)).mono ?_
      rintro e w2 ⟨x, hx, rfl, hg2, hS2⟩
      have hown2 := own_gr (hown.alloc (.cells #[.int .i64 0, .int .i64 4, .int .i64 6, .int .i64 8, .int .i64 100, .int .i64 101, .int .i64 250] 3)) hg2 hsl
      have hrow2 := own_gr (hrow.alloc (.cells #[.int .i64 0, .int .i64 4, .int .i64 6, .int .i64 8, .int .i64 100, .int .i64 101, .int .i64 250] 3)) hg2 hsl
      have hgr2 := (hgr.alloc _).trans hg2
      have hsz2 := hgr2.sz
      clear hown hrow hgr hSr hx
      go_wp2_with (at_builtin; refine wpApp rfl _ _ _ rfl el_Int encI encI_len encI_one (by omega) (by omega) w.heap.size _ cs rfl (hown2.alloc _) _ x _ rfl (hnew rfl) rfl (by have := HCL.out; omega) (by simp; omega) ?_; intro v3 w3 hown3 hg3)
      have hrow3 := (hrow2.alloc (.cells #[.int .i64 x] 3)).kept hg3 (own_apart hrow2 hown2 (by decide))
      have hgr3 := (hgr2.alloc (.cells #[.int .i64 x] 3)).grown hg3 (fun j hj => .inr (own_blk_lt hown2 j hj))
      have hS3 := (hS2.nx ((Nx.refl _).alloc (.cells #[.int .i64 x] 3))).row hg3 (fun j hj => by have := own_blk_lt hown2 j hj; omega)
      go_roundw
      case rel => exact ⟨k' + 1, cs ++ [x], by omega, by omega, by go_num, by rw [List.length_append, HCL.out]; rfl, hown3, hrow3, hgr3, hS3.more (by omega)⟩
      case measure => simp [intOf]; omega
    · have ek : k' = p := by omega
      subst ek
      clear hlt
      have HJS := hide (jL_small n)
      rcases hown.2 with ⟨rfl, h0⟩ | ⟨g, cap, cur, rfl, hgg, _⟩
      · have := HCL.out; omega
      go_wp2_with fail
      refine (w_Flip _ _ _ _ hSr (by omega) (by omega)).mono ?_
      rintro e w2 ⟨fl, rfl, hg2, hS2⟩
      have hown2 := own_gr hown hg2 hsl
      have hrow2 := own_gr hrow hg2 hsl
      have hgr2 := hgr.trans hg2
      have hsz2 := hgr2.sz
      clear hown hrow hgr hSr hg2 hsz
      cases fl
      · go_wp2_with fail
        go_ret2
        refine ⟨some ⟨w.heap.size, 0, none⟩, 5, jL.take n, some ⟨g, 0, none⟩, cap, cs, ?_, by have := HJL.out; omega, HJS.out, by have := HCL.out; omega, rd_own encS_len HJL.out hrow2, rd_own encI_len rfl hown2, hgr2, hS2.more (by omega)⟩
        rw [HJL.out]; rfl
      · go_wp2_with fail
        refine (w_Next _ _ _ _ hS2 (by omega) (by omega)).mono ?_
        rintro e w3 ⟨r, hr1, hr2, rfl, hg3, hS3⟩
        have hown3 := own_gr hown2 hg3 hsl
        have hrow3 := own_gr hrow2 hg3 hsl
        have hgr3 := hgr2.trans hg3
        have hsz3 := hgr3.sz
        clear hown2 hrow2 hgr2 hS2 hg3 hsz2
        have hr3 : r = 0 ∨ r = 1 ∨ r = 2 := by omega
        rcases hr3 with rfl | rfl | rfl
        · go_wp2_with (at_builtin; refine wpApp rfl _ _ _ rfl el_Int encI encI_len encI_one (by omega) (by omega) w.heap.size _ cs rfl (hown3.alloc _) _ 1 _ rfl (hnew rfl) rfl (by have := HCL.out; omega) (by simp; omega) ?_; intro v4 w4 hown4 hg4)
          have hrow4 := (hrow3.alloc (.cells #[.int .i64 1] 3)).kept hg4 (own_apart hrow3 hown3 (by decide))
          have hgr4 := (hgr3.alloc (.cells #[.int .i64 1] 3)).grown hg4 (fun j hj => .inr (own_blk_lt hown3 j hj))
          have hS4 := (hS3.nx ((Nx.refl _).alloc (.cells #[.int .i64 1] 3))).row hg4 (fun j hj => by have := own_blk_lt hown3 j hj; omega)
          go_ret2
          obtain ⟨B', c4, ev, hRB, _⟩ := Rd.of_own encI_len rfl hown4
          refine ⟨some ⟨w.heap.size, 0, none⟩, 5, jL.take n, B', c4, _, ?_, by have := HJL.out; omega, HJS.out, by have := HCL.out; simp; omega, rd_own encS_len HJL.out hrow4, hRB, hgr4, hS4.more (by omega)⟩
          rw [HJL.out, ← ev]; rfl
        · go_wp2_with fail
          refine (w_Next _ _ _ _ hS3 (by omega) (by have := HCL.out; omega)).mono ?_
          rintro e w4 ⟨q, hq1, hq2, rfl, hg4, hS4⟩
          obtain ⟨q, rfl⟩ := Int.eq_ofNat_of_zero_le hq1
          have hown4 := own_gr hown3 hg4 hsl
          have hrow4 := own_gr hrow3 hg4 hsl
          have hgr4 := hgr3.trans hg4
          have hsz4 := hgr4.sz
          go_wp2_with fail
          refine (w_PickI _ [-1, 1000000000, 1000000001] _ _ _ _ (hS4.nx ((Nx.refl _).alloc _)) (by omega) (hnew rfl) (by omega) rfl (by simp) (by simp)).mono ?_
          rintro e w5 ⟨x, hx, rfl, hg5, hS5⟩
          have hown5 := own_gr (hown4.alloc (.cells #[.int .i64 (-1), .int .i64 1000000000, .int .i64 1000000001] 3)) hg5 hsl
          have hrow5 := own_gr (hrow4.alloc (.cells #[.int .i64 (-1), .int .i64 1000000000, .int .i64 1000000001] 3)) hg5 hsl
          have hgr5 := (hgr4.alloc _).trans hg5
          have hqc : q < cs.length := by omega
          have d0 : w5.cell? ⟨g, q, none⟩ = some (.int .i64 cs[q]) := by have := own_cell encI_len rfl hown5 q hqc 0 _ rfl; simpa using this
          have f0 : w5.frozen? ⟨g, q, none⟩ = false := hown5.frozenAt _
          have hown6 := own_set encI_len rfl hown5 q hqc 0 (by omega) (.int .i64 x) x rfl q (by omega)
          have hrow6 := hrow5.kept ((Gr.refl g _).setS (p := ⟨g, q, none⟩) (.inl rfl) (.int .i64 x)) (by rcases own_apart hrow5 hown5 (by decide) with h | h; exact .inl h; exact .inr h)
          have hgr6 := hgr5.setS (p := ⟨g, q, none⟩) (.inr hgg) (.int .i64 x)
          have hS6 := hS5.row ((Gr.refl g _).setS (p := ⟨g, q, none⟩) (.inl rfl) (.int .i64 x)) (fun j hj => by injection hj with hj; omega)
          clear hown3 hown4 hown5 hrow3 hrow4 hrow5 hx
          generalize cs[q] = old at *
          go_wp2_with fail
          go_ret2
          obtain ⟨B', c4, ev, hRB, _⟩ := Rd.of_own encI_len (by simp) hown6
          refine ⟨some ⟨w.heap.size, 0, none⟩, 5, jL.take n, B', c4, _, ?_, by have := HJL.out; omega, HJS.out, by have := HCL.out; simp; omega, rd_own encS_len HJL.out hrow6, hRB, hgr6, hS6.more (by omega)⟩
          rw [HJL.out, ← ev]; rfl
        · go_wp2_with fail
          have hRl := rd_own encS_len HJL.out hrow3
          have hcn := w_CloneS _ _ 5 _ w3 hRl (by have := HJL.out; omega)
          rw [HJL.out] at hcn
          refine hcn.mono ?_
          rintro e w4 ⟨v4, rfl, hown4, hn4⟩
          have hown3' := own_nx hown3 hn4
          have hgr4 := hgr3.then_nx hn4
          have hS4 := hS3.nx hn4
          have hsz4 := hgr4.sz
          clear hown3 hrow3 hgr3 hS3 hRl hcn
          go_wp2_with fail
          refine (w_Some _ [jaB, ⟨#[]⟩] _ _ _ _ (hS4.nx ((Nx.refl _).alloc _)) (by omega) (hnew rfl) (by omega) rfl (by simp) (by simp)).mono ?_
          rintro e w5 ⟨x, hx, rfl, hg5, hS5⟩
          have hxs : x.size ≤ 1000000 := by
            simp [jaB] at hx
            rcases hx with rfl | rfl <;> decide
          have hown5 := own_gr (hown4.alloc (.cells #[.string jaB, .string ⟨#[]⟩] 9)) hg5 (show s < w3.heap.size by omega)
          have hown3'' := own_gr (hown3'.alloc (.cells #[.string jaB, .string ⟨#[]⟩] 9)) hg5 hsl
          have hgr5 := (hgr4.alloc _).trans hg5
          have hsz5 := hgr5.sz
          have hown5 : w5.ownsRow w3.heap.size 9 1 v4 (jL.take n).length ((jL.take n).flatMap encS) := by rw [HJL.out]; exact hown5
          clear hown4 hown3' hgr4 hS4 hx
          have hb5 : w3.heap.size ≤ w5.heap.size := by have := hn4.sz; have := hg5.sz; simp at this; omega
          have HJ2 := hide (show (jL.take n).length ≤ 10000000 by have := HJL.out; omega)
          go_wp2_with (at_builtin; refine wpApp rfl _ _ _ rfl el_S encS encS_len encS_one (by omega) (by omega) w3.heap.size _ (jL.take n) rfl (hown5.alloc _) _ x _ rfl (hnew rfl) rfl HJ2.out (by simp; omega) ?_; intro v6 w6 hown6 hg6)
          have hown7 := (hown3''.alloc (.cells #[.string x] 9)).kept hg6 (own_apart hown3'' hown5 (by decide))
          have hgr6 := (hgr5.alloc (.cells #[.string x] 9)).grown hg6 (fun j hj => .inr (by have := own_blk_lt hown5 j hj; omega))
          have hS6 := (hS5.nx ((Nx.refl _).alloc (.cells #[.string x] 9))).row hg6 (fun j hj => by have := own_blk_lt hown5 j hj; omega)
          go_ret2
          obtain ⟨A', c6, ev, hRA, _⟩ := Rd.of_own encS_len rfl hown6
          have hl6 : (jL.take n ++ [x]).length ≤ 6 := by rw [List.length_append, HJL.out]; simp; omega
          have hsm : Small (jL.take n ++ [x]) := by
            intro y hy
            rcases List.mem_append.1 hy with hy | hy
            · exact HJS.out y hy
            · simp at hy; subst hy; exact hxs
          refine ⟨A', c6, _, some ⟨g, 0, none⟩, cap, cs, ?_, hl6, hsm, by have := HCL.out; omega, hRA.low (by omega), rd_own encI_len rfl hown7, hgr6, hS6.more (by omega)⟩
          rw [← ev]; rfl

theorem encFrac_len (x : Frac) : (encFrac x).length = 2 := rfl
theorem encFrac_one (x : Frac) : ∀ v ∈ encFrac x, v.oneCell' = true := by
  intro v hv; simp [encFrac] at hv; rcases hv with rfl | rfl <;> rfl
/-- Some steps. -/
def StrTiers (s k : Nat) (w : World) (e : Ending) (w' : World) : Prop :=
  ∃ (A : Option Addr) (c : Nat) (l : List Frac), e = .returned (.slice A l.length c) ∧ l.length ≤ 4 ∧ Rd w' w.heap.size A 2 encFrac l ∧ Gr s w w' ∧ Str w' s k
end Go.Proofs.YtfnbmcinbmbehaaGreatDoor
