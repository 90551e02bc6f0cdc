/- The stream's parts. -/
import Derived.Test.YtjhmgkoghapocaaDoorStrS
namespace Go.Proofs.YtjhmgkoghapocaaDoor
open Go.RowKit Go.Sort Go.Proofs Go.Shelf

/-- Some parts. -/
def StrParts (s k : Nat) (w : World) (e : Ending) (w' : World) : Prop :=
  ∃ (A : Option Addr) (c : Nat) (l : List Int), e = .returned (.slice A l.length c) ∧ l.length ≤ 6 ∧ Rd w' w.heap.size A 1 encI l ∧ Gr s w w' ∧ Str w' s k

set_option maxRecDepth 100000 in
set_option maxHeartbeats 2000000 in
theorem w_Parts (s k : Nat) (w : World) (hS : Str w s k) (hk : k < 700000) :
    Calls Tryd.prog 34 #[.pointer (some ⟨s, 0, none⟩)] w (StrParts s (k + 20) w) := by
  have hsl := hS.lt
  go_enter Tryd.func34, Tryd.ntmps34
  go_wp2_with fail
  refine (w_Range 1 6 _ _ _ hS (by omega) (by omega) (by omega)).mono ?_
  rintro e w1 ⟨r, hr1, hr2, rfl, hg1, hS1⟩
  obtain ⟨n, rfl⟩ := Int.eq_ofNat_of_zero_le (show 0 ≤ r by omega)
  have hown0 : w1.ownsRow w.heap.size 3 1 (.slice none 0 0) ([] : List Int).length (([] : List Int).flatMap encI) := ⟨rfl, .inl ⟨rfl, rfl⟩⟩
  have HST := hide (And.intro hown0 (And.intro hg1 hS1))
  clear hg1 hS1 hown0 hS
  go_wp2_with fail
  go_loopw [3, 6] (fun v i wr => ∃ (k' : Nat) (cs : List Int), k' ≤ n ∧ i = .int .i64 k' ∧ cs.length = k' ∧ wr.ownsRow w.heap.size 3 1 v cs.length (cs.flatMap encI) ∧ Gr s w wr ∧ Str wr s (k + 1 + k')) (fun _ i _ => n - (intOf i).toNat)
  case atStart => exact ⟨0, [], by omega, rfl, rfl, HST.out.1, HST.out.2.1, HST.out.2.2⟩
  case round =>
    clear HST
    obtain ⟨k', cs, hkn, rfl, hcl, hown, hgr, hSr⟩ := hrel
    have HCL := hide hcl
    have hsz := hgr.sz
    clear hcl
    by_cases hlt : k' < n
    · go_wp2_with fail
      refine (w_PickI _ [0, 1, 1, 3, 7, 100] _ _ _ _ (hSr.nx ((Nx.refl _).alloc _)) (by omega) (hnew rfl) (by omega) rfl (by simp) (by simp)).mono ?_
      rintro e w2 ⟨x, hx, rfl, hg2, hS2⟩
      have hown2 := own_gr (hown.alloc (.cells #[.int .i64 0, .int .i64 1, .int .i64 1, .int .i64 3, .int .i64 7, .int .i64 100] 3)) hg2 hsl
      have hgr2 := (hgr.alloc _).trans hg2
      have hsz2 := hgr2.sz
      clear hown hgr hSr hx
      go_wp2_with (at_builtin; refine wpApp rfl _ _ _ rfl el_Int encI encI_len encI_one (by omega) (by omega) w.heap.size _ cs rfl (hown2.alloc _) _ x _ rfl (hnew rfl) rfl (by have := HCL.out; omega) (by simp; omega) ?_; intro v3 w3 hown3 hg3)
      have hgr3 := (hgr2.alloc (.cells #[.int .i64 x] 3)).grown hg3 (fun j hj => .inr (own_blk_lt hown2 j hj))
      have hS3 := (hS2.nx ((Nx.refl _).alloc (.cells #[.int .i64 x] 3))).row hg3 (fun j hj => by have := own_blk_lt hown2 j hj; omega)
      go_roundw
      case rel => exact ⟨k' + 1, cs ++ [x], by omega, by go_num, by rw [List.length_append, HCL.out]; rfl, hown3, hgr3, hS3.more (by omega)⟩
      case measure => simp [intOf]; omega
    · have ek : k' = n := by omega
      subst ek
      clear hlt
      rcases hown.2 with ⟨rfl, h0⟩ | ⟨g, cap, cur, rfl, hgg, _⟩
      · have := HCL.out; omega
      go_wp2_with fail
      refine (w_Flip _ _ _ _ hSr (by omega) (by omega)).mono ?_
      rintro e w2 ⟨fl, rfl, hg2, hS2⟩
      have hown2 := own_gr hown hg2 hsl
      have hgr2 := hgr.trans hg2
      have hsz2 := hgr2.sz
      clear hown hgr hSr hg2 hsz
      cases fl
      · go_wp2_with fail
        refine (w_Flip _ _ _ _ hS2 (by omega) (by omega)).mono ?_
        rintro e w9 ⟨fl2, rfl, hg9, hS9⟩
        have hgE := hgr2.trans hg9
        cases fl2
        · go_wp2_with fail
          go_ret
          obtain ⟨B', c4, ev, hRB, _⟩ := Rd.of_own encI_len rfl (own_gr hown2 hg9 hsl)
          exact ⟨B', c4, _, by rw [← ev]; rfl, by have := HCL.out; omega, hRB, hgE, hS9.more (by omega)⟩
        · go_wp2_with fail
          go_ret
          exact ⟨none, 0, [], rfl, by simp, Rd.nil, hgE, hS9.more (by omega)⟩
      · go_wp2_with fail
        refine (w_Next _ _ _ _ hS2 (by omega) (by have := HCL.out; omega)).mono ?_
        rintro e w4 ⟨q, hq1, hq2, rfl, hg4, hS4⟩
        obtain ⟨q, rfl⟩ := Int.eq_ofNat_of_zero_le hq1
        have hown4 := own_gr hown2 hg4 hsl
        have hgr4 := hgr2.trans hg4
        have hsz4 := hgr4.sz
        go_wp2_with fail
        refine (w_PickI _ [-1, 1000000000, 1000000001] _ _ _ _ (hS4.nx ((Nx.refl _).alloc _)) (by omega) (hnew rfl) (by omega) rfl (by simp) (by simp)).mono ?_
        rintro e w5 ⟨x, hx, rfl, hg5, hS5⟩
        have hown5 := own_gr (hown4.alloc (.cells #[.int .i64 (-1), .int .i64 1000000000, .int .i64 1000000001] 3)) hg5 hsl
        have hgr5 := (hgr4.alloc _).trans hg5
        have hqc : q < cs.length := by omega
        have d0 : w5.cell? ⟨g, q, none⟩ = some (.int .i64 cs[q]) := by have := own_cell encI_len rfl hown5 q hqc 0 _ rfl; simpa using this
        have f0 : w5.frozen? ⟨g, q, none⟩ = false := hown5.frozenAt _
        have hown6 := own_set encI_len rfl hown5 q hqc 0 (by omega) (.int .i64 x) x rfl q (by omega)
        have hgr6 := hgr5.setS (p := ⟨g, q, none⟩) (.inr hgg) (.int .i64 x)
        have hS6 := hS5.row ((Gr.refl g _).setS (p := ⟨g, q, none⟩) (.inl rfl) (.int .i64 x)) (fun j hj => by injection hj with hj; omega)
        clear hown2 hown4 hown5 hx
        generalize cs[q] = old at *
        go_wp2_with fail
        refine (w_Flip _ _ _ _ hS6 (by omega) (by omega)).mono ?_
        rintro e w9 ⟨fl2, rfl, hg9, hS9⟩
        have hgE := hgr6.trans hg9
        cases fl2
        · go_wp2_with fail
          go_ret
          obtain ⟨B', c4, ev, hRB, _⟩ := Rd.of_own encI_len (by simp) (own_gr hown6 hg9 hsl)
          exact ⟨B', c4, _, by rw [← ev]; rfl, by have := HCL.out; simp;omega, hRB, hgE, hS9.more (by omega)⟩
        · go_wp2_with fail
          go_ret
          exact ⟨none, 0, [], rfl, by simp, Rd.nil, hgE, hS9.more (by omega)⟩
end Go.Proofs.YtjhmgkoghapocaaDoor
