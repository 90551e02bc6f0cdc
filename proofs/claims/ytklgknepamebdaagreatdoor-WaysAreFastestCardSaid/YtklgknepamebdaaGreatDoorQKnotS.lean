/- The stream's knots. -/
import Derived.Test.YtklgknepamebdaaGreatDoorQG9
import Derived.Deep.RegionHeld3
import Derived.Deep.DeepCutAuto
namespace Go.Proofs.YtklgknepamebdaaGreatDoor
open Go.RowKit Go.Proofs Go.Shelf

/-- Some knots, in a row of the call's own. -/
def StrKnots (s k : Nat) (w : World) (e : Ending) (w' : World) : Prop :=
  ∃ (v : Value) (l : List Knot), e = .returned v ∧ w'.ownsRow w.heap.size 111 2 v l.length (l.flatMap encKnot) ∧ l.length ≤ 8 ∧ Gr s w w' ∧ Str w' s k
theorem int_of_mem {cs : List Value} (h : ∀ v ∈ cs, ∃ z : Int, v = .int .i64 z) {v : Value} (hv : v ∈ cs) : ∃ z : Int, v = .int .i64 z := h v hv

set_option maxRecDepth 100000 in
set_option maxHeartbeats 4000000 in
theorem w_knots (s k : Nat) (w : World) (hS : Str w s k) (hk : k < 700000) :
    Calls Tryz.prog 56 #[.pointer (some ⟨s, 0, none⟩)] w (StrKnots s (k + 20) w) := by
  have hsl := hS.lt
  go_enter Tryz.func56, Tryz.ntmps56
  go_wp2_with fail
  refine (w_Pick _ 5 _ _ _ _ (hS.nx ((Nx.refl _).alloc _)) (by omega) (hnew rfl) (by omega) rfl (by omega) (by omega)).mono ?_
  rintro e w1 ⟨v, hv, rfl, hg1, hS1⟩
  obtain ⟨b0, rfl⟩ : ∃ z : Int, v = .int .i64 z := by simp at hv; rcases hv with h | h | h | h | h <;> exact ⟨_, h⟩
  have hgr1 : Gr s w w1 := ((Gr.refl s w).alloc _).trans hg1
  have hsz1 := hgr1.sz
  have hown0 : (w1.alloc (.cells #[.int .i64 0, .int .i64 b0] 111)).ownsRow w.heap.size 111 2 (.slice (some ⟨w1.heap.size, 0, none⟩) 1 1) ([(⟨0, b0⟩ : Knot)]).length (([(⟨0, b0⟩ : Knot)]).flatMap encKnot) := own_lit (w := w1.alloc (.cells #[.int .i64 0, .int .i64 b0] 111)) (e := 111) (g := w1.heap.size) (n := 1) (m := 1) (base := w.heap.size) (xs := [(⟨0, b0⟩ : Knot)]) encKnot_len (hnew rfl) hsz1 rfl rfl (Nat.le_refl _) (by unfold maxLen; omega)
  have HO0 := hide hown0
  clear hown0 hv hg1
  have hS1s := hS1.lt
  go_wp2_with fail
  refine (w_Pick (w1.heap.size + 1) 4 _ _ _ _ ((hS1.nx ((Nx.refl _).alloc _)).nx ((Nx.refl _).alloc _)) (by omega) (hnew (by simp)) (by omega) rfl (by omega) (by omega)).mono ?_
  rintro e w2 ⟨v, hv, rfl, hg2, hS2⟩
  obtain ⟨a0, rfl⟩ : ∃ z : Int, v = .int .i64 z := by simp at hv; rcases hv with h | h | h | h <;> exact ⟨_, h⟩
  have hgr2 : Gr s (w1.alloc (.cells #[.int .i64 0, .int .i64 b0] 111)) w2 := ((Gr.refl s _).alloc _).trans hg2
  have HO2 := hide (own_gr HO0.out hgr2 hsl)
  have hgw2 : Gr s w w2 := (hgr1.alloc _).trans hgr2
  have hsz2 := hgw2.sz
  clear HO0 hv hg2 hgr2 hgr1 hS1
  go_wp2_with fail
  refine (w_PickI _ [0, 0, 1, 2, 3] _ _ _ _ (hS2.nx ((Nx.refl _).alloc _)) (by omega) (hnew rfl) (by omega) rfl (by simp) (by simp)).mono ?_
  rintro e w3 ⟨m, hm, rfl, hg3, hS3⟩
  obtain ⟨m, hm3, rfl⟩ : ∃ n : Nat, n ≤ 3 ∧ m = (n : Int) := by
    simp at hm
    rcases hm with h | h | h | h
    · exact ⟨0, by omega, h⟩
    · exact ⟨1, by omega, h⟩
    · exact ⟨2, by omega, h⟩
    · exact ⟨3, by omega, h⟩
  have hgr3 : Gr s w2 w3 := ((Gr.refl s _).alloc _).trans hg3
  have HO3 := hide (own_gr HO2.out hgr3 hsl)
  have hgw3 : Gr s w w3 := hgw2.trans hgr3
  clear hm HO2 hg3 hgr3 hgw2 hS2 hsz2
  go_wp2_with fail
  go_loopw [4, 5, 20] (fun v at_ i wr => ∃ (j : Nat) (l : List Knot) (a : Int), j ≤ m ∧ i = .int .i64 j ∧ at_ = .int .i64 a ∧ l.length = j + 1 ∧ wr.ownsRow w.heap.size 111 2 v l.length (l.flatMap encKnot) ∧ Gr s w wr ∧ Str wr s (k + 3 + 2 * j)) (fun _ _ i _ => m - (intOf i).toNat)
  case atStart => exact ⟨0, [⟨0, b0⟩], a0, Nat.zero_le _, rfl, rfl, rfl, HO3.out, hgw3, hS3⟩
  case round =>
    clear HO3 hgw3 hS3
    obtain ⟨j, l, a, hj, rfl, rfl, hll, hown, hgr, hSr⟩ := hrel
    by_cases hlt : j < m
    · obtain ⟨A4, c4, ev, hR4, hA4⟩ := Rd.of_own encKnot_len rfl hown
      have HOW := hide hown
      subst ev
      obtain ⟨b, off, rfl, _, hb, hbr, hc⟩ := hR4.open_ (Nx.refl wr) (by omega)
      have hjl : j < l.length := by omega
      have c0 : wr.cell? ⟨b, off + j * 2, none⟩ = some (.int .i64 l[j].at_) := hc j hjl 0 _ rfl
      have c1 : wr.cell? ⟨b, off + j * 2 + 1, none⟩ = some (.int .i64 l[j].time) := hc j hjl 1 _ rfl
      clear hc hown hR4
      generalize l[j].at_ = x1 at *
      generalize l[j].time = x2 at *
      rw [hll]
      have n1 : IntKind.i64.wrap (((j + 1 : Nat) : Int) - 1) = (j : Int) := by rw [IntWalk.i64_in _ (by omega)]; omega
      have n2 : (j : Int) < ((j + 1 : Nat) : Int) := by omega
      have hsr := hSr.lt
      have hgsz := hgr.sz
      go_upto_region 7 with fail
      obtain ⟨wk, hwk⟩ : ∃ wk, wk = wr.alloc (.cells #[.int .i64 x1, .int .i64 x2] 111) := ⟨_, rfl⟩
      have hnk : Nx wr wk := hwk ▸ (Nx.refl wr).alloc _
      have hsk : wr.heap.size < wk.heap.size := by rw [hwk]; simp
      have d0 : wk.cell? ⟨wr.heap.size, 0, none⟩ = some (.int .i64 x1) := by rw [hwk]; go_simp
      have d1 : wk.cell? ⟨wr.heap.size, 1, none⟩ = some (.int .i64 x2) := by rw [hwk]; go_simp
      rw [← hwk]
      have HWK := hide hwk
      have hSk := hSr.nx hnk
      have hgk := hgr.then_nx hnk
      have HOK := hide (own_nx HOW.out hnk)
      clear hwk c0 c1 hSr hgr HOW
      obtain ⟨bx, hbx⟩ : ∃ bx, bx = wr.heap.size := ⟨_, rfl⟩
      rw [← hbx] at hsk d0 d1 ⊢
      rw [← hbx] at hsr
      have HBX := hide hbx
      clear hbx hnk
      have hsk2 : s < wk.heap.size := by omega
      go_cut [7] (fun v wx => ∃ z : Int, v = .int .i64 z ∧ Gr s wk wx ∧ Str wx s (k + 3 + 2 * j + 1))
      case first =>
        go_region_held3 (fun w' => w'.cell? ⟨bx, 0, none⟩ = some (.int .i64 x1) ∧ w'.cell? ⟨bx, 1, none⟩ = some (.int .i64 x2))
          (first | (go_split_ands; exact ⟨World.grownBy.cell hg4 ‹_› (by simp; omega), World.grownBy.cell hg4 ‹_› (by simp; omega)⟩) | go_keep)
          (first
            | (go_at_call 11; refine (w_Pick wk.heap.size 7 _ _ _ _ (hSk.nx (((Nx.refl wk).alloc _).drew)) (by omega) (hnew_drew rfl) (by omega) rfl (by omega) (by omega)).mono ?_; rintro e w4 ⟨v, hv, rfl, hg4, hS4⟩; (obtain ⟨z, rfl⟩ : ∃ z : Int, v = .int .i64 z := by (simp at hv; rcases hv with h | h | h | h | h | h | h <;> exact ⟨_, h⟩))))
        go_wp2
        go_meet
        exact ⟨_, rfl, (((Gr.refl s wk).alloc _).drew).trans hg4, hS4⟩
      case rest =>
        obtain ⟨z, rfl, hg4, hS4⟩ := hcut
        have e0 := World.grownBy.cell hg4 d0 (by simp; omega)
        have e1 := World.grownBy.cell hg4 d1 (by simp; omega)
        have HO4 := hide (own_gr HOK.out hg4 hsl)
        have hg4w := hgk.trans hg4
        have hgsz4 := hg4w.sz
        clear d0 d1 HOK hg4 hgk hSk
        go_upto_region 8 with fail
        go_cut [57] (fun v wx => ∃ b : Bool, v = .bool b ∧ wc = wx)
        case first =>
          go_wp2_with fail
          all_goals
            go_meet
            exact ⟨_, rfl, rfl⟩
        case rest =>
          obtain ⟨bb, rfl, rfl⟩ := hcut
          go_upto_if 57 with fail
          go_cut [7] (fun v wx => ∃ z : Int, v = .int .i64 z ∧ wc = wx)
          case first =>
            cases bb
            all_goals
              go_wp2_with fail
              go_meet
              exact ⟨_, rfl, rfl⟩
          case rest =>
            obtain ⟨y, rfl, rfl⟩ := hcut
            clear e0 e1
            go_wp2_with (first
              | (at_builtin; refine wpApp rfl _ _ _ rfl el_Knot encKnot encKnot_len encKnot_one (by omega) (by omega) w.heap.size _ l (by rw [hll]; rfl) (HO4.out.alloc _) _ ⟨a, y⟩ _ rfl (hnew rfl) rfl (by omega) (by simp; omega) ?_; intro v5 w5 hown5 hg5)
              | fail)
            have hbl := own_blk_lt HO4.out
            have hS5 := (hS4.nx ((Nx.refl wc).alloc (.cells #[.int .i64 a, .int .i64 y] 111))).row hg5 (fun j hj => by have := hbl j hj; omega)
            have hg5w : Gr s w w5 := (hg4w.alloc _).grown hg5 (fun k hk => .inr (hbl k hk))
            have hs5 := hS5.lt
            have HO5 := hide hown5
            clear hown5 HO4
            refine (w_Pick w5.heap.size 5 _ _ _ _ (hS5.nx ((Nx.refl w5).alloc _)) (by omega) (hnew rfl) (by omega) rfl (by omega) (by omega)).mono ?_
            rintro e w6 ⟨v, hv, rfl, hg6, hS6⟩
            obtain ⟨z2, rfl⟩ : ∃ z : Int, v = .int .i64 z := by simp at hv; rcases hv with h | h | h | h | h <;> exact ⟨_, h⟩
            have hg56 : Gr s w5 w6 := ((Gr.refl s w5).alloc _).trans hg6
            have HO6 := hide (own_gr HO5.out hg56 hsl)
            go_wp2_with fail
            go_roundw
            case rel => exact ⟨j + 1, l ++ [⟨a, y⟩], _, by omega, by go_num, rfl, by rw [List.length_append, hll]; rfl, HO6.out, hg5w.trans hg56, hS6.more (by omega)⟩
            case measure => simp [intOf]; omega
    · go_wp2_with fail
      go_ret
      exact ⟨_, l, rfl, hown, by omega, hgr, hSr.more (by omega)⟩
end Go.Proofs.YtklgknepamebdaaGreatDoor
