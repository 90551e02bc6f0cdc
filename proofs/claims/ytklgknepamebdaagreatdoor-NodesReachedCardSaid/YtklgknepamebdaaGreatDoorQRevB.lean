/- Bans the other way round. -/
import Derived.Test.YtklgknepamebdaaGreatDoorQG8
import Derived.Deep.RegionWith
import Derived.Deep.AppendLies
namespace Go.Proofs.YtklgknepamebdaaGreatDoor
open Go.RowKit

theorem ban_set {w : World} {base g n cap : Nat} {xs : List Ban} (h : w.ownsRow base 113 2 (.slice (some ⟨g, 0, none⟩) n cap) n (xs.flatMap encBan)) (hn : xs.length = n) (o : Nat) (ho : o < n * 2) (u : ByteArray) :
    ∃ ys : List Ban, ys.length = n ∧ (w.setCell ⟨g, o, none⟩ (.string u)).ownsRow base 113 2 (.slice (some ⟨g, 0, none⟩) n cap) n (ys.flatMap encBan) := by
  have hi : o / 2 < xs.length := by omega
  rcases (by omega : o % 2 = 0 ∨ o % 2 = 1) with h0 | h0
  · exact ⟨_, by rw [List.length_set]; exact hn, own_set encBan_len hn h (o / 2) hi 0 (by omega) (.string u) ⟨u, xs[o / 2].to_⟩ rfl o (by omega)⟩
  · exact ⟨_, by rw [List.length_set]; exact hn, own_set encBan_len hn h (o / 2) hi 1 (by omega) (.string u) ⟨xs[o / 2].from_, u⟩ rfl o (by omega)⟩
set_option maxRecDepth 100000 in
set_option maxHeartbeats 4000000 in
theorem w_RevB (base : Nat) (v : Value) (bs : List Ban) (w : World) (hown : w.ownsRow base 113 2 v bs.length (bs.flatMap encBan)) (hl : bs.length ≤ 65536) :
    Calls Tryz.prog 57 #[v] w fun e w' => e = .returned (.tuple #[]) ∧ ∃ bs' : List Ban, bs'.length = bs.length ∧ w'.ownsRow base 113 2 v bs'.length (bs'.flatMap encBan) ∧ w.grownBy w' v.ownBlock := by
  by_cases h0 : bs.length = 0
  · have hb : bs = [] := List.eq_nil_of_length_eq_zero h0
    subst hb
    have HO := hide hown
    obtain ⟨A, c, rfl, _, _⟩ := Rd.of_own encBan_len rfl hown
    clear hown
    go_enter Tryz.func57, Tryz.ntmps57
    go_wp2_with fail
    refine wp_loop_rounds 1 ?_
    rw [rounds_succ]
    go_wp2_with fail
    go_end0
    exact ⟨rfl, [], rfl, HO.out, World.grownBy.refl _ _⟩
  · obtain ⟨g, cap, rfl⟩ : ∃ g cap, v = .slice (some ⟨g, 0, none⟩) bs.length cap := by
      rcases hown.2 with ⟨_, h⟩ | ⟨g, cap, cur, e, _⟩
      · exact absurd h h0
      · exact ⟨g, cap, e⟩
    generalize hn : bs.length = n at *
    have HO := hide hown
    have HN := hide hn
    clear hown hn
    go_enter Tryz.func57, Tryz.ntmps57
    have n1 : IntKind.i64.wrap ((n : Int) - 1) = ((n - 1 : Nat) : Int) := by rw [IntWalk.i64_in _ (by omega)]; omega
    go_wp2_with fail
    go_loopw [2, 3] (fun vi vj wr => ∃ (i j : Nat) (zs : List Ban), vi = .int .i64 i ∧ vj = .int .i64 j ∧ i + j = n - 1 ∧ zs.length = n ∧ wr.ownsRow base 113 2 (.slice (some ⟨g, 0, none⟩) n cap) n (zs.flatMap encBan) ∧ Gr g w wr) (fun vi vj _ => (intOf vj).toNat - (intOf vi).toNat)
    case atStart => exact ⟨0, n - 1, bs, rfl, rfl, by omega, HN.out, HO.out, Gr.refl _ _⟩
    case round =>
      obtain ⟨i, j, zs, rfl, rfl, hij, hzl, hown, hgr⟩ := hrel
      by_cases hlt : i < j
      · have hi : i < zs.length := by omega
        have hj : j < zs.length := by omega
        have c0 : wr.cell? ⟨g, i * 2, none⟩ = some (.string zs[i].from_) := by have := own_cell encBan_len hzl hown i hi 0 _ rfl; simpa using this
        have c1 : wr.cell? ⟨g, i * 2 + 1, none⟩ = some (.string zs[i].to_) := own_cell encBan_len hzl hown i hi 1 _ rfl
        have c2 : wr.cell? ⟨g, j * 2, none⟩ = some (.string zs[j].from_) := by have := own_cell encBan_len hzl hown j hj 0 _ rfl; simpa using this
        have c3 : wr.cell? ⟨g, j * 2 + 1, none⟩ = some (.string zs[j].to_) := own_cell encBan_len hzl hown j hj 1 _ rfl
        have f0 := hown.frozenAt (i * 2)
        have f1 := hown.frozenAt (i * 2 + 1)
        have f2 := hown.frozenAt (j * 2)
        have f3 := hown.frozenAt (j * 2 + 1)
        have HOW := hide hown
        have hi2 : (i : Int) < (n : Int) := by omega
        have hj2 : (j : Int) < (n : Int) := by omega
        have hi0 : (0 : Int) ≤ (i : Int) := by omega
        have hj0 : (0 : Int) ≤ (j : Int) := by omega
        generalize zs[i] = x at *
        generalize zs[j] = y at *
        clear hown
        go_wp2_with fail
        go_region_with (fail)
        all_goals
          go_wp2_with fail
          first
            | (obtain ⟨z1, hz1, o1⟩ := ban_set HOW.out hzl (i * 2) (by omega) y.from_
               obtain ⟨z2, hz2, o2⟩ := ban_set o1 hz1 (i * 2 + 1) (by omega) y.to_
               obtain ⟨z3, hz3, o3⟩ := ban_set o2 hz2 (j * 2) (by omega) x.from_
               obtain ⟨z4, hz4, o4⟩ := ban_set o3 hz3 (j * 2 + 1) (by omega) x.to_
               go_roundw
               case rel => exact ⟨i + 1, j - 1, z4, by go_num, by (congr 1; omega), by omega, hz4, o4, ((((hgr.setS (p := ⟨g, i * 2, none⟩) (.inl rfl) _).setS (p := ⟨g, i * 2 + 1, none⟩) (.inl rfl) _).setS (p := ⟨g, j * 2, none⟩) (.inl rfl) _).setS (p := ⟨g, j * 2 + 1, none⟩) (.inl rfl) _).drew⟩
               case measure => simp [intOf]; omega)
            | (obtain ⟨z1, hz1, o1⟩ := ban_set HOW.out hzl (j * 2) (by omega) x.from_
               obtain ⟨z2, hz2, o2⟩ := ban_set o1 hz1 (j * 2 + 1) (by omega) x.to_
               obtain ⟨z3, hz3, o3⟩ := ban_set o2 hz2 (i * 2) (by omega) y.from_
               obtain ⟨z4, hz4, o4⟩ := ban_set o3 hz3 (i * 2 + 1) (by omega) y.to_
               go_roundw
               case rel => exact ⟨i + 1, j - 1, z4, by go_num, by (congr 1; omega), by omega, hz4, o4, ((((hgr.setS (p := ⟨g, j * 2, none⟩) (.inl rfl) _).setS (p := ⟨g, j * 2 + 1, none⟩) (.inl rfl) _).setS (p := ⟨g, i * 2, none⟩) (.inl rfl) _).setS (p := ⟨g, i * 2 + 1, none⟩) (.inl rfl) _).drew⟩
               case measure => simp [intOf]; omega)
      · go_wp2_with fail
        go_end0
        exact ⟨rfl, zs, by omega, by rw [hzl]; exact hown, hgr⟩
end Go.Proofs.YtklgknepamebdaaGreatDoor
