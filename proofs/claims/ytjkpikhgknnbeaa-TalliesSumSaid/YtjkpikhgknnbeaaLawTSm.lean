/- jitlaw1.TalliesSum returns true. -/
import Derived.Test.YtjkpikhgknnbeaaLawTSa
namespace Go.Proofs.Ytjkpikhgknnbeaa
open Go.RowKit Go.Sort Go.Shelf Go.Maps
attribute [local go_sem ↓] eql_Frac
attribute [local go_sem] gd_Frac

set_option maxRecDepth 100000 in
set_option maxHeartbeats 8000000 in
theorem w_lawTS (A : Option Addr) (n c : Nat) (w : World) (hn : n ≤ 9223372036854775807)
    (hL : 0 < n → ∃ b off, A = some ⟨b, off, none⟩ ∧ b < w.heap.size ∧ ∀ j, j < n → ∃ z : Int, w.cell? ⟨b, off + j, none⟩ = some (.int .i64 z) ∧ -9223372036854775808 ≤ z ∧ z ≤ 9223372036854775807) :
    Calls Try.prog 5 #[.slice A n c] w (TrueNx w) := by
  have hS0 : Str (w.alloc (.cells #[.slice A n c, .int .i64 0] 25)) w.heap.size 0 := str_new A n c w hn hL
  clear hL
  go_enter Try.func5, Try.ntmps5
  go_wp2_with fail
  refine (w_TallyList _ _ _ hS0 (by omega)).mono ?_
  rintro e w1 ⟨A1, c1, a, rfl, hla, hR1, hg1, hS1⟩
  go_wp2_with fail
  refine (w_TallyList _ _ _ hS1 (by omega)).mono ?_
  rintro e w2 ⟨A2, c2, b, rfl, hlb, hR2, hg2, hS2⟩
  have hg02 := hg1.trans hg2
  go_wp2_with fail
  refine (w_PickI _ [0, 0, 3600000, 691200000, -1] _ _ _ _ (hS2.nx ((Nx.refl _).alloc _)) (by omega) (hnew rfl) (by have := hS2.lt; omega) rfl (by simp) (by simp)).mono ?_
  rintro e w3 ⟨f, hf, rfl, hg3, hS3⟩
  have hg03 := (hg02.alloc _).trans hg3
  go_wp2_with fail
  refine (w_PickI _ [86400000, 691200000, 2592000000, 345686400000, 345686400001] _ _ _ _ (hS3.nx ((Nx.refl _).alloc _)) (by omega) (hnew rfl) (by have := hS3.lt; omega) rfl (by simp) (by simp)).mono ?_
  rintro e w4 ⟨t, ht, rfl, hg4, hS4⟩
  have hg04 := (hg03.alloc _).trans hg4
  go_wp2_with fail
  refine (w_PickI _ [0, 60, -90, 1440, -1441] _ _ _ _ ((hS4.nx ((Nx.refl _).alloc _)).nx ((Nx.refl _).alloc _)) (by omega) (hnew (by simp)) (by have := hS4.lt; simp; omega) rfl (by simp) (by simp)).mono ?_
  rintro e w5 ⟨z, hz, rfl, hg5, hS5⟩
  have hg05 := ((hg04.alloc _).alloc _).trans hg5
  have h6 : w5.heap[w4.heap.size]? = some (.cells #[.int .i64 f, .int .i64 t] 69 (0, 0)) := (World.grownBy.block (row := some _) hg5 _ (by simp; omega) (by have := hS4.lt; simp; omega)).trans ((((Nx.refl _).alloc _).block _ (by simp)).trans (hnew rfl))
  go_wp2_with fail
  refine (w_PickI _ [0, 8, 167, 168, -1] _ _ _ _ (hS5.nx ((Nx.refl _).alloc _)) (by omega) (hnew rfl) (by have := hS5.lt; omega) rfl (by simp) (by simp)).mono ?_
  rintro e w6 ⟨h, hh, rfl, hg6, hS6⟩
  have hg56 := ((Gr.refl w.heap.size w5).alloc _).trans hg6
  go_wp2_with fail
  refine (w_PickI _ [0, 1, -1, 10001] _ _ _ _ (hS6.nx ((Nx.refl _).alloc _)) (by omega) (hnew rfl) (by have := hS6.lt; omega) rfl (by simp) (by simp)).mono ?_
  rintro e w7 ⟨x, hx, rfl, hg7, hS7⟩
  have hg57 := (hg56.alloc _).trans hg7
  go_wp2_with fail
  refine (w_PickI _ [0, 1] _ _ _ _ (hS7.nx ((Nx.refl _).alloc _)) (by omega) (hnew rfl) (by have := hS7.lt; omega) rfl (by simp) (by simp)).mono ?_
  rintro e w8 ⟨y, hy, rfl, hg8, hS8⟩
  have hg58 := (hg57.alloc _).trans hg8
  go_wp2_with fail
  refine (w_PickI _ [0, 1, 2, 4, 1000, 1001] _ _ _ _ ((hS8.nx ((Nx.refl _).alloc _)).nx ((Nx.refl _).alloc _)) (by omega) (hnew (by simp)) (by have := hS8.lt; simp; omega) rfl (by simp) (by simp)).mono ?_
  rintro e w9 ⟨self, hself, rfl, hg9, hS9⟩
  have h9 : w9.heap[w8.heap.size]? = some (.cells #[.int .i64 x, .int .i64 y] 31 (0, 0)) := (World.grownBy.block (row := some _) hg9 _ (by simp; omega) (by have := hS8.lt; simp; omega)).trans ((((Nx.refl _).alloc _).block _ (by simp)).trans (hnew rfl))
  have hg59 := ((hg58.alloc _).alloc _).trans hg9
  go_wp2_with fail
  refine (w_PickI _ [0, 1, 1, -1] _ _ _ _ (hS9.nx ((Nx.refl _).alloc _)) (by omega) (hnew rfl) (by have := hS9.lt; omega) rfl (by simp) (by simp)).mono ?_
  rintro e w10 ⟨side, hside, rfl, hg10, hS10⟩
  have hg9a := ((Gr.refl w.heap.size w9).alloc _).trans hg10
  have hg5a := hg59.trans hg9a
  have D : Drawn w w10 A1 A2 a b w4.heap.size w8.heap.size f t x y := by
    refine ⟨?_, ?_, ?_, ?_, ?_⟩
    · have hg1a := (((hg2.then_nx ((Nx.refl _).alloc _)).trans hg3).alloc _).trans hg4
      exact ((hR1.gr ((((hg1a.alloc _).alloc _).trans hg5).trans hg5a) (by simp)).low (Nat.zero_le _))
    · exact ((hR2.gr ((((((((Gr.refl _ w2).alloc _).trans hg3).alloc _).trans hg4).alloc _).alloc _).trans hg5 |>.trans hg5a) hS1.lt).low (Nat.zero_le _))
    · exact Nx.of_gr (((Gr.of_nx ((Nx.refl w).alloc _)).trans hg05).trans hg5a) (Nat.le_refl _)
    · exact (World.grownBy.block (row := some _) hg5a _ (Array.getElem?_eq_some_iff.1 h6).1 (by have := hS4.lt; simp; omega)).trans h6
    · exact (World.grownBy.block (row := some _) hg9a _ (Array.getElem?_eq_some_iff.1 h9).1 (by have := hS8.lt; simp; omega)).trans h9
  generalize w4.heap.size = s6 at *
  generalize w8.heap.size = s9 at *
  clear hS0 hS1 hS2 hS3 hS4 hS5 hS6 hS7 hS8 hS9 hS10 hg1 hg2 hg3 hg4 hg5 hg6 hg7 hg8 hg9 hg10 hg02 hg03 hg04 hg05 hg56 hg57 hg58 hg59 hg5a hg9a hR1 hR2 h6 h9 hf ht hz hh hx hy hself hside
  have hT1 : (talliesF a != talliesF a) = false := by simp
  go_wp2_with (first
    | (go_at_call 36; refine (w_TalliesFault _ _ _ _ _ D.ra (by omega)).mono ?_; rintro e v1 ⟨rfl, hv1⟩)
    | (go_at_call 37; refine (w_CheckTallies _ _ _ _ _ (D.ra.nx hv1) (by omega)).mono ?_; rintro e v2 ⟨rfl, hv2⟩))
  have hn2 := hv1.trans hv2
  clear hT1 hv1 hv2
  refine (w_TogU _ _ _ _ _ _ _ _ _ (D.ra.nx hn2) (D.rb.nx hn2) (by omega) (by omega)).mono ?_
  rintro e v3 ⟨A3, c3, E, zs, hU, rfl, hR3, hn3⟩
  have hn3' := hn2.trans hn3
  clear hn2
  go_upto_if 71 with (first
    | (go_at_call 36; refine (w_TalliesFault _ _ _ _ _ (D.rb.nx hn3') (by omega)).mono ?_; rintro e v4 ⟨rfl, hv4⟩)
    | (go_at_call 11; refine (w_Or2 (talliesF a) (talliesF b) _ _ _ (hnew (by simp))).mono ?_; rintro e v5 ⟨rfl, rfl⟩))
  go_cut [15, 16] (fun u v wx => SameT E zs v3 u v wx)
  case first =>
    rcases hU with ⟨hF, rfl, rfl⟩ | ⟨hF, hU⟩
    · have t1 : (orI [talliesF a, talliesF b] == 0) = false := by simpa using hF
      have HF := hide hF
      clear hF
      go_wp2
      go_meet
      exact ⟨rfl, ⟨none, 0, rfl, Rd.nil⟩, hv4.alloc _⟩
    · have t1 : (orI [talliesF a, talliesF b] == 0) = true := by simpa using hF
      have HF := hide (orI2_zero.1 hF)
      have HU := hide hU
      clear hF hU
      go_wp2_with fail
      refine (w_TogetherOf _ _ _ _ _ _ _ _ _ (D.ra.nx ((hn3'.trans hv4).alloc _)) (D.rb.nx ((hn3'.trans hv4).alloc _)) (by omega) (by omega) HF.out.1 HF.out.2).mono ?_
      rintro e v6 ⟨A6, c6, E6, zs6, hU6, rfl, hR6, hn6⟩
      obtain ⟨rfl, rfl⟩ := BndR.unique HU.out hU6
      clear hU6
      go_wp2
      go_meet
      exact ⟨rfl, ⟨_, _, rfl, hR6.low (Nat.zero_le _)⟩, (hv4.alloc _).trans hn6⟩
  case rest =>
    obtain ⟨rfl, ⟨A4, c4, rfl, hR4⟩, hx⟩ := hcut
    have HZ := hide (BndU.len hU ((a ++ b).map keyT) (fun k hk => by have := accF_keys k hk; rw [List.map_map] at this; exact this) (by simp; omega))
    refine ‹∀ (a : Act) (w_1 : World), Code.wp _ _ _ a w_1 → _› _ _ ?_
    exact st2 hla D (hn3'.trans hx) (hR3.nx hx) hR4 HZ _ _ _ _ _ _ _ _ _ _ _ _ _ _ _ _ _ _ _ _ _ _ _ _ _ _ _ _ _ _ _ _ _ _ _ _ _ _ _ _ _ _ _ _ _ _ _ _ _ _ _ _ _ _ _ _ _ _ _ _ _ _ _ _ _ _ _ _ _ _ _ _ _ _ _ _ _ _ _ _ _ _ _ _ _ _ _ _ _ _ _ _ _ _ _ _ _ _ _ _ _ _ _ _ _ _ _ _ _ _ _ _ _ _ _ _ _ _ _ _ _ _ _ _ _ _ _ _ _ _ _ _ _ _ _ _ _ _ _ _ _ _ _ _ _ _ _ _ _ _ _ _ _ _ _ _ _ _ _ _ _ _ _ _ _ _ _ _ _ _ _ _ _ _ _ _ _ _ _ _ _ _ _ _ _ _ _ _ _ _ _ _ _ _ _ _ _ _ _ _ _ _ _ _ _ _ _ _ _ _ _ _ _ _ _ _ _ _ _ _ _ _ _ _ _
end Go.Proofs.Ytjkpikhgknnbeaa
