/- The stream's changed texts, over any letters. -/
import Derived.Test.YthlhomcgjgfdhaaGreatDoorQNumW
import Derived.Test.YthlhomcgjgfdhaaGreatDoorQStr
import Derived.Deep.DeepCutAuto
import Derived.BigQuiet
import Derived.Laws.Cover4
namespace Go.Proofs.YthlhomcgjgfdhaaGreatDoor
open Go.RowKit

/-- A string out of the stream. -/
def StrTxt (n s k : Nat) (w : World) (e : Ending) (w' : World) : Prop := ∃ r : ByteArray, e = .returned (.string r) ∧ r.size ≤ n ∧ Gr s w w' ∧ Str w' s k
set_option maxRecDepth 100000 in
set_option maxHeartbeats 4000000 in
theorem w_ChangedC (cs : ByteArray) (hcs0 : 0 < cs.size) (hcs8 : cs.size ≤ 8) (t : ByteArray) (ht : t.size ≤ 1000000) (s k : Nat) (w : World) (hS : Str w s k) (hk : k < 800000) :
    Calls Tryz.prog 61 #[.pointer (some ⟨s, 0, none⟩), .string t, .string cs] w (StrTxt (t.size + 8) s (k + 3) w) := by
  by_cases h0 : t.data.toList = []
  · have te : t.toList = [] := by rw [Lib.toList_data]; exact h0
    have teb : t.toList.isEmpty = true := by rw [te]; rfl
    have HS := hide (hS.more (show k ≤ k + 3 by omega))
    clear h0 hS
    go_enter Tryz.func61, Tryz.ntmps61
    go_wp2_with fail
    go_ret
    exact ⟨cs, rfl, by omega, Gr.refl _ _, HS.out⟩
  · have te : ¬ t.toList = [] := by rw [Lib.toList_data]; exact h0
    have teb : t.toList.isEmpty = false := by
      cases h : t.toList with
      | nil => exact absurd h te
      | cons _ _ => rfl
    have htp : 0 < t.size := by
      rcases Nat.eq_zero_or_pos t.size with h | h
      · exact absurd (List.eq_nil_of_length_eq_zero (by rw [len_data]; exact h)) h0
      · exact h
    have hce : cs.toList.isEmpty = false := by
      rw [Lib.toList_data]
      cases h : cs.data.toList with
      | nil => rw [← len_data, h] at hcs0; simp at hcs0
      | cons _ _ => rfl
    clear h0
    go_enter Tryz.func61, Tryz.ntmps61
    go_upto_region 4 with (go_at_call 40; refine (w_Next _ s k _ hS (by omega) (by omega)).mono ?_; rintro e w1 ⟨i, hi1, hi2, rfl, hg1, hS1⟩; obtain ⟨i, rfl⟩ := Int.eq_ofNat_of_zero_le hi1)
    have hil : i < t.size := by omega
    have HG1 := hide hg1
    have HS1 := hide hS1
    clear hg1 hS1 hS hi1 hi2
    go_upto_region 5 with (go_at_call 40; refine (w_Next _ s _ _ HS1.out (by omega) (by omega)).mono ?_; rintro e w2 ⟨j, hj1, hj2, rfl, hg2, hS2⟩; obtain ⟨j, rfl⟩ := Int.eq_ofNat_of_zero_le hj1; (have hjl : j < cs.size := by omega); (have HG2 := hide (HG1.out.trans hg2)); (have HS2 := hide hS2); clear hg2 hS2 hj1 hj2)
    obtain ⟨u, hu⟩ : ∃ u : UInt8, u = cs[j] := ⟨_, rfl⟩
    have hu7 : u.toNat < 256 := u.toNat_lt
    rw [← hu]
    clear hu
    have hEs : (Utf8.encode (IntKind.i32.wrap (u.toNat : Int))).size ≤ 4 := encode_size_le _
    have hx0 : (t.extract 0 i).size ≤ i := by rw [ByteArray.size_extract]; omega
    have hx1 : (t.extract (i + 1) t.size).size ≤ t.size - (i + 1) := by rw [ByteArray.size_extract]; omega
    have hx2 : (t.extract i t.size).size ≤ t.size - i := by rw [ByteArray.size_extract]; omega
    have z0 : ¬ 9223372036854775807 < (t.extract 0 i).size + (Utf8.encode (IntKind.i32.wrap (u.toNat : Int))).size := by omega
    have z1 : ¬ 9223372036854775807 < (t.extract 0 i).size + (Utf8.encode (IntKind.i32.wrap (u.toNat : Int))).size + (t.extract (i + 1) t.size).size := by omega
    have z2 : ¬ 9223372036854775807 < (t.extract 0 i).size + (t.extract (i + 1) t.size).size := by omega
    have z3 : ¬ 9223372036854775807 < (t.extract 0 i).size + (Utf8.encode (IntKind.i32.wrap (u.toNat : Int))).size + (min t.size t.size - (i + 1)) := by omega
    have z4 : ¬ 9223372036854775807 < (t.extract 0 i).size + (min t.size t.size - (i + 1)) := by omega
    have z5 : ¬ 9223372036854775807 < (t.extract 0 i).size + (Utf8.encode (IntKind.i32.wrap (u.toNat : Int))).size + (t.size - (i + 1)) := by omega
    have z6 : ¬ 9223372036854775807 < (t.extract 0 i).size + (t.size - (i + 1)) := by omega
    have z7 : ¬ 9223372036854775807 < (t.extract 0 i).size + (Utf8.encode (IntKind.i32.wrap (u.toNat : Int))).size + (t.extract i t.size).size := by omega
    have z8 : ¬ 9223372036854775807 < (t.extract 0 i).size + (t.extract i t.size).size := by omega
    have z9 : ¬ 9223372036854775807 < (t.extract 0 i).size + (Utf8.encode (IntKind.i32.wrap (u.toNat : Int))).size + (t.size - i) := by omega
    have z10 : ¬ 9223372036854775807 < (t.extract 0 i).size + (t.size - i) := by omega
    have z11 : ¬ 9223372036854775807 < min i t.size + (Utf8.encode (IntKind.i32.wrap (u.toNat : Int))).size := by omega
    have z12 : ¬ 9223372036854775807 < min i t.size + (Utf8.encode (IntKind.i32.wrap (u.toNat : Int))).size + (t.extract (i + 1) t.size).size := by omega
    have z13 : ¬ 9223372036854775807 < min i t.size + (t.extract (i + 1) t.size).size := by omega
    have z14 : ¬ 9223372036854775807 < min i t.size + (Utf8.encode (IntKind.i32.wrap (u.toNat : Int))).size + (min t.size t.size - (i + 1)) := by omega
    have z15 : ¬ 9223372036854775807 < min i t.size + (min t.size t.size - (i + 1)) := by omega
    have z16 : ¬ 9223372036854775807 < min i t.size + (Utf8.encode (IntKind.i32.wrap (u.toNat : Int))).size + (t.size - (i + 1)) := by omega
    have z17 : ¬ 9223372036854775807 < min i t.size + (t.size - (i + 1)) := by omega
    have z18 : ¬ 9223372036854775807 < min i t.size + (Utf8.encode (IntKind.i32.wrap (u.toNat : Int))).size + (t.extract i t.size).size := by omega
    have z19 : ¬ 9223372036854775807 < min i t.size + (t.extract i t.size).size := by omega
    have z20 : ¬ 9223372036854775807 < min i t.size + (Utf8.encode (IntKind.i32.wrap (u.toNat : Int))).size + (t.size - i) := by omega
    have z21 : ¬ 9223372036854775807 < min i t.size + (t.size - i) := by omega
    have z22 : ¬ 9223372036854775807 < i + (Utf8.encode (IntKind.i32.wrap (u.toNat : Int))).size := by omega
    have z23 : ¬ 9223372036854775807 < i + (Utf8.encode (IntKind.i32.wrap (u.toNat : Int))).size + (t.extract (i + 1) t.size).size := by omega
    have z24 : ¬ 9223372036854775807 < i + (t.extract (i + 1) t.size).size := by omega
    have z25 : ¬ 9223372036854775807 < i + (Utf8.encode (IntKind.i32.wrap (u.toNat : Int))).size + (min t.size t.size - (i + 1)) := by omega
    have z26 : ¬ 9223372036854775807 < i + (min t.size t.size - (i + 1)) := by omega
    have z27 : ¬ 9223372036854775807 < i + (Utf8.encode (IntKind.i32.wrap (u.toNat : Int))).size + (t.size - (i + 1)) := by omega
    have z28 : ¬ 9223372036854775807 < i + (t.size - (i + 1)) := by omega
    have z29 : ¬ 9223372036854775807 < i + (Utf8.encode (IntKind.i32.wrap (u.toNat : Int))).size + (t.extract i t.size).size := by omega
    have z30 : ¬ 9223372036854775807 < i + (t.extract i t.size).size := by omega
    have z31 : ¬ 9223372036854775807 < i + (Utf8.encode (IntKind.i32.wrap (u.toNat : Int))).size + (t.size - i) := by omega
    have z32 : ¬ 9223372036854775807 < i + (t.size - i) := by omega
    have W1 : IntKind.i64.wrap ((i : Int) + 1) = (i : Int) + 1 := IntWalk.i64_in _ (by omega)
    have i0 : (0 : Int) ≤ (i : Int) := by omega
    have i1 : (i : Int) ≤ (t.size : Int) := by omega
    have i2 : (i : Int) + 1 ≤ (t.size : Int) := by omega
    have i3 : (0 : Int) ≤ (i : Int) + 1 := by omega
    go_upto_region 6 with (go_at_call 40; refine (w_Next 3 s _ _ HS2.out (by omega) (by omega)).mono ?_; rintro e w3 ⟨r, hr1, hr2, rfl, hg3, hS3⟩; (have HG3 := hide (HG2.out.trans hg3)); (have HS3 := hide hS3); clear hg3 hS3)
    have hr : r = 0 ∨ r = 1 ∨ r = 2 := by omega
    clear hr1 hr2
    rcases hr with rfl | rfl | rfl
    · go_wp2_with fail
      go_quiet (fail)
      go_wp2_with fail
      go_ret
      exact ⟨_, rfl, by simp only [ByteArray.size_append]; omega, HG3.out.then_nx ((Nx.refl _).drewN _), (HS3.out.nx ((Nx.refl _).drewN _)).more (by omega)⟩
    · go_wp2_with fail
      go_quiet (fail)
      go_wp2_with fail
      go_ret
      exact ⟨_, rfl, by simp only [ByteArray.size_append]; omega, HG3.out.then_nx ((Nx.refl _).drewN _), (HS3.out.nx ((Nx.refl _).drewN _)).more (by omega)⟩
    · go_wp2_with fail
      go_quiet (fail)
      go_wp2_with fail
      go_ret
      exact ⟨_, rfl, by simp only [ByteArray.size_append]; omega, HG3.out.then_nx ((Nx.refl _).drewN _), (HS3.out.nx ((Nx.refl _).drewN _)).more (by omega)⟩
end Go.Proofs.YthlhomcgjgfdhaaGreatDoor
