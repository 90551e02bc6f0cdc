/- The stream's changed texts, its texts of tallies. -/
import Derived.Test.YthlhomcgjgfdhaaGreatDoorQTalW
import Derived.Test.YthlhomcgjgfdhaaGreatDoorQTalG
import Derived.Test.YthlhomcgjgfdhaaGreatDoorQStr
import Derived.Deep.DeepCutAuto
import Derived.BigQuiet
import Derived.Laws.Cover4
namespace Go.Proofs.YthlhomcgjgfdhaaGreatDoor
open Go.RowKit

/-- A string out of the stream. -/
def StrTxt (n s k : Nat) (w : World) (e : Ending) (w' : World) : Prop := ∃ r : ByteArray, e = .returned (.string r) ∧ r.size ≤ n ∧ Gr s w w' ∧ Str w' s k
def chB : ByteArray := ⟨#[32, 10, 48, 49, 45, 57, 97]⟩
set_option maxRecDepth 100000 in
set_option maxHeartbeats 4000000 in
theorem w_Changed (t : ByteArray) (ht : t.size ≤ 1000000) (s k : Nat) (w : World) (hS : Str w s k) (hk : k < 800000) :
    Calls Tryz.prog 61 #[.pointer (some ⟨s, 0, none⟩), .string t, .string chB] w (StrTxt (t.size + 8) s (k + 3) w) := by
  by_cases h0 : t.data.toList = []
  · have te : t.toList = [] := by rw [Lib.toList_data]; exact h0
    have teb : t.toList.isEmpty = true := by rw [te]; rfl
    have HS := hide (hS.more (show k ≤ k + 3 by omega))
    clear h0 hS
    go_enter Tryz.func61, Tryz.ntmps61
    go_wp2_with fail
    go_ret
    exact ⟨chB, rfl, by show 7 ≤ _; omega, Gr.refl _ _, HS.out⟩
  · have te : ¬ t.toList = [] := by rw [Lib.toList_data]; exact h0
    have teb : t.toList.isEmpty = false := by
      cases h : t.toList with
      | nil => exact absurd h te
      | cons _ _ => rfl
    have htp : 0 < t.size := by
      rcases Nat.eq_zero_or_pos t.size with h | h
      · exact absurd (List.eq_nil_of_length_eq_zero (by rw [len_data]; exact h)) h0
      · exact h
    have hce : chB.toList.isEmpty = false := by rw [Lib.toList_data]; rfl
    clear h0
    obtain ⟨cb, hcb⟩ : ∃ cb, cb = chB := ⟨_, rfl⟩
    have hcs : cb.size = 7 := by rw [hcb]; rfl
    have HCB := hide hcb
    rw [← hcb] at hce ⊢
    clear hcb
    have hc7 : ((cb.size : Nat) : Int) = 7 := by rw [hcs]; rfl
    go_enter Tryz.func61, Tryz.ntmps61
    go_upto_region 4 with (go_at_call 40; refine (w_Next _ s k _ hS (by omega) (by omega)).mono ?_; rintro e w1 ⟨i, hi1, hi2, rfl, hg1, hS1⟩; obtain ⟨i, rfl⟩ := Int.eq_ofNat_of_zero_le hi1)
    have hil : i < t.size := by omega
    have HG1 := hide hg1
    have HS1 := hide hS1
    clear hg1 hS1 hS hi1 hi2
    go_upto_region 5 with (go_at_call 40; refine (w_Next _ s _ _ HS1.out (by omega) (by omega)).mono ?_; rintro e w2 ⟨j, hj1, hj2, rfl, hg2, hS2⟩; obtain ⟨j, rfl⟩ := Int.eq_ofNat_of_zero_le hj1; (have hjl : j < cb.size := by omega); (have HG2 := hide (HG1.out.trans hg2)); (have HS2 := hide hS2); clear hg2 hS2 hj1 hj2)
    obtain ⟨u, hu⟩ : ∃ u : UInt8, u = cb[j] := ⟨_, rfl⟩
    have hu7 : u.toNat < 128 := by
      have h : ∀ q : Fin 7, (chB[q.val]'(by have := q.isLt; show q.val < 7; omega)).toNat < 128 := by decide
      have hj7 : j < 7 := by omega
      have h2 := h ⟨j, hj7⟩
      rw [hu]
      have e : cb[j] = chB[j]'(by show j < 7; omega) := by
        have := HCB.out
        subst this
        rfl
      rw [e]; exact h2
    rw [← hu]
    clear hu
    have hEs : (Utf8.encode (IntKind.i32.wrap (u.toNat : Int))).size ≤ 4 := encode_size_le _
    have hx0 : (t.extract 0 i).size ≤ i := by rw [ByteArray.size_extract]; omega
    have hx1 : (t.extract (i + 1) t.size).size ≤ t.size - (i + 1) := by rw [ByteArray.size_extract]; omega
    have hx2 : (t.extract i t.size).size ≤ t.size - i := by rw [ByteArray.size_extract]; omega
    have z0 : ¬ 9223372036854775807 < (t.extract 0 i).size + (Utf8.encode (IntKind.i32.wrap (u.toNat : Int))).size := by omega
    have z1 : ¬ 9223372036854775807 < (t.extract 0 i).size + (Utf8.encode (IntKind.i32.wrap (u.toNat : Int))).size + (t.extract (i + 1) t.size).size := by omega
    have z2 : ¬ 9223372036854775807 < (t.extract 0 i).size + (t.extract (i + 1) t.size).size := by omega
    have z3 : ¬ 9223372036854775807 < (t.extract 0 i).size + (Utf8.encode (IntKind.i32.wrap (u.toNat : Int))).size + (min t.size t.size - (i + 1)) := by omega
    have z4 : ¬ 9223372036854775807 < (t.extract 0 i).size + (min t.size t.size - (i + 1)) := by omega
    have z5 : ¬ 9223372036854775807 < (t.extract 0 i).size + (Utf8.encode (IntKind.i32.wrap (u.toNat : Int))).size + (t.size - (i + 1)) := by omega
    have z6 : ¬ 9223372036854775807 < (t.extract 0 i).size + (t.size - (i + 1)) := by omega
    have z7 : ¬ 9223372036854775807 < (t.extract 0 i).size + (Utf8.encode (IntKind.i32.wrap (u.toNat : Int))).size + (t.extract i t.size).size := by omega
    have z8 : ¬ 9223372036854775807 < (t.extract 0 i).size + (t.extract i t.size).size := by omega
    have z9 : ¬ 9223372036854775807 < (t.extract 0 i).size + (Utf8.encode (IntKind.i32.wrap (u.toNat : Int))).size + (t.size - i) := by omega
    have z10 : ¬ 9223372036854775807 < (t.extract 0 i).size + (t.size - i) := by omega
    have z11 : ¬ 9223372036854775807 < min i t.size + (Utf8.encode (IntKind.i32.wrap (u.toNat : Int))).size := by omega
    have z12 : ¬ 9223372036854775807 < min i t.size + (Utf8.encode (IntKind.i32.wrap (u.toNat : Int))).size + (t.extract (i + 1) t.size).size := by omega
    have z13 : ¬ 9223372036854775807 < min i t.size + (t.extract (i + 1) t.size).size := by omega
    have z14 : ¬ 9223372036854775807 < min i t.size + (Utf8.encode (IntKind.i32.wrap (u.toNat : Int))).size + (min t.size t.size - (i + 1)) := by omega
    have z15 : ¬ 9223372036854775807 < min i t.size + (min t.size t.size - (i + 1)) := by omega
    have z16 : ¬ 9223372036854775807 < min i t.size + (Utf8.encode (IntKind.i32.wrap (u.toNat : Int))).size + (t.size - (i + 1)) := by omega
    have z17 : ¬ 9223372036854775807 < min i t.size + (t.size - (i + 1)) := by omega
    have z18 : ¬ 9223372036854775807 < min i t.size + (Utf8.encode (IntKind.i32.wrap (u.toNat : Int))).size + (t.extract i t.size).size := by omega
    have z19 : ¬ 9223372036854775807 < min i t.size + (t.extract i t.size).size := by omega
    have z20 : ¬ 9223372036854775807 < min i t.size + (Utf8.encode (IntKind.i32.wrap (u.toNat : Int))).size + (t.size - i) := by omega
    have z21 : ¬ 9223372036854775807 < min i t.size + (t.size - i) := by omega
    have z22 : ¬ 9223372036854775807 < i + (Utf8.encode (IntKind.i32.wrap (u.toNat : Int))).size := by omega
    have z23 : ¬ 9223372036854775807 < i + (Utf8.encode (IntKind.i32.wrap (u.toNat : Int))).size + (t.extract (i + 1) t.size).size := by omega
    have z24 : ¬ 9223372036854775807 < i + (t.extract (i + 1) t.size).size := by omega
    have z25 : ¬ 9223372036854775807 < i + (Utf8.encode (IntKind.i32.wrap (u.toNat : Int))).size + (min t.size t.size - (i + 1)) := by omega
    have z26 : ¬ 9223372036854775807 < i + (min t.size t.size - (i + 1)) := by omega
    have z27 : ¬ 9223372036854775807 < i + (Utf8.encode (IntKind.i32.wrap (u.toNat : Int))).size + (t.size - (i + 1)) := by omega
    have z28 : ¬ 9223372036854775807 < i + (t.size - (i + 1)) := by omega
    have z29 : ¬ 9223372036854775807 < i + (Utf8.encode (IntKind.i32.wrap (u.toNat : Int))).size + (t.extract i t.size).size := by omega
    have z30 : ¬ 9223372036854775807 < i + (t.extract i t.size).size := by omega
    have z31 : ¬ 9223372036854775807 < i + (Utf8.encode (IntKind.i32.wrap (u.toNat : Int))).size + (t.size - i) := by omega
    have z32 : ¬ 9223372036854775807 < i + (t.size - i) := by omega
    have W1 : IntKind.i64.wrap ((i : Int) + 1) = (i : Int) + 1 := IntWalk.i64_in _ (by omega)
    have i0 : (0 : Int) ≤ (i : Int) := by omega
    have i1 : (i : Int) ≤ (t.size : Int) := by omega
    have i2 : (i : Int) + 1 ≤ (t.size : Int) := by omega
    have i3 : (0 : Int) ≤ (i : Int) + 1 := by omega
    go_upto_region 6 with (go_at_call 40; refine (w_Next 3 s _ _ HS2.out (by omega) (by omega)).mono ?_; rintro e w3 ⟨r, hr1, hr2, rfl, hg3, hS3⟩; (have HG3 := hide (HG2.out.trans hg3)); (have HS3 := hide hS3); clear hg3 hS3)
    have hr : r = 0 ∨ r = 1 ∨ r = 2 := by omega
    clear hr1 hr2
    rcases hr with rfl | rfl | rfl
    · go_wp2_with fail
      go_quiet (fail)
      go_wp2_with fail
      go_ret
      exact ⟨_, rfl, by simp only [ByteArray.size_append]; omega, HG3.out.then_nx ((Nx.refl _).drewN _), (HS3.out.nx ((Nx.refl _).drewN _)).more (by omega)⟩
    · go_wp2_with fail
      go_quiet (fail)
      go_wp2_with fail
      go_ret
      exact ⟨_, rfl, by simp only [ByteArray.size_append]; omega, HG3.out.then_nx ((Nx.refl _).drewN _), (HS3.out.nx ((Nx.refl _).drewN _)).more (by omega)⟩
    · go_wp2_with fail
      go_quiet (fail)
      go_wp2_with fail
      go_ret
      exact ⟨_, rfl, by simp only [ByteArray.size_append]; omega, HG3.out.then_nx ((Nx.refl _).drewN _), (HS3.out.nx ((Nx.refl _).drewN _)).more (by omega)⟩
theorem replace_le (s : List UInt8) : (Lib.replace s [32] [32, 32] 1).length ≤ s.length + 2 := by
  have key : ∀ (k : Nat), k ≤ 1 → (Lib.replaceK [32] [32, 32] k s).length ≤ s.length + 2 := by
    intro k hk
    cases k with
    | zero => show s.length ≤ _; omega
    | succ k =>
      have : k = 0 := by omega
      subst this
      show (if Lib.index s [32] == -1 then s else s.take (Lib.index s [32]).toNat ++ [32, 32] ++ Lib.replaceK [32] [32, 32] 0 (s.drop ((Lib.index s [32]).toNat + [32].length))).length ≤ _
      split
      · omega
      · simp only [Lib.replaceK, List.length_append, List.length_take, List.length_drop, List.length_cons, List.length_nil]
        omega
  unfold Lib.replace
  split
  · omega
  · refine key _ ?_
    unfold Lib.replaceNum
    split
    · rename_i h
      omega
    · decide
theorem maxI_r {w : World} (h : MaxI w) : ∃ m : Int, w.cell? ⟨Tryz.replaceStr_ren.g 1, 0, none⟩ = some (.int .i64 m) := h
theorem w_Replace1 (s : ByteArray) (hs : s.size ≤ 1000000) (w : World) (hM : MaxI w) :
    Calls Tryz.prog 62 #[.string s, .string ⟨#[32]⟩, .string ⟨#[32, 32]⟩, .int .i64 1] w fun e w' => ∃ r : ByteArray, e = .returned (.string r) ∧ r.size ≤ s.size + 2 ∧ Nx w w' := by
  obtain ⟨m, hm⟩ := maxI_r hM
  have hc := Lib.countB_le ⟨#[32]⟩ (Nat.le_refl 1) s.size s (Nat.le_refl _)
  have e2 : (⟨#[32, 32]⟩ : ByteArray).size = 2 := rfl
  have hcon := Any.strings_Replace Tryz.replaceStr extraB s ⟨#[32]⟩ ⟨#[32, 32]⟩ 1 m w (by omega) hm (Nat.le_refl 1) (by rw [e2]; omega)
  change Calls Tryz.prog 62 _ _ _ at hcon
  refine hcon.mono ?_
  rintro e w' ⟨rfl, hb⟩
  refine ⟨_, rfl, ?_, hb⟩
  have h := replace_le s.data.toList
  rw [len_data] at h
  rw [← len_data]
  exact h
set_option maxRecDepth 100000 in
set_option maxHeartbeats 4000000 in
theorem w_TallyStr (s k : Nat) (w : World) (hS : Str w s k) (hk : k < 700000) (hT : ∀ w', Gr s w w' → PowTab w') (hM : ∀ w', Gr s w w' → MaxI w') :
    Calls Tryz.prog 21 #[.pointer (some ⟨s, 0, none⟩)] w (StrTxt 1200 s (k + 80) w) := by
  have hsl := hS.lt
  have HT := hide hT
  have HM := hide hM
  have HS := hide hS
  clear hT hM hS
  go_enter Tryz.func21, Tryz.ntmps21
  go_upto_region 2 with (first
    | (go_at_call 38; refine (w_RightTG s k _ HS.out (by omega)).mono ?_; rintro e w1 ⟨v, L, rfl, hrt, hown, hg1, hS1⟩; (obtain ⟨A1, c1, ev, hR, _⟩ := Rd.of_own encTally_len rfl hown); (obtain rfl := ev); (have HR := hide hR); (have HG1 := hide hg1); (have HS1 := hide hS1); (have HV := hide hrt.valid); (have hL24 := hrt.1); (have HP1 := hide (HT.out _ hg1)); clear hrt hown hR hg1 hS1)
    | (go_at_call 20; refine (w_LinesT w.heap.size A1 c1 L _ HR.out (by omega) (fun t ht => by have := HV.out t ht; intro n hn; simp only [tallyW, List.mem_cons, List.not_mem_nil, or_false] at hn; rcases hn with rfl | rfl | rfl | rfl <;> omega) HP1.out).mono ?_; rintro e w2 ⟨rfl, hn2⟩; (have HG2 := hide (HG1.out.then_nx hn2)); (have HS2 := hide (HS1.out.nx hn2)); clear hn2))
  obtain ⟨r0, hr0⟩ : ∃ r0 : ByteArray, r0 = ⟨(tallyText L).toArray⟩ := ⟨_, rfl⟩
  have hr0s : r0.size ≤ 1152 := by
    rw [hr0, ← len_data]
    have h := text_le (L := L) (fun t ht => I64T.digs (t := t) (fun n hn => by
      have := HV.out t ht
      simp only [tallyW, List.mem_cons, List.not_mem_nil, or_false] at hn
      rcases hn with rfl | rfl | rfl | rfl <;> omega))
    simp only
    omega
  rw [← hr0]
  clear hr0 HV HP1 HR
  go_upto_region 3 with (go_at_call 7; refine (w_PickI _ [0, 0, 1, 2] _ _ _ _ (HS2.out.nx ((Nx.refl _).alloc _)) (by omega) (hnew rfl) (by have := HS2.out.lt; omega) rfl (by simp) (by simp)).mono ?_; rintro e w3 ⟨n, hn, rfl, hg3, hS3⟩; (have HG3 := hide ((HG2.out.alloc _).trans hg3)); (have HS3 := hide hS3); clear hg3 hS3)
  have hn02 : 0 ≤ n ∧ n ≤ 2 := by simp only [List.mem_cons, List.not_mem_nil, or_false] at hn; omega
  clear hn
  obtain ⟨n, rfl⟩ := Int.eq_ofNat_of_zero_le hn02.1
  have hn2 : n ≤ 2 := by omega
  clear hn02
  go_loopw [3, 10] (fun v i wr => ∃ (j : Nat) (r : ByteArray), j ≤ n ∧ i = .int .i64 j ∧ v = .string r ∧ r.size ≤ 1152 + 8 * j ∧ Gr s w wr ∧ Str wr s (k + 61 + 3 * j)) (fun _ i _ => n - (intOf i).toNat)
  case atStart => exact ⟨0, r0, Nat.zero_le _, rfl, rfl, by omega, HG3.out, HS3.out.more (by omega)⟩
  case round =>
    obtain ⟨j, r, hj, rfl, rfl, hr, hgr, hSr⟩ := hrel
    by_cases hlt : j < n
    · have HC := hide (w_Changed r (by omega) s _ wr hSr (by omega))
      have HGR := hide hgr
      have i2 : (j : Int) < (n : Int) := by omega
      clear hgr hSr
      go_wp2_with (go_at_call 61; refine HC.out.mono ?_; rintro e w4 ⟨r', rfl, hr', hg4, hS4⟩)
      go_roundw
      case rel => exact ⟨j + 1, r', by omega, by go_num, rfl, by omega, HGR.out.trans hg4, hS4.more (by omega)⟩
      case measure => simp [intOf]; omega
    · have hSR := hide hSr
      have HGR := hide hgr
      clear hSr hgr
      go_wp2_with fail
      refine (w_Flip _ _ _ _ hSR.out (by omega) (by omega)).mono ?_
      rintro e w4 ⟨bo, rfl, hg4, hS4⟩
      have HG4 := hide (HGR.out.trans hg4)
      have HS4 := hide hS4
      have HM4 := hide (HM.out _ (HGR.out.trans hg4))
      clear hg4 hS4
      cases bo
      · go_wp2_with fail
        go_ret
        exact ⟨r, rfl, by omega, HG4.out, HS4.out.more (by omega)⟩
      · go_wp2_with (go_at_call 62; refine (w_Replace1 r (by omega) _ HM4.out).mono ?_; rintro e w5 ⟨r2, rfl, hr2, hn5⟩)
        go_ret
        exact ⟨r2, rfl, by omega, HG4.out.then_nx hn5, (HS4.out.nx hn5).more (by omega)⟩
end Go.Proofs.YthlhomcgjgfdhaaGreatDoor
