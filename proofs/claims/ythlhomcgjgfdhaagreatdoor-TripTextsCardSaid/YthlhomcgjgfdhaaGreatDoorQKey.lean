/- Keys: the program's and the reference's. -/
import Derived.Test.YthlhomcgjgfdhaaGreatDoorQG0
import Derived.Test.YthlhomcgjgfdhaaGreatDoorQG3
import Derived.Test.YthlhomcgjgfdhaaGreatDoorQShelfK
namespace Go.Proofs.YthlhomcgjgfdhaaGreatDoor
open Go.RowKit

theorem lowC_int (c : UInt8) : lowC c = true ↔ 97 ≤ (c.toNat : Int) ∧ (c.toNat : Int) ≤ 122 := by
  unfold lowC; simp; omega
theorem keyC_int (c : UInt8) : keyC c = true ↔ (97 ≤ (c.toNat : Int) ∧ (c.toNat : Int) ≤ 122) ∨ (48 ≤ (c.toNat : Int) ∧ (c.toNat : Int) ≤ 57) ∨ (c.toNat : Int) = 45 ∨ (c.toNat : Int) = 95 := by
  unfold keyC lowC digC
  have e1 : (c == 45) = true ↔ (c.toNat : Int) = 45 := by
    rw [beq_iff_eq, ← UInt8.toNat_inj]; show c.toNat = 45 ↔ _; omega
  have e2 : (c == 95) = true ↔ (c.toNat : Int) = 95 := by
    rw [beq_iff_eq, ← UInt8.toNat_inj]; show c.toNat = 95 ↔ _; omega
  simp only [Bool.or_eq_true, Bool.and_eq_true, decide_eq_true_eq, e1, e2]
  omega
theorem keyL_snoc {l : List UInt8} {p : UInt8 → Bool} {k : Nat} (hk : k < l.length) : (l.take (k + 1)).all p = ((l.take k).all p && p l[k]) := by
  rw [List.take_succ_eq_append_getElem hk, List.all_append]; simp
theorem data_len (s : ByteArray) : s.data.toList.length = s.size := by simp
theorem keyB_eq (s : ByteArray) (h0 : 0 < s.size) : keyB s = (decide (s.size ≤ 40) && lowC (s[0]'h0) && s.data.toList.all keyC) := by
  unfold keyB
  have e := data_len s
  cases hl : s.data.toList with
  | nil => rw [hl] at e; simp at e; omega
  | cons c l =>
    have e0 : s[0]'h0 = c := by
      have : s.data.toList[0]'(by rw [e]; exact h0) = c := by simp [hl]
      exact this
    unfold keyL
    rw [e0, ← e, hl]
theorem all_take_false {l : List UInt8} {p : UInt8 → Bool} {k : Nat} (hk : k < l.length) (h : p l[k] = false) : l.all p = false := by
  rw [List.all_eq_false]
  exact ⟨_, List.getElem_mem hk, by simp [h]⟩

set_option maxHeartbeats 1000000 in
theorem w_Key (s : ByteArray) (w : World) (hs : s.size ≤ 1000000) :
    Calls Tryz.prog 104 #[.string s] w fun e w' => e = .returned (.bool (keyB s)) ∧ w = w' := by
  by_cases h0 : s.size = 0
  · have he : s.toList = [] := by
      rw [Lib.toList_data]
      exact List.eq_nil_of_length_eq_zero (by rw [data_len]; exact h0)
    have hk : keyB s = false := by
      unfold keyB
      rw [← Lib.toList_data, he]; rfl
    have HK := hide hk
    clear hk
    go_enter Tryz.func104, Tryz.ntmps104
    go_wp2
    go_ret
    exact ⟨ret_bool (by rw [HK.out]), rfl⟩
  · have h1 : 0 < s.size := by omega
    have HK := hide (keyB_eq s h1)
    have he : s.toList.isEmpty = false := by
      rw [Lib.toList_data]
      cases h : s.data.toList with
      | nil => have := data_len s; rw [h] at this; simp at this; omega
      | cons _ _ => rfl
    have L0 := hide (lowC_int (s[0]'h1))
    by_cases h40 : 40 < s.size
    · go_enter Tryz.func104, Tryz.ntmps104
      go_wp2
      go_ret
      exact ⟨ret_bool (by rw [HK.out, decide_eq_false (by omega)]; rfl), rfl⟩
    · by_cases hlow : lowC (s[0]'h1) = true
      · have hlo := L0.out.1 hlow
        have HLW := hide hlow
        obtain ⟨hl1, hl2⟩ := hlo
        clear hlow
        go_enter Tryz.func104, Tryz.ntmps104
        go_wp2
        go_loop [3, 4, 24] (fun _ _ i => ∃ k : Nat, k ≤ s.size ∧ i = .int .i64 k ∧ (s.data.toList.take k).all keyC = true) (fun _ _ i => s.size - (intOf i).toNat)
        case atStart => exact ⟨0, Nat.zero_le _, rfl, by simp⟩
        case round =>
          obtain ⟨k, hk, rfl, hq⟩ := hrel
          have HQ := hide hq
          clear hq
          by_cases hlt : k < s.size
          · have KC := hide (keyC_int s[k])
            have KS := hide (keyL_snoc (p := keyC) (l := s.data.toList) (k := k) (by simpa using hlt))
            have KA := hide (fun h => all_take_false (p := keyC) (l := s.data.toList) (k := k) (by simpa using hlt) h)
            have KE := hide (show s.data.toList[k]'(by simpa using hlt) = s[k] from rfl)
            by_cases hc : keyC s[k] = true
            · have hc' := KC.out.1 hc
              have HC := hide hc
              clear hc
              go_wp2
              all_goals first
                | (go_round
                   case rel => exact ⟨k + 1, by omega, by go_num, by rw [KS.out, HQ.out, KE.out, HC.out]; rfl⟩
                   case measure => simp [intOf]; omega)
                | (exfalso; simp at *; omega)
            · have hc' : ¬ ((97 ≤ (s[k].toNat : Int) ∧ (s[k].toNat : Int) ≤ 122) ∨ (48 ≤ (s[k].toNat : Int) ∧ (s[k].toNat : Int) ≤ 57) ∨ (s[k].toNat : Int) = 45 ∨ (s[k].toNat : Int) = 95) := fun h => hc (KC.out.2 h)
              have HC := hide hc
              clear hc
              go_wp2
              all_goals first
                | (go_ret
                   exact ⟨ret_bool (by rw [HK.out, KA.out (by rw [KE.out]; simpa using HC.out)]; simp), rfl⟩)
                | (exfalso; simp at *; omega)
          · go_wp2
            go_ret
            have e : k = s.size := by omega
            exact ⟨ret_bool (by
              have h := HQ.out
              rw [e, List.take_of_length_le (by rw [data_len]; exact Nat.le_refl _)] at h
              rw [HK.out, decide_eq_true (by omega), HLW.out, h]; rfl), rfl⟩
      · have hlo : ¬ (97 ≤ ((s[0]'h1).toNat : Int) ∧ ((s[0]'h1).toNat : Int) ≤ 122) := fun h => hlow (L0.out.2 h)
        have HLW := hide hlow
        clear hlow
        by_cases hl1 : ((s[0]'h1).toNat : Int) < 97
        · clear hlo
          go_enter Tryz.func104, Tryz.ntmps104
          go_wp2
          go_ret
          exact ⟨ret_bool (by rw [HK.out, show lowC (s[0]'h1) = false by simpa using HLW.out]; simp), rfl⟩
        · have hl2 : 122 < ((s[0]'h1).toNat : Int) := by omega
          clear hlo
          go_enter Tryz.func104, Tryz.ntmps104
          go_wp2
          go_ret
          exact ⟨ret_bool (by rw [HK.out, show lowC (s[0]'h1) = false by simpa using HLW.out]; simp), rfl⟩

def csB : ByteArray := ⟨#[97, 98, 99, 100, 101, 102, 103, 104, 105, 106, 107, 108, 109, 110, 111, 112, 113, 114, 115, 116, 117, 118, 119, 120, 121, 122, 48, 49, 50, 51, 52, 53, 54, 55, 56, 57, 45, 95]⟩
def smB : ByteArray := ⟨#[97, 98, 99, 100, 101, 102, 103, 104, 105, 106, 107, 108, 109, 110, 111, 112, 113, 114, 115, 116, 117, 118, 119, 120, 121, 122]⟩
/-- The reference's trim, of keys' signs. -/
theorem w_TrimKey (s : ByteArray) (w : World) (hs : s.size ≤ 1000000) :
    Calls Tryz.prog 106 #[.string s, .string csB] w fun e w' => ∃ r : ByteArray, e = .returned (.string r) ∧ r.toList.isEmpty = s.data.toList.all keyC ∧ Nx w w' := by
  have hcon := Any.strings_Trim_laid Tryz.trimStr (by kernel_rfl) s csB w (by omega) (by decide) (ascii_of_all (by decide))
  change Calls Tryz.prog 106 _ _ _ at hcon
  refine hcon.mono ?_
  rintro e w' ⟨rfl, hb⟩
  refine ⟨_, rfl, ?_, hb⟩
  rw [Lib.toList_data]
  exact trim_key s.data.toList
theorem w_IndexSmall (c : UInt8) (w : World) :
    Calls Tryz.prog 107 #[.string smB, .int .u8 (c.toNat : Int)] w fun e w' => ∃ z : Int, e = .returned (.int .i64 z) ∧ decide (0 ≤ z) = lowC c ∧ w = w' := by
  have hcon := Any.strings_IndexByte Tryz.indexByteStr smB (c.toNat : Int) w
  change Calls Tryz.prog 107 _ _ _ at hcon
  refine hcon.mono ?_
  rintro e w' ⟨rfl, rfl⟩
  refine ⟨_, rfl, ?_, rfl⟩
  have e : smB.data.toList = smallL := rfl
  have e2 : ((c.toNat : Int)).toNat.toUInt8 = c := by simp
  rw [e, e2]
  exact small_low c

set_option maxHeartbeats 1000000 in
theorem w_KeyR (s : ByteArray) (w : World) (hs : s.size ≤ 1000000) :
    Calls Tryz.prog 75 #[.string s] w fun e w' => e = .returned (.bool (keyB s)) ∧ Nx w w' := by
  have e1 := inB_out (s.size : Int) 1 40
  by_cases h0 : s.size = 0
  · have he : s.toList = [] := by
      rw [Lib.toList_data]
      exact List.eq_nil_of_length_eq_zero (by rw [data_len]; exact h0)
    have hk : keyB s = false := by
      unfold keyB
      rw [← Lib.toList_data, he]; rfl
    have ho : outB (s.size : Int) 1 40 = true := outB_true.2 (by omega)
    rw [ho] at e1
    have HK := hide hk
    clear hk ho h0
    go_enter Tryz.func75, Tryz.ntmps75
    go_wp2_with (go_at_call 43; refine (w_in _ _ _ _).mono ?_; rintro e w' ⟨rfl, rfl⟩)
    go_ret
    exact ⟨ret_bool (by rw [HK.out]), Nx.refl _⟩
  · have h1 : 0 < s.size := by omega
    have HK := hide (keyB_eq s h1)
    have hT := fun w => w_TrimKey s w hs
    by_cases h40 : 40 < s.size
    · have ho : outB (s.size : Int) 1 40 = true := outB_true.2 (by omega)
      rw [ho] at e1
      clear ho
      go_enter Tryz.func75, Tryz.ntmps75
      go_wp2_with (go_at_call 43; refine (w_in _ _ _ _).mono ?_; rintro e w' ⟨rfl, rfl⟩)
      go_ret
      exact ⟨ret_bool (by rw [HK.out, decide_eq_false (by omega)]; rfl), Nx.refl _⟩
    · have ho : outB (s.size : Int) 1 40 = false := outB_false.2 (by omega)
      rw [ho] at e1
      clear ho
      generalize s.data.toList.all keyC = B at HK hT
      go_enter Tryz.func75, Tryz.ntmps75
      go_wp2_with (first
        | (go_at_call 43; refine (w_in _ _ _ _).mono ?_; rintro e w' ⟨rfl, rfl⟩)
        | (go_at_call 106; refine (hT _).mono ?_; rintro e w1 ⟨r, rfl, hr, hn1⟩)
        | (go_at_call 107; refine (w_IndexSmall _ _).mono ?_; rintro e w2 ⟨z, rfl, hz, rfl⟩))
      · go_ret
        exact ⟨ret_bool (by rw [HK.out, decide_eq_true (by omega), show B = true from ‹B = true›]; simp), hn1⟩
      · go_ret
        have hB : B = false := by simpa using ‹¬B = true›
        exact ⟨ret_bool (by rw [HK.out, hB]; simp), hn1⟩
end Go.Proofs.YthlhomcgjgfdhaaGreatDoor
