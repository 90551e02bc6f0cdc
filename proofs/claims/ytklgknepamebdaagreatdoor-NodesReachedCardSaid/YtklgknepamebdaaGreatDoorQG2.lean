/- Keys: the program's and the reference's. -/
import Derived.Test.YtklgknepamebdaaGreatDoorQG0
import Derived.Test.YtklgknepamebdaaGreatDoorQShelfK
import Derived.Lib.Bytealg
import Derived.Sort.LotA
import Derived.Shelf.SlSortCmp.Insertion
namespace Go.Proofs.YtklgknepamebdaaGreatDoor
open Go.RowKit

theorem lowC_int (c : UInt8) : lowC c = true ↔ 97 ≤ (c.toNat : Int) ∧ (c.toNat : Int) ≤ 122 := by
  unfold lowC; simp; omega
theorem keyC_int (c : UInt8) : keyC c = true ↔ (97 ≤ (c.toNat : Int) ∧ (c.toNat : Int) ≤ 122) ∨ (48 ≤ (c.toNat : Int) ∧ (c.toNat : Int) ≤ 57) ∨ (c.toNat : Int) = 45 ∨ (c.toNat : Int) = 95 := by
  unfold keyC lowC digC
  have e1 : (c == 45) = true ↔ (c.toNat : Int) = 45 := by
    rw [beq_iff_eq, ← UInt8.toNat_inj]; show c.toNat = 45 ↔ _; omega
  have e2 : (c == 95) = true ↔ (c.toNat : Int) = 95 := by
    rw [beq_iff_eq, ← UInt8.toNat_inj]; show c.toNat = 95 ↔ _; omega
  simp only [Bool.or_eq_true, Bool.and_eq_true, decide_eq_true_eq, e1, e2]
  omega
theorem keyL_snoc {l : List UInt8} {p : UInt8 → Bool} {k : Nat} (hk : k < l.length) : (l.take (k + 1)).all p = ((l.take k).all p && p l[k]) := by
  rw [List.take_succ_eq_append_getElem hk, List.all_append]; simp
theorem data_len (s : ByteArray) : s.data.toList.length = s.size := by simp
theorem keyB_eq (s : ByteArray) (h0 : 0 < s.size) : keyB s = (decide (s.size ≤ 40) && lowC (s[0]'h0) && s.data.toList.all keyC) := by
  unfold keyB
  have e := data_len s
  cases hl : s.data.toList with
  | nil => rw [hl] at e; simp at e; omega
  | cons c l =>
    have e0 : s[0]'h0 = c := by
      have : s.data.toList[0]'(by rw [e]; exact h0) = c := by simp [hl]
      exact this
    unfold keyL
    rw [e0, ← e, hl]
theorem all_take_false {l : List UInt8} {p : UInt8 → Bool} {k : Nat} (hk : k < l.length) (h : p l[k] = false) : l.all p = false := by
  rw [List.all_eq_false]
  exact ⟨_, List.getElem_mem hk, by simp [h]⟩

set_option maxHeartbeats 1000000 in
theorem w_Key (s : ByteArray) (w : World) (hs : s.size ≤ 1000000) :
    Calls Tryz.prog 124 #[.string s] w fun e w' => e = .returned (.bool (keyB s)) ∧ w = w' := by
  by_cases h0 : s.size = 0
  · have he : s.toList = [] := by
      rw [Lib.toList_data]
      exact List.eq_nil_of_length_eq_zero (by rw [data_len]; exact h0)
    have hk : keyB s = false := by
      unfold keyB
      rw [← Lib.toList_data, he]; rfl
    have HK := hide hk
    clear hk
    go_enter Tryz.func124, Tryz.ntmps124
    go_wp2
    go_ret
    exact ⟨ret_bool (by rw [HK.out]), rfl⟩
  · have h1 : 0 < s.size := by omega
    have HK := hide (keyB_eq s h1)
    have he : s.toList.isEmpty = false := by
      rw [Lib.toList_data]
      cases h : s.data.toList with
      | nil => have := data_len s; rw [h] at this; simp at this; omega
      | cons _ _ => rfl
    have L0 := hide (lowC_int (s[0]'h1))
    by_cases h40 : 40 < s.size
    · go_enter Tryz.func124, Tryz.ntmps124
      go_wp2
      go_ret
      exact ⟨ret_bool (by rw [HK.out, decide_eq_false (by omega)]; rfl), rfl⟩
    · by_cases hlow : lowC (s[0]'h1) = true
      · have hlo := L0.out.1 hlow
        have HLW := hide hlow
        obtain ⟨hl1, hl2⟩ := hlo
        clear hlow
        go_enter Tryz.func124, Tryz.ntmps124
        go_wp2
        go_loop [3, 4, 24] (fun _ _ i => ∃ k : Nat, k ≤ s.size ∧ i = .int .i64 k ∧ (s.data.toList.take k).all keyC = true) (fun _ _ i => s.size - (intOf i).toNat)
        case atStart => exact ⟨0, Nat.zero_le _, rfl, by simp⟩
        case round =>
          obtain ⟨k, hk, rfl, hq⟩ := hrel
          have HQ := hide hq
          clear hq
          by_cases hlt : k < s.size
          · have KC := hide (keyC_int s[k])
            have KS := hide (keyL_snoc (p := keyC) (l := s.data.toList) (k := k) (by simpa using hlt))
            have KA := hide (fun h => all_take_false (p := keyC) (l := s.data.toList) (k := k) (by simpa using hlt) h)
            have KE := hide (show s.data.toList[k]'(by simpa using hlt) = s[k] from rfl)
            by_cases hc : keyC s[k] = true
            · have hc' := KC.out.1 hc
              have HC := hide hc
              clear hc
              go_wp2
              all_goals first
                | (go_round
                   case rel => exact ⟨k + 1, by omega, by go_num, by rw [KS.out, HQ.out, KE.out, HC.out]; rfl⟩
                   case measure => simp [intOf]; omega)
                | (exfalso; simp at *; omega)
            · have hc' : ¬ ((97 ≤ (s[k].toNat : Int) ∧ (s[k].toNat : Int) ≤ 122) ∨ (48 ≤ (s[k].toNat : Int) ∧ (s[k].toNat : Int) ≤ 57) ∨ (s[k].toNat : Int) = 45 ∨ (s[k].toNat : Int) = 95) := fun h => hc (KC.out.2 h)
              have HC := hide hc
              clear hc
              go_wp2
              all_goals first
                | (go_ret
                   exact ⟨ret_bool (by rw [HK.out, KA.out (by rw [KE.out]; simpa using HC.out)]; simp), rfl⟩)
                | (exfalso; simp at *; omega)
          · go_wp2
            go_ret
            have e : k = s.size := by omega
            exact ⟨ret_bool (by
              have h := HQ.out
              rw [e, List.take_of_length_le (by rw [data_len]; exact Nat.le_refl _)] at h
              rw [HK.out, decide_eq_true (by omega), HLW.out, h]; rfl), rfl⟩
      · have hlo : ¬ (97 ≤ ((s[0]'h1).toNat : Int) ∧ ((s[0]'h1).toNat : Int) ≤ 122) := fun h => hlow (L0.out.2 h)
        have HLW := hide hlow
        clear hlow
        by_cases hl1 : ((s[0]'h1).toNat : Int) < 97
        · clear hlo
          go_enter Tryz.func124, Tryz.ntmps124
          go_wp2
          go_ret
          exact ⟨ret_bool (by rw [HK.out, show lowC (s[0]'h1) = false by simpa using HLW.out]; simp), rfl⟩
        · have hl2 : 122 < ((s[0]'h1).toNat : Int) := by omega
          clear hlo
          go_enter Tryz.func124, Tryz.ntmps124
          go_wp2
          go_ret
          exact ⟨ret_bool (by rw [HK.out, show lowC (s[0]'h1) = false by simpa using HLW.out]; simp), rfl⟩

def csB : ByteArray := ⟨#[97, 98, 99, 100, 101, 102, 103, 104, 105, 106, 107, 108, 109, 110, 111, 112, 113, 114, 115, 116, 117, 118, 119, 120, 121, 122, 48, 49, 50, 51, 52, 53, 54, 55, 56, 57, 45, 95]⟩
def smB : ByteArray := ⟨#[97, 98, 99, 100, 101, 102, 103, 104, 105, 106, 107, 108, 109, 110, 111, 112, 113, 114, 115, 116, 117, 118, 119, 120, 121, 122]⟩
/-- The reference's trim, of keys' signs. -/
theorem w_TrimKey (s : ByteArray) (w : World) (hs : s.size ≤ 1000000) :
    Calls Tryz.prog 132 #[.string s, .string csB] w fun e w' => ∃ r : ByteArray, e = .returned (.string r) ∧ r.toList.isEmpty = s.data.toList.all keyC ∧ Nx w w' := by
  have hcon := Any.strings_Trim_laid Tryz.trimStr (by kernel_rfl) s csB w (by omega) (by decide) (ascii_of_all (by decide))
  change Calls Tryz.prog 132 _ _ _ at hcon
  refine hcon.mono ?_
  rintro e w' ⟨rfl, hb⟩
  refine ⟨_, rfl, ?_, hb⟩
  rw [Lib.toList_data]
  exact trim_key s.data.toList
theorem w_IndexSmall (c : UInt8) (w : World) :
    Calls Tryz.prog 133 #[.string smB, .int .u8 (c.toNat : Int)] w fun e w' => ∃ z : Int, e = .returned (.int .i64 z) ∧ decide (0 ≤ z) = lowC c ∧ w = w' := by
  have hcon := Any.strings_IndexByte Tryz.indexByteStr smB (c.toNat : Int) w
  change Calls Tryz.prog 133 _ _ _ at hcon
  refine hcon.mono ?_
  rintro e w' ⟨rfl, rfl⟩
  refine ⟨_, rfl, ?_, rfl⟩
  have e : smB.data.toList = smallL := rfl
  have e2 : ((c.toNat : Int)).toNat.toUInt8 = c := by simp
  rw [e, e2]
  exact small_low c

set_option maxHeartbeats 1000000 in
theorem w_KeyR (s : ByteArray) (w : World) (hs : s.size ≤ 1000000) :
    Calls Tryz.prog 71 #[.string s] w fun e w' => e = .returned (.bool (keyB s)) ∧ Nx w w' := by
  have e1 := inB_out (s.size : Int) 1 40
  by_cases h0 : s.size = 0
  · have he : s.toList = [] := by
      rw [Lib.toList_data]
      exact List.eq_nil_of_length_eq_zero (by rw [data_len]; exact h0)
    have hk : keyB s = false := by
      unfold keyB
      rw [← Lib.toList_data, he]; rfl
    have ho : outB (s.size : Int) 1 40 = true := outB_true.2 (by omega)
    rw [ho] at e1
    have HK := hide hk
    clear hk ho h0
    go_enter Tryz.func71, Tryz.ntmps71
    go_wp2_with (go_at_call 72; refine (w_in _ _ _ _).mono ?_; rintro e w' ⟨rfl, rfl⟩)
    go_ret
    exact ⟨ret_bool (by rw [HK.out]), Nx.refl _⟩
  · have h1 : 0 < s.size := by omega
    have HK := hide (keyB_eq s h1)
    have hT := fun w => w_TrimKey s w hs
    by_cases h40 : 40 < s.size
    · have ho : outB (s.size : Int) 1 40 = true := outB_true.2 (by omega)
      rw [ho] at e1
      clear ho
      go_enter Tryz.func71, Tryz.ntmps71
      go_wp2_with (go_at_call 72; refine (w_in _ _ _ _).mono ?_; rintro e w' ⟨rfl, rfl⟩)
      go_ret
      exact ⟨ret_bool (by rw [HK.out, decide_eq_false (by omega)]; rfl), Nx.refl _⟩
    · have ho : outB (s.size : Int) 1 40 = false := outB_false.2 (by omega)
      rw [ho] at e1
      clear ho
      generalize s.data.toList.all keyC = B at HK hT
      go_enter Tryz.func71, Tryz.ntmps71
      go_wp2_with (first
        | (go_at_call 72; refine (w_in _ _ _ _).mono ?_; rintro e w' ⟨rfl, rfl⟩)
        | (go_at_call 132; refine (hT _).mono ?_; rintro e w1 ⟨r, rfl, hr, hn1⟩)
        | (go_at_call 133; refine (w_IndexSmall _ _).mono ?_; rintro e w2 ⟨z, rfl, hz, rfl⟩))
      · go_ret
        exact ⟨ret_bool (by rw [HK.out, decide_eq_true (by omega), show B = true from ‹B = true›]; simp), hn1⟩
      · go_ret
        have hB : B = false := by simpa using ‹¬B = true›
        exact ⟨ret_bool (by rw [HK.out, hB]; simp), hn1⟩
end Go.Proofs.YtklgknepamebdaaGreatDoor
/- cmp.Or of errors. -/
namespace Go.Proofs.YtklgknepamebdaaGreatDoor
open Go.RowKit

def encI (n : Int) : List Value := [.int .i64 n]
theorem orI_drop (zs : List Int) (k : Nat) (hk : k < zs.length) : orI (zs.drop k) = if zs[k] = 0 then orI (zs.drop (k + 1)) else zs[k] := by
  rw [List.drop_eq_getElem_cons hk]; rfl
set_option maxHeartbeats 400000 in
theorem w_OrE (lo : Nat) (A : Option Addr) (c : Nat) (zs : List Int) (w : World) (hR : Rd w lo A 1 encI zs) (hl : zs.length ≤ 65536) :
    Calls Tryz.prog 18 #[.slice A zs.length c] w fun e w' => e = .returned (.int .i64 (orI zs)) ∧ w = w' := by
  generalize hn : zs.length = n at *
  have HR := hide hR
  have HN := hide hn
  clear hR hn
  go_enter Tryz.func18, Tryz.ntmps18
  go_wp2
  go_loop [2, 5, 8] (fun _ _ i => ∃ k : Nat, k ≤ n ∧ i = .int .i64 k ∧ orI zs = orI (zs.drop k)) (fun _ _ i => n - (intOf i).toNat)
  case atStart => exact ⟨0, Nat.zero_le _, rfl, rfl⟩
  case round =>
    obtain ⟨k, hk, rfl, hq⟩ := hrel
    have HQ := hide hq
    clear hq
    by_cases hlt : k < n
    · have hlt' : k < zs.length := by have := HN.out; omega
      obtain ⟨b, off, rfl, _, hb, _, hc⟩ := HR.out.open_ (Nx.refl w) (by omega)
      have c0 : w.cell? ⟨b, off + k, none⟩ = some (.int .i64 zs[k]) := by have := hc k hlt' 0 _ rfl; simpa using this
      clear hc
      have HD := hide (orI_drop zs k hlt')
      by_cases hz : zs[k] = 0
      · have hz' : (zs[k] != 0) = false := by simpa using hz
        generalize zs[k] = z at *
        go_wp2
        go_round
        case rel => exact ⟨k + 1, by omega, by go_num, by rw [HQ.out, HD.out, if_pos hz]⟩
        case measure => simp [intOf]; omega
      · have hz' : (zs[k] != 0) = true := by simpa using hz
        generalize zs[k] = z at *
        go_wp2
        go_ret
        exact ⟨ret_int (by rw [HQ.out, HD.out, if_neg hz]), rfl⟩
    · go_wp2
      go_ret
      exact ⟨ret_int (by rw [HQ.out, List.drop_of_length_le (by have := HN.out; omega)]; rfl), rfl⟩

end Go.Proofs.YtklgknepamebdaaGreatDoor
/- Sorted keys: the program's check and the reference's. -/
namespace Go.Proofs.YtklgknepamebdaaGreatDoor
open Go.RowKit

def Small (l : List ByteArray) : Prop := ∀ s ∈ l, s.size ≤ 1000000
theorem Small.at {l : List ByteArray} (h : Small l) (k : Nat) (hk : k < l.length) : l[k].size ≤ 1000000 := h _ (List.getElem_mem hk)

end Go.Proofs.YtklgknepamebdaaGreatDoor
/- Nodes: the program's check. -/
namespace Go.Proofs.YtklgknepamebdaaGreatDoor
open Go.RowKit

theorem w_isPointR (x y : Int) (w : World) : Calls Tryz.prog 98 #[.int .i64 x, .int .i64 y] w fun e w' => e = .returned (.bool (isPtB x y)) ∧ w = w' := by
  cases h : outB x (-10000) 10000
  · cases h2 : outB y (-10000) 10000
    all_goals
      go_enter Tryz.func98, Tryz.ntmps98
      go_wp2_with (go_at_call 68; refine (w_Out _ _ _ _).mono ?_; rintro e w' ⟨rfl, rfl⟩)
      go_ret
      exact ⟨ret_bool (by unfold isPtB; rw [h, h2]; rfl), rfl⟩
  · go_enter Tryz.func98, Tryz.ntmps98
    go_wp2_with (go_at_call 68; refine (w_Out _ _ _ _).mono ?_; rintro e w' ⟨rfl, rfl⟩)
    go_ret
    exact ⟨ret_bool (by unfold isPtB; rw [h]; rfl), rfl⟩

def SmallN (l : List Node) : Prop := ∀ s ∈ l, s.key.size ≤ 1000000
set_option maxRecDepth 100000 in
set_option maxHeartbeats 2000000 in
theorem w_nodesFaultR (lo : Nat) (A : Option Addr) (c : Nat) (l : List Node) (w : World) (hR : Rd w lo A 3 encNode l) (hS : SmallN l) (hl : l.length ≤ 65536) :
    Calls Tryz.prog 123 #[.slice A l.length c] w fun e w' => e = .returned (.int .i64 (nodesF l)) ∧ Nx w w' := by
  generalize hn : l.length = n at *
  have HR := hide hR
  have HN := hide hn
  have HS := hide hS
  clear hR hn hS
  by_cases hbig : 500 < n
  · go_enter Tryz.func123, Tryz.ntmps123
    go_wp2
    go_ret
    exact ⟨ret_int (by unfold nodesF; rw [if_pos (by rw [HN.out]; exact hbig)]), Nx.refl _⟩
  · have HF := hide (show nodesF l = chk nodeF none l by unfold nodesF; rw [if_neg (by rw [HN.out]; exact hbig)])
    go_enter Tryz.func123, Tryz.ntmps123
    go_wp2
    go_loopw [2, 3, 4, 10] (fun _ _ _ i wr => ∃ k : Nat, k ≤ n ∧ i = .int .i64 k ∧ Nx w wr ∧ chk nodeF none l = chk nodeF (prevOf l k) (l.drop k)) (fun _ _ _ i _ => n - (intOf i).toNat)
    case atStart => exact ⟨0, Nat.zero_le _, rfl, Nx.refl _, rfl⟩
    case round =>
      obtain ⟨k, hk, rfl, hbw, hq⟩ := hrel
      have HQ := hide hq
      clear hq
      by_cases hlt : k < n
      · have hlt' : k < l.length := by have := HN.out; omega
        obtain ⟨b, off, rfl, _, hb, hbr, hc⟩ := HR.out.open_ hbw (by omega)
        have c0 : wr.cell? ⟨b, off + k * 3, none⟩ = some (.string l[k].key) := hc k hlt' 0 _ rfl
        have c1 : wr.cell? ⟨b, off + k * 3 + 1, none⟩ = some (.int .i64 l[k].x) := hc k hlt' 1 _ rfl
        have c2 : wr.cell? ⟨b, off + k * 3 + 2, none⟩ = some (.int .i64 l[k].y) := hc k hlt' 2 _ rfl
        have hsz := HS.out _ (List.getElem_mem hlt')
        have HC := hide hc
        clear hc
        have HD := hide (chk_drop nodeF l k hlt')
        cases hkb : keyB l[k].key
        · have HV := hide (show nodeF (prevOf l k) l[k] = 5 by unfold nodeF; rw [hkb]; rfl)
          go_wp2_with (go_at_call 124; refine (w_Key _ _ hsz).mono ?_; rintro e w' ⟨rfl, rfl⟩)
          go_ret
          exact ⟨ret_int (by rw [HF.out, HQ.out, HD.out, HV.out]; rfl), hbw.alloc _⟩
        · by_cases hk0 : 0 < k
          · have c4 : wr.cell? ⟨b, off + (k - 1) * 3, none⟩ = some (.string (l[k - 1]'(by omega)).key) := HC.out (k - 1) (by omega) 0 _ rfl
            have HV := hide (show nodeF (prevOf l k) l[k] = if strLe l[k].key (l[k - 1]'(by omega)).key then 7 else ptF l[k].x l[k].y by rw [prevOf_pos l k hk0 (by omega)]; unfold nodeF; rw [hkb]; rfl)
            generalize (l[k - 1]'(by omega)).key = p0 at *
            have q0 : decide ((0 : Int) < (k : Int)) = true := by simpa using hk0
            have q1 : IntKind.i64.wrap ((k : Int) - 1) = (k : Int) - 1 := IntWalk.i64_in _ (by omega)
            have q2 : (1 : Int) ≤ (k : Int) := by omega
            have q3 : ((k : Int) - 1).toNat = k - 1 := by omega
            have q4 : (k : Int) - 1 < (n : Int) := by omega
            cases ho : strLe l[k].key p0
            · have t1 : (Op.bytesLess l[k].key.toList p0.toList || l[k].key.toList == p0.toList) = false := ho
              have HO := hide ho
              cases hp : isPtB l[k].x l[k].y
              all_goals
                have HP := hide hp
                clear ho
                go_wp2_with (first
                  | (go_at_call 124; refine (w_Key _ _ hsz).mono ?_; rintro e w' ⟨rfl, rfl⟩))
                go_quiet (fail)
                go_wp2_with (first
                  | (go_at_call 98; refine (w_isPointR _ _ _).mono ?_; rintro e w' ⟨rfl, rfl⟩))
              · go_ret
                exact ⟨ret_int (by rw [HF.out, HQ.out, HD.out, HV.out, HO.out]; unfold ptF argF; rw [HP.out]; rfl), (hbw.alloc _).drewN _⟩
              · go_roundw
                case rel => exact ⟨k + 1, by omega, by go_num, (hbw.alloc _).drewN _, by rw [HQ.out, HD.out, HV.out, HO.out]; unfold ptF argF; rw [HP.out]; rfl⟩
                case measure => simp [intOf]; omega
            · have t1 : (Op.bytesLess l[k].key.toList p0.toList || l[k].key.toList == p0.toList) = true := ho
              have HO := hide ho
              clear ho
              go_wp2_with (first
                | (go_at_call 124; refine (w_Key _ _ hsz).mono ?_; rintro e w' ⟨rfl, rfl⟩))
              go_quiet (fail)
              go_wp2
              go_ret
              exact ⟨ret_int (by rw [HF.out, HQ.out, HD.out, HV.out, HO.out]; rfl), (hbw.alloc _).drewN _⟩
          · have HV := hide (show nodeF (prevOf l k) l[k] = ptF l[k].x l[k].y by have e : k = 0 := (by omega); subst e; rw [prevOf_zero]; unfold nodeF; rw [hkb]; rfl)
            have q0 : decide ((0 : Int) < (k : Int)) = false := by simpa using hk0
            cases hp : isPtB l[k].x l[k].y
            all_goals
              have HP := hide hp
              go_wp2_with (first
                | (go_at_call 124; refine (w_Key _ _ hsz).mono ?_; rintro e w' ⟨rfl, rfl⟩))
              go_quiet (fail)
              go_wp2_with (first
                | (go_at_call 98; refine (w_isPointR _ _ _).mono ?_; rintro e w' ⟨rfl, rfl⟩))
            · go_ret
              exact ⟨ret_int (by rw [HF.out, HQ.out, HD.out, HV.out]; unfold ptF argF; rw [HP.out]; rfl), (hbw.alloc _).drewN _⟩
            · go_roundw
              case rel => exact ⟨k + 1, by omega, by go_num, (hbw.alloc _).drewN _, by rw [HQ.out, HD.out, HV.out]; unfold ptF argF; rw [HP.out]; rfl⟩
              case measure => simp [intOf]; omega
      · go_wp2
        go_ret
        exact ⟨ret_int (by rw [HF.out, HQ.out, List.drop_of_length_le (by have := HN.out; omega)]; rfl), hbw⟩
end Go.Proofs.YtklgknepamebdaaGreatDoor
/- Plain: sums by key; the list of them that is sorted by key; legs split by keys. -/
namespace Go.Proofs.YtklgknepamebdaaGreatDoor
open Go.Sort Go.Proofs Go.Shelf

theorem cmpB_zero : ∀ a b : List UInt8, Lib.compareBytes a b = 0 ↔ a = b
  | [], [] => by simp [Lib.compareBytes]
  | [], _ :: _ => by simp [Lib.compareBytes]
  | _ :: _, [] => by simp [Lib.compareBytes]
  | a :: x, b :: y => by
    unfold Lib.compareBytes
    by_cases h1 : a < b
    · have : a ≠ b := fun e => by subst e; exact UInt8.lt_irrefl a h1
      simp [h1, this]
    · by_cases h2 : b < a
      · have : a ≠ b := fun e => by subst e; exact UInt8.lt_irrefl a h2
        simp [h1, h2, this]
      · have e : a = b := UInt8.le_antisymm (UInt8.not_lt.1 h2) (UInt8.not_lt.1 h1)
        subst e
        simp [h1, cmpB_zero x y]
theorem cmpB_neg : ∀ a b : List UInt8, Lib.compareBytes a b < 0 ↔ a < b
  | [], [] => by simp [Lib.compareBytes]
  | [], _ :: _ => by simp [Lib.compareBytes]
  | _ :: _, [] => by simp [Lib.compareBytes]
  | a :: x, b :: y => by
    unfold Lib.compareBytes
    rw [List.cons_lt_cons_iff]
    by_cases h1 : a < b
    · simp [h1]
    · by_cases h2 : b < a
      · have : a ≠ b := fun e => by subst e; exact UInt8.lt_irrefl a h2
        simp [h1, h2, this]
      · have e : a = b := UInt8.le_antisymm (UInt8.not_lt.1 h2) (UInt8.not_lt.1 h1)
        subst e
        simp [h1, cmpB_neg x y]
def cmpS (a b : ByteArray) : Int := Lib.compareBytes a.data.toList b.data.toList
def ltS (a b : ByteArray) : Prop := a.data.toList < b.data.toList
theorem data_inj {a b : ByteArray} (h : a.data.toList = b.data.toList) : a = b := by
  obtain ⟨⟨a⟩⟩ := a
  obtain ⟨⟨b⟩⟩ := b
  simp at h
  rw [h]
theorem cmpS_zero {a b : ByteArray} : cmpS a b = 0 ↔ a = b := by
  unfold cmpS
  rw [cmpB_zero]
  exact ⟨data_inj, fun h => by rw [h]⟩
theorem cmpS_neg {a b : ByteArray} : cmpS a b < 0 ↔ ltS a b := cmpB_neg _ _
theorem ltS_trans {a b c : ByteArray} (h : ltS a b) (h' : ltS b c) : ltS a c := List.lt_trans h h'
theorem ltS_irrefl (a : ByteArray) : ¬ ltS a a := List.lt_irrefl _
theorem ltS_tri (a b : ByteArray) (h : ¬ ltS a b) (h' : ¬ ltS b a) : a = b := data_inj (List.le_antisymm (List.not_lt.1 h') (List.not_lt.1 h))

def dueC (a b : Due) : Int := cmpS a.key b.key
theorem due_lt {a b : Due} : ltOf dueC a b = true ↔ ltS a.key b.key := by
  unfold ltOf dueC
  rw [decide_eq_true_eq, cmpS_neg]
theorem due_nlt {a b : Due} : ltOf dueC a b = false ↔ ¬ ltS a.key b.key := by
  rw [← due_lt]; simp
theorem swoDue : SWO (ltOf dueC) where
  irrefl x := due_nlt.2 (ltS_irrefl _)
  trans x y z h1 h2 := due_lt.2 (ltS_trans (due_lt.1 h1) (due_lt.1 h2))
  ntrans x y z h1 h2 := due_nlt.2 (fun h => by
    have h1 := due_nlt.1 h1
    have h2 := due_nlt.1 h2
    unfold ltS at *
    rw [List.not_lt] at h1 h2
    exact absurd h (List.not_lt.2 (List.le_trans h2 h1)))

/-- ys: the sums by key that are there and are not shut out by 'zero', sorted by key. -/
def DuesOf (f : ByteArray → Option Int) (zero : Bool) (ys : List Due) : Prop :=
  ys.Pairwise (fun a b => ltS a.key b.key) ∧ ∀ d : Due, d ∈ ys ↔ f d.key = some d.cents ∧ (d.cents ≠ 0 ∨ zero = true)
theorem sorted_eq : ∀ {xs ys : List Due}, xs.Pairwise (fun a b => ltS a.key b.key) → ys.Pairwise (fun a b => ltS a.key b.key) → (∀ d, d ∈ xs ↔ d ∈ ys) → xs = ys
  | [], [], _, _, _ => rfl
  | [], y :: ys, _, _, h => by have := (h y).2 (by simp); cases this
  | x :: xs, [], _, _, h => by have := (h x).1 (by simp); cases this
  | x :: xs, y :: ys, h1, h2, h => by
    rw [List.pairwise_cons] at h1 h2
    have e : x = y := by
      rcases List.mem_cons.1 ((h x).1 (by simp)) with e | hx
      · exact e
      · rcases List.mem_cons.1 ((h y).2 (by simp)) with e | hy
        · exact e.symm
        · exact absurd (ltS_trans (h1.1 y hy) (h2.1 x hx)) (ltS_irrefl _)
    subst e
    congr 1
    refine sorted_eq h1.2 h2.2 fun d => ?_
    have hd := h d
    simp only [List.mem_cons] at hd
    constructor
    · intro hx
      rcases hd.1 (.inr hx) with e | h3
      · subst e; exact absurd (h1.1 d hx) (ltS_irrefl _)
      · exact h3
    · intro hy
      rcases hd.2 (.inr hy) with e | h3
      · subst e; exact absurd (h2.1 d hy) (ltS_irrefl _)
      · exact h3
theorem DuesOf.unique {f : ByteArray → Option Int} {zero : Bool} {xs ys : List Due} (h : DuesOf f zero xs) (h' : DuesOf f zero ys) : xs = ys :=
  sorted_eq h.1 h'.1 fun d => (h.2 d).trans (h'.2 d).symm

/-- v more at key k. -/
def addK (f : ByteArray → Option Int) (k : ByteArray) (v : Int) : ByteArray → Option Int := fun k' => if k' = k then some ((f k).getD 0 + v) else f k'
theorem addK_at (f : ByteArray → Option Int) (k : ByteArray) (v : Int) : addK f k v k = some ((f k).getD 0 + v) := by simp [addK]
theorem addK_two (f : ByteArray → Option Int) (k : ByteArray) (a b : Int) : addK (addK f k a) k b = addK f k (a + b) := by
  funext k'
  unfold addK
  by_cases h : k' = k
  · subst h; simp; omega
  · simp [h]
/-- Nothing is below 0, nor above B. -/
def BndK (f : ByteArray → Option Int) (B : Int) : Prop := ∀ k, 0 ≤ (f k).getD 0 ∧ (f k).getD 0 ≤ B
theorem BndK.none (B : Int) (h : 0 ≤ B) : BndK (fun _ => none) B := fun _ => ⟨Int.le_refl _, h⟩
theorem BndK.add {f : ByteArray → Option Int} {B v V : Int} (h : BndK f B) (k : ByteArray) (h0 : 0 ≤ v) (h1 : v ≤ V) : BndK (addK f k v) (B + V) := by
  intro k'
  unfold addK
  have h2 := h k
  by_cases e : k' = k
  · subst e; simp; omega
  · have := h k'
    simp [e]; omega
/-- What ride i of n pays of a leg's cents. -/
def legI (cents : Int) (n i : Nat) : Int := cents / n + if (i : Int) < cents % n then 1 else 0
theorem legI_bd {cents : Int} {n i : Nat} (hn : 0 < n) (h0 : 0 ≤ cents) (h1 : cents ≤ maxCt) : 0 ≤ legI cents n i ∧ legI cents n i ≤ maxCt := by
  have e1 : 0 ≤ cents / (n : Int) := Int.ediv_nonneg h0 (by omega)
  have e2 : cents / (n : Int) * (n : Int) ≤ cents := Int.ediv_mul_le _ (by omega)
  have e3 : cents / (n : Int) * 1 ≤ cents / (n : Int) * (n : Int) := Int.mul_le_mul_of_nonneg_left (by omega) e1
  have e4 := Int.emod_nonneg cents (show (n : Int) ≠ 0 by omega)
  have e5 := Int.mul_ediv_add_emod cents n
  have e6 : (n : Int) * (cents / (n : Int)) = cents / (n : Int) * (n : Int) := Int.mul_comm _ _
  unfold legI
  unfold maxCt at *
  split <;> omega
/-- The first k rides of a leg have paid. -/
def rideK (rides : List ByteArray) (cents : Int) (f : ByteArray → Option Int) : Nat → ByteArray → Option Int
  | 0 => f
  | k + 1 => addK (rideK rides cents f k) (rides.getD k default) (legI cents rides.length k)
theorem rideK_bd {rides : List ByteArray} {cents : Int} {f : ByteArray → Option Int} {B : Int} (h : BndK f B) (hn : 0 < rides.length) (h0 : 0 ≤ cents) (h1 : cents ≤ maxCt) : ∀ k : Nat, BndK (rideK rides cents f k) (B + maxCt * k)
  | 0 => by simpa [rideK] using h
  | k + 1 => by
    have := (rideK_bd h hn h0 h1 k).add (rides.getD k default) (legI_bd (i := k) hn h0 h1).1 (legI_bd hn h0 h1).2
    have e : B + maxCt * ((k + 1 : Nat) : Int) = B + maxCt * k + maxCt := by unfold maxCt; omega
    rw [e]; exact this
theorem sumL_rep (n : Nat) (x : Int) : sumL (List.replicate n x) = n * x := by
  induction n with
  | zero => simp [sumL]
  | succ n ih => rw [List.replicate_succ, sumL, ih, Int.natCast_succ, Int.add_mul]; omega
theorem getD_rep (n : Nat) (x : Int) (i : Nat) (hi : i < n) : (List.replicate n x).getD i 0 = x := by
  rw [List.getD_eq_getElem?_getD, List.getElem?_eq_getElem (by simpa using hi)]; simp
/-- Equal parts: the first ones get one more. -/
theorem divided_ones {cents : Int} {n : Nat} (hn : 0 < n) {zs : List Int} (h : Divided cents (List.replicate n 1) zs) : zs.length = n ∧ ∀ i, i < n → zs.getD i 0 = legI cents n i := by
  have e1 : numsD cents (List.replicate n 1) = List.replicate n cents := by simp [numsD]
  have e2 : sumL (List.replicate n 1) = (n : Int) := by rw [sumL_rep]; omega
  have hm := Int.emod_nonneg cents (show (n : Int) ≠ 0 by omega)
  have hm2 := Int.emod_lt_of_pos cents (show (0 : Int) < n by omega)
  have e3 := Int.mul_ediv_add_emod cents n
  have hH : Divided cents (List.replicate n 1) (bump (List.replicate n (cents / n)) (List.range (cents % n).toNat)) := by
    unfold Divided Handed
    rw [e1, e2]
    refine ⟨List.range (cents % n).toNat, ⟨List.nodup_range, fun i hi => ?_, fun i hi j hj hn => ?_⟩, ?_, ?_⟩
    · rw [List.mem_range] at hi
      rw [rsN_len, List.length_replicate]; omega
    · rw [List.mem_range] at hi hn
      rw [rsN_len, List.length_replicate] at hj
      refine .inr ⟨?_, by omega⟩
      unfold rsN
      rw [List.map_replicate, getD_rep _ _ _ (by omega), getD_rep _ _ _ hj]
    · rw [List.length_range]
      unfold leftN qsN
      rw [List.map_replicate, sumL_rep]
      congr 1; omega
    · unfold qsN
      rw [List.map_replicate]
  have hz : zs = bump (List.replicate n (cents / n)) (List.range (cents % n).toNat) := Handed.unique h hH
  subst hz
  refine ⟨by rw [bump_len, List.length_replicate], fun i hi => ?_⟩
  rw [List.getD_eq_getElem?_getD, List.getElem?_eq_getElem (by rw [bump_len, List.length_replicate]; exact hi), Option.getD_some, bump_get]
  unfold legI
  rw [List.getElem_replicate]
  by_cases hlt : (i : Int) < cents % n
  · rw [if_pos (List.mem_range.2 (by omega)), if_pos hlt]
  · rw [if_neg (fun hc => hlt (by have := List.mem_range.1 hc; omega)), if_neg hlt]; omega
end Go.Proofs.YtklgknepamebdaaGreatDoor
