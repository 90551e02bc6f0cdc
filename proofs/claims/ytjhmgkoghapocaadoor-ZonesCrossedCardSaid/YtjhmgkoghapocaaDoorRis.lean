/- Sorted keys: the program's check and the reference's. -/
import Derived.Test.YtjhmgkoghapocaaDoorKey
import Derived.Test.YtjhmgkoghapocaaDoorFareS
import Derived.Test.YtjhmgkoghapocaaDoorOr
namespace Go.Proofs.YtjhmgkoghapocaaDoor
open Go.RowKit

def Small (l : List ByteArray) : Prop := ∀ s ∈ l, s.size ≤ 1000000
theorem Small.at {l : List ByteArray} (h : Small l) (k : Nat) (hk : k < l.length) : l[k].size ≤ 1000000 := h _ (List.getElem_mem hk)

set_option maxHeartbeats 1000000 in
theorem w_keysFault (lo : Nat) (A : Option Addr) (c : Nat) (l : List ByteArray) (w : World) (hR : Rd w lo A 1 encS l) (hS : Small l) (hl : l.length ≤ 65536) :
    Calls Tryd.prog 75 #[.slice A l.length c] w fun e w' => e = .returned (.int .i64 (keysF l)) ∧ w = w' := by
  generalize hn : l.length = n at *
  have HR := hide hR
  have HN := hide hn
  have HS := hide hS
  clear hR hn hS
  by_cases hbig : 10 < n
  · go_enter Tryd.func75, Tryd.ntmps75
    go_wp2
    go_ret
    exact ⟨ret_int (by unfold keysF; rw [if_pos (by rw [HN.out]; exact hbig)]), rfl⟩
  · have HF := hide (show keysF l = chk strF none l by unfold keysF; rw [if_neg (by rw [HN.out]; exact hbig)]; rfl)
    go_enter Tryd.func75, Tryd.ntmps75
    go_wp2
    go_loop [2, 3, 4, 10] (fun _ _ _ i => ∃ k : Nat, k ≤ n ∧ i = .int .i64 k ∧ chk strF none l = chk strF (prevOf l k) (l.drop k)) (fun _ _ _ i => n - (intOf i).toNat)
    case atStart => exact ⟨0, Nat.zero_le _, rfl, rfl⟩
    case round =>
      obtain ⟨k, hk, rfl, hq⟩ := hrel
      have HQ := hide hq
      clear hq
      by_cases hlt : k < n
      · have hlt' : k < l.length := by have := HN.out; omega
        obtain ⟨b, off, rfl, _, hb, _, hc⟩ := HR.out.open_ (Nx.refl w) (by omega)
        have c0 : w.cell? ⟨b, off + k, none⟩ = some (.string l[k]) := by have := hc k hlt' 0 _ rfl; simpa using this
        have hsz := HS.out.at k hlt'
        have HC := hide hc
        clear hc
        have HD := hide (chk_drop strF l k hlt')
        cases hkb : keyB l[k]
        · have HV := hide (show strF (prevOf l k) l[k] = 5 by unfold strF; rw [hkb]; rfl)
          go_wp2_with (go_at_call 65; refine (w_Key _ _ hsz).mono ?_; rintro e w' ⟨rfl, rfl⟩)
          go_ret
          exact ⟨ret_int (by rw [HF.out, HQ.out, HD.out, HV.out]; rfl), rfl⟩
        · by_cases hk0 : 0 < k
          · have c4 : w.cell? ⟨b, off + (k - 1), none⟩ = some (.string (l[k - 1]'(by omega))) := by have := HC.out (k - 1) (by omega) 0 _ rfl; simpa using this
            have HV := hide (show strF (prevOf l k) l[k] = if strLe l[k] (l[k - 1]'(by omega)) then 7 else 0 by rw [prevOf_pos l k hk0 (by omega)]; unfold strF; rw [hkb]; rfl)
            generalize (l[k - 1]'(by omega)) = p0 at *
            have q1 : IntKind.i64.wrap ((k : Int) - 1) = (k : Int) - 1 := IntWalk.i64_in _ (by omega)
            have q2 : (1 : Int) ≤ (k : Int) := by omega
            have q3 : ((k : Int) - 1).toNat = k - 1 := by omega
            have q4 : (k : Int) - 1 < (n : Int) := by omega
            cases ho : strLe l[k] p0
            · have t1 : (Op.bytesLess l[k].toList p0.toList || l[k].toList == p0.toList) = false := ho
              have HO := hide ho
              clear ho
              go_wp2_with (go_at_call 65; refine (w_Key _ _ hsz).mono ?_; rintro e w' ⟨rfl, rfl⟩)
              go_round
              case rel => exact ⟨k + 1, by omega, by go_num, by rw [HQ.out, HD.out, HV.out, HO.out]; rfl⟩
              case measure => simp [intOf]; omega
            · have t1 : (Op.bytesLess l[k].toList p0.toList || l[k].toList == p0.toList) = true := ho
              have HO := hide ho
              clear ho
              go_wp2_with (go_at_call 65; refine (w_Key _ _ hsz).mono ?_; rintro e w' ⟨rfl, rfl⟩)
              go_ret
              exact ⟨ret_int (by rw [HF.out, HQ.out, HD.out, HV.out, HO.out]; rfl), rfl⟩
          · have HV := hide (show strF (prevOf l k) l[k] = 0 by have e : k = 0 := (by omega); subst e; rw [prevOf_zero]; unfold strF; rw [hkb]; rfl)
            have hd : decide (0 < k) = false := by simpa using hk0
            go_wp2_with (go_at_call 65; refine (w_Key _ _ hsz).mono ?_; rintro e w' ⟨rfl, rfl⟩)
            go_round
            case rel => exact ⟨k + 1, by omega, by go_num, by rw [HQ.out, HD.out, HV.out, if_pos rfl]⟩
            case measure => simp [intOf]; omega
      · go_wp2
        go_ret
        exact ⟨ret_int (by rw [HF.out, HQ.out, List.drop_of_length_le (by have := HN.out; omega)]; rfl), rfl⟩

set_option maxHeartbeats 1000000 in
theorem w_RisingFault (lo : Nat) (A : Option Addr) (c : Nat) (l : List ByteArray) (w : World) (hR : Rd w lo A 1 encS l) (hS : Small l) (hl : l.length ≤ 65536) :
    Calls Tryd.prog 51 #[.slice A l.length c] w fun e w' => e = .returned (.int .i64 (risF l)) ∧ Nx w w' := by
  generalize hn : l.length = n at *
  have HR := hide hR
  have HN := hide hn
  have HS := hide hS
  clear hR hn hS
  have HF := hide (show risF l = chk strF none l from rfl)
  go_enter Tryd.func51, Tryd.ntmps51
  go_wp2
  go_loopw [2, 3, 4, 7, 12, 16] (fun _ _ _ i _ _ wr => ∃ k : Nat, k ≤ n ∧ i = .int .i64 k ∧ Nx w wr ∧ chk strF none l = chk strF (prevOf l k) (l.drop k)) (fun _ _ _ i _ _ _ => n - (intOf i).toNat)
  case atStart => exact ⟨0, Nat.zero_le _, rfl, Nx.refl _, rfl⟩
  case round =>
    obtain ⟨k, hk, rfl, hbw, hq⟩ := hrel
    have HQ := hide hq
    clear hq
    by_cases hlt : k < n
    · have hlt' : k < l.length := by have := HN.out; omega
      obtain ⟨b, off, rfl, _, hb, hbr, hc⟩ := HR.out.open_ hbw (by omega)
      have c0 : wr.cell? ⟨b, off + k, none⟩ = some (.string l[k]) := by have := hc k hlt' 0 _ rfl; simpa using this
      have hsz := HS.out.at k hlt'
      have HC := hide hc
      clear hc
      have HD := hide (chk_drop strF l k hlt')
      cases hkb : keyB l[k]
      · have HV := hide (show strF (prevOf l k) l[k] = 5 by unfold strF; rw [hkb]; rfl)
        go_wp2_with (go_at_call 64; refine (w_KeyR _ _ hsz).mono ?_; rintro e w1 ⟨rfl, hn1⟩)
        go_ret
        exact ⟨ret_int (by rw [HF.out, HQ.out, HD.out, HV.out]; rfl), hbw.trans hn1⟩
      · by_cases hk0 : 0 < k
        · have c4 : wr.cell? ⟨b, off + (k - 1), none⟩ = some (.string (l[k - 1]'(by omega))) := by have := HC.out (k - 1) (by omega) 0 _ rfl; simpa using this
          have HV := hide (show strF (prevOf l k) l[k] = if strLe l[k] (l[k - 1]'(by omega)) then 7 else 0 by rw [prevOf_pos l k hk0 (by omega)]; unfold strF; rw [hkb]; rfl)
          generalize (l[k - 1]'(by omega)) = p0 at *
          have q1 : IntKind.i64.wrap ((k : Int) - 1) = (k : Int) - 1 := IntWalk.i64_in _ (by omega)
          have q2 : (1 : Int) ≤ (k : Int) := by omega
          have q3 : ((k : Int) - 1).toNat = k - 1 := by omega
          have q4 : (k : Int) - 1 < (n : Int) := by omega
          cases ho : strLe l[k] p0
          · have t1 : (Op.bytesLess l[k].toList p0.toList || l[k].toList == p0.toList) = false := ho
            have HO := hide ho
            clear ho
            go_wp2_with (go_at_call 64; refine (w_KeyR _ _ hsz).mono ?_; rintro e w1 ⟨rfl, hn1⟩; (have c5 : w1.cell? ⟨b, off + (k - 1), none⟩ = some (.string p0) := (Below.cell hn1 (p := ⟨b, _, none⟩) hbr).trans c4))
            go_roundw
            case rel => exact ⟨k + 1, by omega, by go_num, hbw.trans hn1, by rw [HQ.out, HD.out, HV.out, HO.out]; rfl⟩
            case measure => simp [intOf]; omega
          · have t1 : (Op.bytesLess l[k].toList p0.toList || l[k].toList == p0.toList) = true := ho
            have HO := hide ho
            clear ho
            go_wp2_with (go_at_call 64; refine (w_KeyR _ _ hsz).mono ?_; rintro e w1 ⟨rfl, hn1⟩; (have c5 : w1.cell? ⟨b, off + (k - 1), none⟩ = some (.string p0) := (Below.cell hn1 (p := ⟨b, _, none⟩) hbr).trans c4))
            go_ret
            exact ⟨ret_int (by rw [HF.out, HQ.out, HD.out, HV.out, HO.out]; rfl), hbw.trans hn1⟩
        · have HV := hide (show strF (prevOf l k) l[k] = 0 by have e : k = 0 := (by omega); subst e; rw [prevOf_zero]; unfold strF; rw [hkb]; rfl)
          have hd : decide (0 < k) = false := by simpa using hk0
          go_wp2_with (go_at_call 64; refine (w_KeyR _ _ hsz).mono ?_; rintro e w1 ⟨rfl, hn1⟩)
          go_roundw
          case rel => exact ⟨k + 1, by omega, by go_num, hbw.trans hn1, by rw [HQ.out, HD.out, HV.out, if_pos rfl]⟩
          case measure => simp [intOf]; omega
    · go_wp2
      go_ret
      exact ⟨ret_int (by rw [HF.out, HQ.out, List.drop_of_length_le (by have := HN.out; omega)]; rfl), hbw⟩
end Go.Proofs.YtjhmgkoghapocaaDoor
