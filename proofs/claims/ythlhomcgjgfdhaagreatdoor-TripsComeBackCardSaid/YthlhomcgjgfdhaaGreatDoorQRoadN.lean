/- Nodes: the program's check. -/
import Derived.Test.YthlhomcgjgfdhaaGreatDoorQG19
import Derived.Test.YthlhomcgjgfdhaaGreatDoorQG8
namespace Go.Proofs.YthlhomcgjgfdhaaGreatDoor
open Go.RowKit

theorem w_isPointR (x y : Int) (w : World) : Calls Tryz.prog 198 #[.int .i64 x, .int .i64 y] w fun e w' => e = .returned (.bool (isPtB x y)) ∧ w = w' := by
  cases h : outB x (-10000) 10000
  · cases h2 : outB y (-10000) 10000
    all_goals
      go_enter Tryz.func198, Tryz.ntmps198
      go_wp2_with (go_at_call 49; refine (w_Out _ _ _ _).mono ?_; rintro e w' ⟨rfl, rfl⟩)
      go_ret
      exact ⟨ret_bool (by unfold isPtB; rw [h, h2]; rfl), rfl⟩
  · go_enter Tryz.func198, Tryz.ntmps198
    go_wp2_with (go_at_call 49; refine (w_Out _ _ _ _).mono ?_; rintro e w' ⟨rfl, rfl⟩)
    go_ret
    exact ⟨ret_bool (by unfold isPtB; rw [h]; rfl), rfl⟩

def SmallN (l : List Node) : Prop := ∀ s ∈ l, s.key.size ≤ 1000000
set_option maxRecDepth 100000 in
set_option maxHeartbeats 2000000 in
theorem w_nodesFaultR (lo : Nat) (A : Option Addr) (c : Nat) (l : List Node) (w : World) (hR : Rd w lo A 3 encNode l) (hS : SmallN l) (hl : l.length ≤ 65536) :
    Calls Tryz.prog 154 #[.slice A l.length c] w fun e w' => e = .returned (.int .i64 (nodesF l)) ∧ Nx w w' := by
  generalize hn : l.length = n at *
  have HR := hide hR
  have HN := hide hn
  have HS := hide hS
  clear hR hn hS
  by_cases hbig : 500 < n
  · go_enter Tryz.func154, Tryz.ntmps154
    go_wp2
    go_ret
    exact ⟨ret_int (by unfold nodesF; rw [if_pos (by rw [HN.out]; exact hbig)]), Nx.refl _⟩
  · have HF := hide (show nodesF l = chk nodeF none l by unfold nodesF; rw [if_neg (by rw [HN.out]; exact hbig)])
    go_enter Tryz.func154, Tryz.ntmps154
    go_wp2
    go_loopw [2, 3, 4, 10] (fun _ _ _ i wr => ∃ k : Nat, k ≤ n ∧ i = .int .i64 k ∧ Nx w wr ∧ chk nodeF none l = chk nodeF (prevOf l k) (l.drop k)) (fun _ _ _ i _ => n - (intOf i).toNat)
    case atStart => exact ⟨0, Nat.zero_le _, rfl, Nx.refl _, rfl⟩
    case round =>
      obtain ⟨k, hk, rfl, hbw, hq⟩ := hrel
      have HQ := hide hq
      clear hq
      by_cases hlt : k < n
      · have hlt' : k < l.length := by have := HN.out; omega
        obtain ⟨b, off, rfl, _, hb, hbr, hc⟩ := HR.out.open_ hbw (by omega)
        have c0 : wr.cell? ⟨b, off + k * 3, none⟩ = some (.string l[k].key) := hc k hlt' 0 _ rfl
        have c1 : wr.cell? ⟨b, off + k * 3 + 1, none⟩ = some (.int .i64 l[k].x) := hc k hlt' 1 _ rfl
        have c2 : wr.cell? ⟨b, off + k * 3 + 2, none⟩ = some (.int .i64 l[k].y) := hc k hlt' 2 _ rfl
        have hsz := HS.out _ (List.getElem_mem hlt')
        have HC := hide hc
        clear hc
        have HD := hide (chk_drop nodeF l k hlt')
        cases hkb : keyB l[k].key
        · have HV := hide (show nodeF (prevOf l k) l[k] = 5 by unfold nodeF; rw [hkb]; rfl)
          go_wp2_with (go_at_call 104; refine (w_Key _ _ hsz).mono ?_; rintro e w' ⟨rfl, rfl⟩)
          go_ret
          exact ⟨ret_int (by rw [HF.out, HQ.out, HD.out, HV.out]; rfl), hbw.alloc _⟩
        · by_cases hk0 : 0 < k
          · have c4 : wr.cell? ⟨b, off + (k - 1) * 3, none⟩ = some (.string (l[k - 1]'(by omega)).key) := HC.out (k - 1) (by omega) 0 _ rfl
            have HV := hide (show nodeF (prevOf l k) l[k] = if strLe l[k].key (l[k - 1]'(by omega)).key then 7 else ptF l[k].x l[k].y by rw [prevOf_pos l k hk0 (by omega)]; unfold nodeF; rw [hkb]; rfl)
            generalize (l[k - 1]'(by omega)).key = p0 at *
            have q0 : decide ((0 : Int) < (k : Int)) = true := by simpa using hk0
            have q1 : IntKind.i64.wrap ((k : Int) - 1) = (k : Int) - 1 := IntWalk.i64_in _ (by omega)
            have q2 : (1 : Int) ≤ (k : Int) := by omega
            have q3 : ((k : Int) - 1).toNat = k - 1 := by omega
            have q4 : (k : Int) - 1 < (n : Int) := by omega
            cases ho : strLe l[k].key p0
            · have t1 : (Op.bytesLess l[k].key.toList p0.toList || l[k].key.toList == p0.toList) = false := ho
              have HO := hide ho
              cases hp : isPtB l[k].x l[k].y
              all_goals
                have HP := hide hp
                clear ho
                go_wp2_with (first
                  | (go_at_call 104; refine (w_Key _ _ hsz).mono ?_; rintro e w' ⟨rfl, rfl⟩))
                go_quiet (fail)
                go_wp2_with (first
                  | (go_at_call 198; refine (w_isPointR _ _ _).mono ?_; rintro e w' ⟨rfl, rfl⟩))
              · go_ret
                exact ⟨ret_int (by rw [HF.out, HQ.out, HD.out, HV.out, HO.out]; unfold ptF argF; rw [HP.out]; rfl), (hbw.alloc _).drewN _⟩
              · go_roundw
                case rel => exact ⟨k + 1, by omega, by go_num, (hbw.alloc _).drewN _, by rw [HQ.out, HD.out, HV.out, HO.out]; unfold ptF argF; rw [HP.out]; rfl⟩
                case measure => simp [intOf]; omega
            · have t1 : (Op.bytesLess l[k].key.toList p0.toList || l[k].key.toList == p0.toList) = true := ho
              have HO := hide ho
              clear ho
              go_wp2_with (first
                | (go_at_call 104; refine (w_Key _ _ hsz).mono ?_; rintro e w' ⟨rfl, rfl⟩))
              go_quiet (fail)
              go_wp2
              go_ret
              exact ⟨ret_int (by rw [HF.out, HQ.out, HD.out, HV.out, HO.out]; rfl), (hbw.alloc _).drewN _⟩
          · have HV := hide (show nodeF (prevOf l k) l[k] = ptF l[k].x l[k].y by have e : k = 0 := (by omega); subst e; rw [prevOf_zero]; unfold nodeF; rw [hkb]; rfl)
            have q0 : decide ((0 : Int) < (k : Int)) = false := by simpa using hk0
            cases hp : isPtB l[k].x l[k].y
            all_goals
              have HP := hide hp
              go_wp2_with (first
                | (go_at_call 104; refine (w_Key _ _ hsz).mono ?_; rintro e w' ⟨rfl, rfl⟩))
              go_quiet (fail)
              go_wp2_with (first
                | (go_at_call 198; refine (w_isPointR _ _ _).mono ?_; rintro e w' ⟨rfl, rfl⟩))
            · go_ret
              exact ⟨ret_int (by rw [HF.out, HQ.out, HD.out, HV.out]; unfold ptF argF; rw [HP.out]; rfl), (hbw.alloc _).drewN _⟩
            · go_roundw
              case rel => exact ⟨k + 1, by omega, by go_num, (hbw.alloc _).drewN _, by rw [HQ.out, HD.out, HV.out]; unfold ptF argF; rw [HP.out]; rfl⟩
              case measure => simp [intOf]; omega
      · go_wp2
        go_ret
        exact ⟨ret_int (by rw [HF.out, HQ.out, List.drop_of_length_le (by have := HN.out; omega)]; rfl), hbw⟩
end Go.Proofs.YthlhomcgjgfdhaaGreatDoor
