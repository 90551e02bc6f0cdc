/- Legs: what is wrong with them. -/
import Derived.Test.YtjhmgkoghapocaaDoorFault
import Derived.Test.YtjhmgkoghapocaaDoorOr
namespace Go.Proofs.YtjhmgkoghapocaaDoor
open Go.RowKit

structure Leg where
  a : Option Addr
  cap : Nat
  rides : List ByteArray
  cents : Int
instance : Inhabited Leg := ⟨⟨none, 0, [], 0⟩⟩
def encLeg (x : Leg) : List Value := [.slice x.a x.rides.length x.cap, .int .i64 x.cents]
/-- Legs, their rides each in a row of its own. -/
def RdLegs (w : World) (lo : Nat) (A : Option Addr) (ls : List Leg) : Prop :=
  Rd w lo A 2 encLeg ls ∧ ∀ x ∈ ls, Rd w lo x.a 1 encS x.rides ∧ Small x.rides ∧ x.rides.length ≤ 100
theorem RdLegs.nx {w w' : World} {lo : Nat} {A : Option Addr} {ls : List Leg} (h : RdLegs w lo A ls) (hn : Nx w w') : RdLegs w' lo A ls :=
  ⟨h.1.nx hn, fun x hx => ⟨(h.2 x hx).1.nx hn, (h.2 x hx).2⟩⟩
def legF (x : Leg) : Int := if x.rides.length = 0 then 8 else if keysF x.rides = 0 then (if centB x.cents then 1 else 0) else keysF x.rides
def legsF (ls : List Leg) : Int := orI (ls.map legF)
theorem legsF_drop (ls : List Leg) (k : Nat) (hk : k < ls.length) : legsF (ls.drop k) = if legF ls[k] = 0 then legsF (ls.drop (k + 1)) else legF ls[k] := by
  unfold legsF
  rw [List.drop_eq_getElem_cons hk]; rfl

set_option maxRecDepth 100000 in
set_option maxHeartbeats 2000000 in
theorem w_CheckLegs (lo : Nat) (A : Option Addr) (c : Nat) (ls : List Leg) (w : World) (hR : RdLegs w lo A ls) (hl : ls.length ≤ 100) :
    Calls Tryd.prog 41 #[.slice A ls.length c] w fun e w' => e = .returned (.int .i64 (legsF ls)) ∧ Nx w w' := by
  have HX := hide hR.2
  have HR := hide hR.1
  generalize hn : ls.length = n at *
  have HN := hide hn
  clear hR hn
  go_enter Tryd.func41, Tryd.ntmps41
  go_wp2_with fail
  go_loopw [4, 5, 11] (fun _ _ i wr => ∃ k : Nat, k ≤ n ∧ i = .int .i64 k ∧ Nx w wr ∧ legsF ls = legsF (ls.drop k)) (fun _ _ i _ => n - (intOf i).toNat)
  case atStart => exact ⟨0, Nat.zero_le _, rfl, Nx.refl _, rfl⟩
  case round =>
    obtain ⟨k, hk, rfl, hbw, hq⟩ := hrel
    have HQ := hide hq
    clear hq
    by_cases hlt : k < n
    · have hlt' : k < ls.length := by have := HN.out; omega
      have HD := hide (legsF_drop ls k hlt')
      obtain ⟨hRx, hSx, hLx⟩ := HX.out ls[k] (List.getElem_mem hlt')
      obtain ⟨b, off, rfl, _, hb, hbr, hc⟩ := HR.out.open_ hbw (by omega)
      have c0 : wr.cell? ⟨b, off + k * 2, none⟩ = some (.slice ls[k].a ls[k].rides.length ls[k].cap) := hc k hlt' 0 _ rfl
      have c1 : wr.cell? ⟨b, off + k * 2 + 1, none⟩ = some (.int .i64 ls[k].cents) := hc k hlt' 1 _ rfl
      clear hc
      generalize ls[k] = x at *
      have HK := hide (w_keysFault _ _ x.cap _ (wr.alloc (.cells #[.slice x.a x.rides.length x.cap, .int .i64 x.cents] 100)) (hRx.nx (hbw.alloc _)) hSx (by omega))
      have HF := hide (show legF x = if x.rides.length = 0 then 8 else if keysF x.rides = 0 then (if centB x.cents then 1 else 0) else keysF x.rides from rfl)
      clear hRx hSx
      by_cases h0 : x.rides.length = 0
      · have HZ := hide h0
        have t1 : ((x.rides.length : Int) == 0) = true := by simpa using h0
        clear h0
        go_wp2_with fail
        go_ret
        exact ⟨ret_int (by rw [HQ.out, HD.out, HF.out, if_pos HZ.out]; rfl), hbw.alloc _⟩
      · have t1 : ((x.rides.length : Int) == 0) = false := by simpa using h0
        have HZ := hide h0
        clear h0
        by_cases h1 : keysF x.rides = 0
        · have t2 : (keysF x.rides != 0) = false := by rw [h1]; rfl
          have H1 := hide h1
          clear h1
          cases h2 : centB x.cents
          · have H2 := hide h2
            unfold centB at h2
            have HL := hide (show legF x = 0 by rw [HF.out, if_neg HZ.out, if_pos H1.out, H2.out]; rfl)
            go_wp2_with (first
              | (go_at_call 75; refine HK.out.mono ?_; rintro e w' ⟨rfl, rfl⟩)
              | (go_at_call 60; first | (rw [show (1000000000 : Int) = maxCt from rfl]; refine (w_Out _ _ _ _).mono ?_; rintro e w' ⟨rfl, rfl⟩)))
            go_roundw
            case rel => exact ⟨k + 1, by omega, by go_num, hbw.alloc _, by rw [HQ.out, HD.out, if_pos HL.out]⟩
            case measure => simp [intOf]; omega
          · have H2 := hide h2
            unfold centB at h2
            have HL := hide (show legF x = 1 by rw [HF.out, if_neg HZ.out, if_pos H1.out, H2.out]; rfl)
            go_wp2_with (first
              | (go_at_call 75; refine HK.out.mono ?_; rintro e w' ⟨rfl, rfl⟩)
              | (go_at_call 60; first | (rw [show (1000000000 : Int) = maxCt from rfl]; refine (w_Out _ _ _ _).mono ?_; rintro e w' ⟨rfl, rfl⟩)))
            go_ret
            exact ⟨ret_int (by rw [HQ.out, HD.out, HL.out]; rfl), hbw.alloc _⟩
        · have t2 : (keysF x.rides != 0) = true := by simpa using h1
          have HL := hide (show legF x = keysF x.rides by rw [HF.out, if_neg HZ.out, if_neg h1])
          have H1 := hide h1
          clear h1
          go_wp2_with (first
            | (go_at_call 75; refine HK.out.mono ?_; rintro e w' ⟨rfl, rfl⟩))
          go_ret
          exact ⟨ret_int (by rw [HQ.out, HD.out, HL.out, if_neg H1.out]), hbw.alloc _⟩
    · have ek : k = n := by omega
      subst ek
      have HE := hide (show legsF (ls.drop k) = 0 by rw [List.drop_eq_nil_iff.2 (by have := HN.out; omega)]; rfl)
      go_wp2_with fail
      go_ret
      exact ⟨ret_int (by rw [HQ.out, HE.out]), hbw⟩

set_option maxRecDepth 100000 in
set_option maxHeartbeats 2000000 in
theorem w_LegsFault (lo : Nat) (A : Option Addr) (c : Nat) (ls : List Leg) (w : World) (hR : RdLegs w lo A ls) (hl : ls.length ≤ 100) :
    Calls Tryd.prog 40 #[.slice A ls.length c] w fun e w' => e = .returned (.int .i64 (legsF ls)) ∧ Nx w w' := by
  have HX := hide hR.2
  have HR := hide hR.1
  generalize hn : ls.length = n at *
  have HN := hide hn
  clear hR hn
  go_enter Tryd.func40, Tryd.ntmps40
  go_wp2_with fail
  go_loopw [4, 5, 11, 15, 20] (fun _ _ i _ _ wr => ∃ k : Nat, k ≤ n ∧ i = .int .i64 k ∧ Nx w wr ∧ legsF ls = legsF (ls.drop k)) (fun _ _ i _ _ _ => n - (intOf i).toNat)
  case atStart => exact ⟨0, Nat.zero_le _, rfl, Nx.refl _, rfl⟩
  case round =>
    obtain ⟨k, hk, rfl, hbw, hq⟩ := hrel
    have HQ := hide hq
    clear hq
    by_cases hlt : k < n
    · have hlt' : k < ls.length := by have := HN.out; omega
      have HD := hide (legsF_drop ls k hlt')
      obtain ⟨hRx, hSx, hLx⟩ := HX.out ls[k] (List.getElem_mem hlt')
      obtain ⟨b, off, rfl, _, hb, hbr, hc⟩ := HR.out.open_ hbw (by omega)
      have c0 : wr.cell? ⟨b, off + k * 2, none⟩ = some (.slice ls[k].a ls[k].rides.length ls[k].cap) := hc k hlt' 0 _ rfl
      have c1 : wr.cell? ⟨b, off + k * 2 + 1, none⟩ = some (.int .i64 ls[k].cents) := hc k hlt' 1 _ rfl
      clear hc
      generalize ls[k] = x at *
      have HK := hide (w_RisingFault _ _ x.cap _ (wr.alloc (.cells #[.slice x.a x.rides.length x.cap, .int .i64 x.cents] 100)) (hRx.nx (hbw.alloc _)) hSx (by omega))
      have HF := hide (show legF x = if x.rides.length = 0 then 8 else if keysF x.rides = 0 then (if centB x.cents then 1 else 0) else keysF x.rides from rfl)
      have HKF := hide (show keysF x.rides = if 10 < x.rides.length then 2 else risF x.rides from rfl)
      have ix := inB_out x.cents 0 maxCt
      have HI := hide ix
      clear hRx hSx ix
      by_cases h0 : x.rides.length = 0
      · have HZ := hide h0
        have t1 : ((x.rides.length : Int) == 0) = true := by simpa using h0
        clear h0
        go_wp2_with fail
        go_ret
        exact ⟨ret_int (by rw [HQ.out, HD.out, HF.out, if_pos HZ.out]; rfl), hbw.alloc _⟩
      · have t1 : ((x.rides.length : Int) == 0) = false := by simpa using h0
        have HZ := hide h0
        clear h0
        by_cases h10 : 10 < x.rides.length
        · have HL := hide (show legF x = 2 by rw [HF.out, if_neg HZ.out, HKF.out, if_pos h10]; rfl)
          go_wp2_with fail
          go_ret
          exact ⟨ret_int (by rw [HQ.out, HD.out, HL.out]; rfl), hbw.alloc _⟩
        have HKE := hide (show keysF x.rides = risF x.rides by rw [HKF.out, if_neg h10])
        by_cases h1 : risF x.rides = 0
        · have t2 : (risF x.rides != 0) = false := by rw [h1]; rfl
          have H1 := hide h1
          clear h1
          cases h2 : centB x.cents
          · have H2 := hide h2
            unfold centB at h2
            have ix := HI.out
            rw [h2] at ix
            clear h2
            have HL := hide (show legF x = 0 by rw [HF.out, if_neg HZ.out, HKE.out, if_pos H1.out, H2.out]; rfl)
            go_wp2_with (first
              | (go_at_call 51; refine HK.out.mono ?_; rintro e w3 ⟨rfl, hn3⟩; have q3 : w3.cell? ⟨wr.heap.size, 1, none⟩ = some (.int .i64 x.cents) := World.grownBy.cell (hn3.gr none) (show (wr.alloc _).cell? ⟨wr.heap.size, 1, none⟩ = _ by go_simp) (by simp))
              | (go_at_call 54; first | (rw [show (1000000000 : Int) = maxCt from rfl]; refine (w_in _ _ _ _).mono ?_; rintro e w' ⟨rfl, rfl⟩)))
            go_roundw
            case rel => exact ⟨k + 1, by omega, by go_num, (hbw.alloc _).trans hn3, by rw [HQ.out, HD.out, if_pos HL.out]⟩
            case measure => simp [intOf]; omega
          · have H2 := hide h2
            unfold centB at h2
            have ix := HI.out
            rw [h2] at ix
            clear h2
            have HL := hide (show legF x = 1 by rw [HF.out, if_neg HZ.out, HKE.out, if_pos H1.out, H2.out]; rfl)
            go_wp2_with (first
              | (go_at_call 51; refine HK.out.mono ?_; rintro e w3 ⟨rfl, hn3⟩; have q3 : w3.cell? ⟨wr.heap.size, 1, none⟩ = some (.int .i64 x.cents) := World.grownBy.cell (hn3.gr none) (show (wr.alloc _).cell? ⟨wr.heap.size, 1, none⟩ = _ by go_simp) (by simp))
              | (go_at_call 54; first | (rw [show (1000000000 : Int) = maxCt from rfl]; refine (w_in _ _ _ _).mono ?_; rintro e w' ⟨rfl, rfl⟩)))
            go_ret
            exact ⟨ret_int (by rw [HQ.out, HD.out, HL.out]; rfl), (hbw.alloc _).trans hn3⟩
        · have t2 : (risF x.rides != 0) = true := by simpa using h1
          have HL := hide (show legF x = risF x.rides by rw [HF.out, if_neg HZ.out, HKE.out, if_neg h1])
          have H1 := hide h1
          clear h1
          go_wp2_with (first
            | (go_at_call 51; refine HK.out.mono ?_; rintro e w3 ⟨rfl, hn3⟩))
          go_ret
          exact ⟨ret_int (by rw [HQ.out, HD.out, HL.out, if_neg H1.out]), (hbw.alloc _).trans hn3⟩
    · have ek : k = n := by omega
      subst ek
      have HE := hide (show legsF (ls.drop k) = 0 by rw [List.drop_eq_nil_iff.2 (by have := HN.out; omega)]; rfl)
      go_wp2_with fail
      go_ret
      exact ⟨ret_int (by rw [HQ.out, HE.out]), hbw⟩
end Go.Proofs.YtjhmgkoghapocaaDoor
