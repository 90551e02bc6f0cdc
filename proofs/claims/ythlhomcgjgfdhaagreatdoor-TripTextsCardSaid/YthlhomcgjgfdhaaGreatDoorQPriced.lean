/- fare.Divide, whatever it is handed; what is wrong with parts; 'priced' answers true. -/
import Derived.Test.YthlhomcgjgfdhaaGreatDoorQDivB
import Derived.Test.YthlhomcgjgfdhaaGreatDoorQG8
namespace Go.Proofs.YthlhomcgjgfdhaaGreatDoor
open Go.RowKit Go.Sort Go.Proofs Go.Shelf

theorem partsF_cents {cents : Int} {parts : List Int} (h : centB cents = true) : partsF cents parts = 1 := by unfold partsF; rw [h]; rfl
theorem partsF_any {cents : Int} {parts : List Int} (h : centB cents = false) (h2 : parts.length < 20) (h3 : parts.any centB = true) : partsF cents parts = 1 := by
  unfold partsF; rw [h, h3]; simp; omega
theorem partsF_sum {cents : Int} {parts : List Int} (h : centB cents = false) (h2 : parts.length < 20) (h3 : parts.any centB = false) : partsF cents parts = if sumL parts = 0 then 8 else 0 := by
  unfold partsF; rw [h, h3]; simp; omega
theorem any_at {l : List Int} {p : Int → Bool} {k : Nat} (hk : k < l.length) (h : p l[k] = true) : l.any p = true := List.any_eq_true.2 ⟨_, List.getElem_mem hk, h⟩
theorem any_step {l : List Int} {p : Int → Bool} {k : Nat} (hk : k < l.length) (h : (l.take k).any p = false) (h2 : p l[k] = false) : (l.take (k + 1)).any p = false := by
  rw [List.take_succ_eq_append_getElem hk, List.any_append, h]; simp [h2]
theorem sum_right {l : List Int} (h : l.any centB = false) : 0 ≤ sumL l ∧ sumL l ≤ l.length * 1000000000 := by
  have := sumL_bd l 0 1000000000 (fun x hx => centB_bd (by
    cases h1 : centB x
    · rfl
    · exact absurd (List.any_eq_true.2 ⟨x, hx, h1⟩) (by rw [h]; simp)))
  omega
/-- Cents given out, or a fault. -/
def DivU (F cents : Int) (parts : List Int) (w : World) (e : Ending) (w' : World) : Prop :=
  ∃ (A : Option Addr) (c : Nat) (zs : List Int), e = .returned (.tuple #[.slice A zs.length c, .int .i64 F]) ∧ (F = 0 → Divided cents parts zs) ∧ (F ≠ 0 → zs = []) ∧ Rd w' w.heap.size A 1 encI zs ∧ Nx w w'
theorem DivU.no {F cents : Int} {parts : List Int} {w w' : World} (h : F ≠ 0) (hn : Nx w w') : DivU F cents parts w (.returned (.tuple #[.slice none 0 0, .int .i64 F])) w' := ⟨none, 0, [], rfl, fun h0 => absurd h0 h, fun _ => rfl, Rd.nil, hn⟩

set_option maxRecDepth 100000 in
set_option maxHeartbeats 1000000 in
theorem w_Divide (lo : Nat) (A : Option Addr) (c : Nat) (cents : Int) (parts : List Int) (w : World) (hR : Rd w lo A 1 encI parts) (hl : parts.length < 20) :
    Calls Tryz.prog 81 #[.int .i64 cents, .slice A parts.length c] w (DivU (partsF cents parts) cents parts w) := by
  cases hd : centB cents
  · have HD := hide hd
    have hcb := centB_bd hd
    have HPO := hide (fun h3 => partsF_sum (parts := parts) hd hl h3)
    have HPA := hide (fun h3 => partsF_any (parts := parts) hd hl h3)
    have HDB := hide (fun h3 h4 => w_DivideB lo A c cents parts w hR hl hcb h3 h4)
    generalize hn : parts.length = n at *
    have HR := hide hR
    have HN := hide hn
    unfold centB at hd
    clear hR hn
    go_enter Tryz.func81, Tryz.ntmps81
    go_wp2_with (go_at_call 49; first | (rw [show (1000000000 : Int) = maxCt from rfl]; refine (w_Out _ _ _ _).mono ?_; rintro e w' ⟨rfl, rfl⟩))
    go_loop [4, 5, 6, 8, 16] (fun _ _ s _ i => ∃ k : Nat, k ≤ n ∧ i = .int .i64 k ∧ s = .int .i64 (sumL (parts.take k)) ∧ (parts.take k).any centB = false) (fun _ _ _ _ i => n - (intOf i).toNat)
    case atStart => exact ⟨0, Nat.zero_le _, rfl, rfl, rfl⟩
    case round =>
      obtain ⟨k, hk, rfl, rfl, hq⟩ := hrel
      have hsb := sum_right hq
      have hkl : (parts.take k).length ≤ k := List.length_take_le _ _
      have HQ := hide hq
      clear hq
      by_cases hlt : k < n
      · have hlt' : k < parts.length := by have := HN.out; omega
        have HT := hide (sumL_take parts k hlt')
        obtain ⟨b, off, rfl, _, hb, _, hc⟩ := HR.out.open_ (Nx.refl w) (by omega)
        have c0 : w.cell? ⟨b, off + k, none⟩ = some (.int .i64 parts[k]) := by have := hc k hlt' 0 _ rfl; simpa using this
        clear hc
        cases hx : centB parts[k]
        · have HX := hide (any_step hlt' HQ.out hx)
          have hxb := centB_bd hx
          unfold centB at hx
          generalize sumL (parts.take k) = s at *
          go_wp2_with (go_at_call 49; first | (rw [show (1000000000 : Int) = maxCt from rfl]; refine (w_Out _ _ _ _).mono ?_; rintro e w' ⟨rfl, rfl⟩))
          go_round
          case rel => exact ⟨k + 1, by omega, by go_num, by rw [HT.out], HX.out⟩
          case measure => simp [intOf]; omega
        · have HF := hide (HPA.out (any_at hlt' hx))
          unfold centB at hx
          go_wp2_with (go_at_call 49; first | (rw [show (1000000000 : Int) = maxCt from rfl]; refine (w_Out _ _ _ _).mono ?_; rintro e w' ⟨rfl, rfl⟩))
          go_ret2
          rw [HF.out]
          exact DivU.no (by omega) (Nx.refl _)
      · have HK := hide (show parts.take k = parts from List.take_of_length_le (by have := HN.out; omega))
        rw [HK.out] at hsb HQ ⊢
        have HF := hide (HPO.out HQ.out)
        by_cases hz : sumL parts = 0
        · have t1 : (sumL parts == 0) = true := by simpa using hz
          have HZ := hide hz
          clear hz
          go_wp2_with fail
          go_ret2
          rw [HF.out, if_pos HZ.out]
          exact DivU.no (by omega) (Nx.refl _)
        · have t1 : (sumL parts == 0) = false := by simpa using hz
          have HZ := hide hz
          clear hz
          go_wp2_with (go_at_call 111; refine (HDB.out (fun p hp => centB_bd (by cases h1 : centB p; rfl; exact absurd (List.any_eq_true.2 ⟨p, hp, h1⟩) (by rw [HQ.out]; simp))) (by have := HZ.out; omega)).mono ?_; rintro e w2 ⟨A', c', zs, rfl, hdv, hR2, hn2⟩)
          go_ret2
          rw [HF.out, if_neg HZ.out]
          exact ⟨A', c', zs, rfl, fun _ => hdv, fun h => absurd rfl h, hR2, hn2⟩
  · have HF := hide (partsF_cents (parts := parts) hd)
    clear hR
    generalize parts.length = n at *
    unfold centB at hd
    go_enter Tryz.func81, Tryz.ntmps81
    go_wp2_with (go_at_call 49; first | (rw [show (1000000000 : Int) = maxCt from rfl]; refine (w_Out _ _ _ _).mono ?_; rintro e w' ⟨rfl, rfl⟩))
    go_ret2
    rw [HF.out]
    exact DivU.no (by omega) (Nx.refl _)

set_option maxRecDepth 100000 in
set_option maxHeartbeats 1000000 in
theorem w_EqualI (lo lo' : Nat) (A B : Option Addr) (c d : Nat) (l : List Int) (w : World) (hA : Rd w lo A 1 encI l) (hB : Rd w lo' B 1 encI l) (hl : l.length ≤ 65536) :
    Calls Tryz.prog 82 #[.slice A l.length c, .slice B l.length d] w fun e w' => e = .returned (.bool true) ∧ Nx w w' := by
  generalize hn : l.length = n at *
  have HA := hide hA
  have HB := hide hB
  have HN := hide hn
  clear hA hB hn
  go_enter Tryz.func82, Tryz.ntmps82
  go_wp2
  go_loopw [5, 13] (fun _ i wr => ∃ k : Nat, k ≤ n ∧ i = .int .i64 k ∧ Nx w wr) (fun _ i _ => n - (intOf i).toNat)
  case atStart => exact ⟨0, Nat.zero_le _, rfl, Nx.refl _⟩
  case round =>
    obtain ⟨k, hk, rfl, hbw⟩ := hrel
    by_cases hlt : k < n
    · have hlt' : k < l.length := by have := HN.out; omega
      obtain ⟨b, off, rfl, _, hb, hbr, hc⟩ := HA.out.open_ hbw (by omega)
      obtain ⟨b', off', rfl, _, hb', hbr', hc'⟩ := HB.out.open_ hbw (by omega)
      have c0 : wr.cell? ⟨b, off + k, none⟩ = some (.int .i64 l[k]) := by have := hc k hlt' 0 _ rfl; simpa using this
      have d0 : wr.cell? ⟨b', off' + k, none⟩ = some (.int .i64 l[k]) := by have := hc' k hlt' 0 _ rfl; simpa using this
      clear hc hc'
      have q1 : (0 : Int) ≤ (k : Int) := by omega
      have q2 : (k : Int) < (n : Int) := by omega
      go_wp2_with fail
      go_quiet (fail)
      go_wp2
      go_roundw
      case rel => exact ⟨k + 1, by omega, by go_num, hbw.drewN _⟩
      case measure => simp [intOf]; omega
    · go_wp2
      go_ret
      exact ⟨rfl, hbw⟩

set_option maxRecDepth 100000 in
theorem w_priced (w : World) : Calls Tryz.prog 36 #[] w fun e w' => e = .returned (.bool true) ∧ Nx w w' := by
  have hF : partsF 10 [1, 1, 1] = 0 := by decide
  go_enter Tryz.func36, Tryz.ntmps36
  go_wp2_with fail
  have hR1 : Rd (w.alloc (.cells #[.int .i64 1, .int .i64 1, .int .i64 1] 3)) 0 (some ⟨w.heap.size, 0, none⟩) 1 encI [1, 1, 1] := Rd.lit (hnew rfl) (Nat.zero_le _) (fun _ => rfl) rfl
  refine (w_Divide _ _ _ 10 [1, 1, 1] _ hR1 (by decide)).mono ?_
  rintro e w2 ⟨A, c, zs, rfl, hdv, _, hR2, hn2⟩
  have hz := divided_433 (hdv hF)
  subst hz
  rw [hF]
  clear hdv hR1
  go_wp2_with fail
  have hR3 : Rd (w2.alloc (.cells #[.int .i64 4, .int .i64 3, .int .i64 3] 3)) 0 (some ⟨w2.heap.size, 0, none⟩) 1 encI [4, 3, 3] := Rd.lit (hnew rfl) (Nat.zero_le _) (fun _ => rfl) rfl
  refine (w_EqualI _ _ _ _ _ _ [4, 3, 3] _ (hR2.nx ((Nx.refl _).alloc _)) hR3 (by simp)).mono ?_
  rintro e w3 ⟨rfl, hn3⟩
  go_wp2_with fail
  go_ret
  exact ⟨rfl, ((((Nx.refl _).alloc _).trans hn2).alloc _).trans hn3⟩
end Go.Proofs.YthlhomcgjgfdhaaGreatDoor
