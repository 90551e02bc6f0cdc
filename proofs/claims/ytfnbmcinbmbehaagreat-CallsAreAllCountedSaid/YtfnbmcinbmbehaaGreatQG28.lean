/- What is wrong with costs and dues: the program's and the reference's words. -/
import Derived.Test.YtfnbmcinbmbehaaGreatQG17
import Derived.Test.YtfnbmcinbmbehaaGreatQDivB
import Derived.Test.YtfnbmcinbmbehaaGreatQG21
import Derived.Test.YtfnbmcinbmbehaaGreatQReadyE
import Derived.Test.YtfnbmcinbmbehaaGreatQG24
import Derived.Test.YtfnbmcinbmbehaaGreatQSeq
import Derived.Test.YtfnbmcinbmbehaaGreatQG5
namespace Go.Proofs.YtfnbmcinbmbehaaGreat
open Go.RowKit

theorem centB_bd {n : Int} (h : centB n = false) : 0 ≤ n ∧ n ≤ 1000000000 := by have := outB_false.1 h; unfold maxCt at this; exact this
theorem pow_bd {n : Nat} (h : n ≤ 10) : 1 ≤ 2 ^ n ∧ 2 ^ n ≤ 1024 := by
  have h1 : 2 ^ n ≤ 2 ^ 10 := Nat.pow_le_pow_right (by omega) h
  have h2 : 0 < 2 ^ n := Nat.pow_pos (by omega)
  omega
theorem shl_pow {n : Nat} (h : n ≤ 10) : wrap64 ((2 : Int) ^ n) = ((2 ^ n : Nat) : Int) := by
  have h1 := pow_bd h
  have e : ((2 : Int) ^ n) = ((2 ^ n : Nat) : Int) := by rw [Int.natCast_pow]; rfl
  rw [e]
  generalize 2 ^ n = P at *
  unfold wrap64
  omega
theorem keysF_len {l : List ByteArray} (h : keysF l = 0) : l.length ≤ 10 := by
  rcases Nat.lt_or_ge 10 l.length with h1 | h1
  · unfold keysF at h; rw [if_pos h1] at h; omega
  · exact h1
theorem fairF_key {l : List ByteArray} {cs : List Int} (h : ¬ keysF l = 0) : fairF l cs = keysF l := by unfold fairF; rw [if_neg h]
theorem fairF_form {l : List ByteArray} {cs : List Int} (h : keysF l = 0) (h2 : ¬ cs.length = 2 ^ l.length) : fairF l cs = 3 := by unfold fairF; rw [if_pos h, if_neg h2]
theorem fairF_arg0 {l : List ByteArray} {cs : List Int} (h : keysF l = 0) (h2 : cs.length = 2 ^ l.length) (h3 : cs.getD 0 0 ≠ 0) : fairF l cs = 1 := by unfold fairF; rw [if_pos h, if_pos h2, if_pos (.inl h3)]
theorem fairF_arg1 {l : List ByteArray} {cs : List Int} (h : keysF l = 0) (h2 : cs.length = 2 ^ l.length) (h3 : cs.any centB = true) : fairF l cs = 1 := by unfold fairF; rw [if_pos h, if_pos h2, if_pos (.inr h3)]
theorem fairF_ok {l : List ByteArray} {cs : List Int} (h : keysF l = 0) (h2 : cs.length = 2 ^ l.length) (h3 : cs.getD 0 0 = 0) (h4 : cs.any centB = false) : fairF l cs = 0 := by
  unfold fairF; rw [if_pos h, if_pos h2, if_neg]; rintro (h5 | h5)
  · exact h5 h3
  · rw [h4] at h5; cases h5

set_option maxRecDepth 100000 in
set_option maxHeartbeats 1000000 in
theorem w_fairFault (lo lo' : Nat) (A B : Option Addr) (c c' : Nat) (l : List ByteArray) (cs : List Int) (w : World) (hR : Rd w lo A 1 encS l) (hS : Small l) (hC : Rd w lo' B 1 encI cs) (hl : l.length ≤ 65536) (hl' : cs.length ≤ 65536) :
    Calls Tryz.prog 15 #[.slice A l.length c, .slice B cs.length c'] w fun e w' => e = .returned (.int .i64 (fairF l cs)) ∧ w = w' := by
  have HK := hide (w_keysFault lo A c l w hR hS hl)
  have HC := hide (w_ContFI 41 centB eg_of_fairF1 w_fairF1 lo' B c' cs w hC hl')
  by_cases h0 : keysF l = 0
  · have HK0 := hide h0
    rw [h0] at HK
    have h10 := keysF_len h0
    have HL := hide (show l.length = l.length from rfl)
    have HM := hide (show cs.length = cs.length from rfl)
    clear hR hS h0
    by_cases hp : cs.length = 2 ^ l.length
    · have t1 : ((cs.length : Int) != wrap64 (2 ^ l.length)) = false := by rw [shl_pow h10, ← hp]; simp
      have hp1 : 1 ≤ cs.length := by rw [hp]; exact (pow_bd h10).1
      have HP := hide hp
      obtain ⟨b, off, rfl, _, hb, _, hc⟩ := hC.open_ (Nx.refl w) (by omega)
      have c0 : w.cell? ⟨b, off, none⟩ = some (.int .i64 cs[0]) := by have := hc 0 (by omega) 0 _ rfl; simpa using this
      have HG := hide (show cs.getD 0 0 = cs[0] from by rw [List.getD_eq_getElem?_getD, List.getElem?_eq_getElem (by omega)]; rfl)
      clear hc hC hp
      generalize cs[0] = z at *
      by_cases hz : z = 0
      · have HZ := hide hz
        have t2 : (z != 0) = false := by simpa using hz
        clear hz
        cases hB : cs.any centB
        · have HF := hide (fairF_ok HK0.out HP.out (by rw [HG.out, HZ.out]) hB)
          rw [hB] at HC
          generalize l.length = n at *
          generalize cs.length = m at *
          go_enter Tryz.func15, Tryz.ntmps15
          go_wp2_with (first
            | (go_at_call 39; refine (HK.out).mono ?_; rintro e w' ⟨rfl, rfl⟩)
            | (go_at_call 40; refine (HC.out).mono ?_; rintro e w' ⟨rfl, rfl⟩))
          go_ret
          exact ⟨ret_int (by rw [HF.out]), rfl⟩
        · have HF := hide (fairF_arg1 HK0.out HP.out hB)
          rw [hB] at HC
          generalize l.length = n at *
          generalize cs.length = m at *
          go_enter Tryz.func15, Tryz.ntmps15
          go_wp2_with (first
            | (go_at_call 39; refine (HK.out).mono ?_; rintro e w' ⟨rfl, rfl⟩)
            | (go_at_call 40; refine (HC.out).mono ?_; rintro e w' ⟨rfl, rfl⟩))
          go_ret
          exact ⟨ret_int (by rw [HF.out]), rfl⟩
      · have t2 : (z != 0) = true := by simpa using hz
        have HF := hide (fairF_arg0 (l := l) (cs := cs) HK0.out HP.out (by rw [HG.out]; exact hz))
        clear hz
        generalize l.length = n at *
        generalize cs.length = m at *
        go_enter Tryz.func15, Tryz.ntmps15
        go_wp2_with (go_at_call 39; refine (HK.out).mono ?_; rintro e w' ⟨rfl, rfl⟩)
        go_ret
        exact ⟨ret_int (by rw [HF.out]), rfl⟩
    · have t1 : ((cs.length : Int) != wrap64 (2 ^ l.length)) = true := by rw [shl_pow h10, bne_iff_ne]; exact fun h => hp (Int.ofNat_inj.1 h)
      have HF := hide (fairF_form (l := l) (cs := cs) HK0.out hp)
      clear hp hC
      generalize l.length = n at *
      generalize cs.length = m at *
      go_enter Tryz.func15, Tryz.ntmps15
      go_wp2_with (go_at_call 39; refine (HK.out).mono ?_; rintro e w' ⟨rfl, rfl⟩)
      go_ret
      exact ⟨ret_int (by rw [HF.out]), rfl⟩
  · have HF := hide (fairF_key (cs := cs) h0)
    have t1 : (keysF l != 0) = true := by simpa using h0
    clear hR hS h0 hC
    generalize l.length = n at *
    generalize cs.length = m at *
    go_enter Tryz.func15, Tryz.ntmps15
    go_wp2_with (go_at_call 39; refine (HK.out).mono ?_; rintro e w' ⟨rfl, rfl⟩)
    go_ret
    exact ⟨ret_int (by rw [HF.out]), rfl⟩

theorem duesF_form {l : List ByteArray} {ds : List Due} (h : ¬ l = ds.map (·.key)) : duesF l ds = 3 := by unfold duesF; rw [if_neg h]
theorem duesF_arg {l : List ByteArray} {ds : List Due} (h : l = ds.map (·.key)) (h2 : ds.any badD = true) : duesF l ds = 1 := by unfold duesF; rw [if_pos h, show (ds.any fun d => outB d.cents (-maxCt) maxCt) = true from h2]; rfl
theorem duesF_ok {l : List ByteArray} {ds : List Due} (h : l = ds.map (·.key)) (h2 : ds.any badD = false) : duesF l ds = 0 := by unfold duesF; rw [if_pos h, show (ds.any fun d => outB d.cents (-maxCt) maxCt) = false from h2]; rfl
end Go.Proofs.YtfnbmcinbmbehaaGreat
/- fare.Divide, whatever it is handed; what is wrong with parts; 'priced' answers true. -/
namespace Go.Proofs.YtfnbmcinbmbehaaGreat
open Go.RowKit Go.Sort Go.Proofs Go.Shelf

theorem partsF_cents {cents : Int} {parts : List Int} (h : centB cents = true) : partsF cents parts = 1 := by unfold partsF; rw [h]; rfl
theorem partsF_any {cents : Int} {parts : List Int} (h : centB cents = false) (h2 : parts.length < 20) (h3 : parts.any centB = true) : partsF cents parts = 1 := by
  unfold partsF; rw [h, h3]; simp; omega
theorem partsF_sum {cents : Int} {parts : List Int} (h : centB cents = false) (h2 : parts.length < 20) (h3 : parts.any centB = false) : partsF cents parts = if sumL parts = 0 then 8 else 0 := by
  unfold partsF; rw [h, h3]; simp; omega
theorem any_at {l : List Int} {p : Int → Bool} {k : Nat} (hk : k < l.length) (h : p l[k] = true) : l.any p = true := List.any_eq_true.2 ⟨_, List.getElem_mem hk, h⟩
theorem any_step {l : List Int} {p : Int → Bool} {k : Nat} (hk : k < l.length) (h : (l.take k).any p = false) (h2 : p l[k] = false) : (l.take (k + 1)).any p = false := by
  rw [List.take_succ_eq_append_getElem hk, List.any_append, h]; simp [h2]
theorem sum_right {l : List Int} (h : l.any centB = false) : 0 ≤ sumL l ∧ sumL l ≤ l.length * 1000000000 := by
  have := sumL_bd l 0 1000000000 (fun x hx => centB_bd (by
    cases h1 : centB x
    · rfl
    · exact absurd (List.any_eq_true.2 ⟨x, hx, h1⟩) (by rw [h]; simp)))
  omega
/-- Cents given out, or a fault. -/
def DivU (F cents : Int) (parts : List Int) (w : World) (e : Ending) (w' : World) : Prop :=
  ∃ (A : Option Addr) (c : Nat) (zs : List Int), e = .returned (.tuple #[.slice A zs.length c, .int .i64 F]) ∧ (F = 0 → Divided cents parts zs) ∧ (F ≠ 0 → zs = []) ∧ Rd w' w.heap.size A 1 encI zs ∧ Nx w w'
theorem DivU.no {F cents : Int} {parts : List Int} {w w' : World} (h : F ≠ 0) (hn : Nx w w') : DivU F cents parts w (.returned (.tuple #[.slice none 0 0, .int .i64 F])) w' := ⟨none, 0, [], rfl, fun h0 => absurd h0 h, fun _ => rfl, Rd.nil, hn⟩

set_option maxRecDepth 100000 in
set_option maxHeartbeats 1000000 in
theorem w_Divide (lo : Nat) (A : Option Addr) (c : Nat) (cents : Int) (parts : List Int) (w : World) (hR : Rd w lo A 1 encI parts) (hl : parts.length < 20) :
    Calls Tryz.prog 21 #[.int .i64 cents, .slice A parts.length c] w (DivU (partsF cents parts) cents parts w) := by
  cases hd : centB cents
  · have HD := hide hd
    have hcb := centB_bd hd
    have HPO := hide (fun h3 => partsF_sum (parts := parts) hd hl h3)
    have HPA := hide (fun h3 => partsF_any (parts := parts) hd hl h3)
    have HDB := hide (fun h3 h4 => w_DivideB lo A c cents parts w hR hl hcb h3 h4)
    generalize hn : parts.length = n at *
    have HR := hide hR
    have HN := hide hn
    unfold centB at hd
    clear hR hn
    go_enter Tryz.func21, Tryz.ntmps21
    go_wp2_with (go_at_call 31; first | (rw [show (1000000000 : Int) = maxCt from rfl]; refine (w_Out _ _ _ _).mono ?_; rintro e w' ⟨rfl, rfl⟩))
    go_loop [4, 5, 6, 8, 16] (fun _ _ s _ i => ∃ k : Nat, k ≤ n ∧ i = .int .i64 k ∧ s = .int .i64 (sumL (parts.take k)) ∧ (parts.take k).any centB = false) (fun _ _ _ _ i => n - (intOf i).toNat)
    case atStart => exact ⟨0, Nat.zero_le _, rfl, rfl, rfl⟩
    case round =>
      obtain ⟨k, hk, rfl, rfl, hq⟩ := hrel
      have hsb := sum_right hq
      have hkl : (parts.take k).length ≤ k := List.length_take_le _ _
      have HQ := hide hq
      clear hq
      by_cases hlt : k < n
      · have hlt' : k < parts.length := by have := HN.out; omega
        have HT := hide (sumL_take parts k hlt')
        obtain ⟨b, off, rfl, _, hb, _, hc⟩ := HR.out.open_ (Nx.refl w) (by omega)
        have c0 : w.cell? ⟨b, off + k, none⟩ = some (.int .i64 parts[k]) := by have := hc k hlt' 0 _ rfl; simpa using this
        clear hc
        cases hx : centB parts[k]
        · have HX := hide (any_step hlt' HQ.out hx)
          have hxb := centB_bd hx
          unfold centB at hx
          generalize sumL (parts.take k) = s at *
          go_wp2_with (go_at_call 31; first | (rw [show (1000000000 : Int) = maxCt from rfl]; refine (w_Out _ _ _ _).mono ?_; rintro e w' ⟨rfl, rfl⟩))
          go_round
          case rel => exact ⟨k + 1, by omega, by go_num, by rw [HT.out], HX.out⟩
          case measure => simp [intOf]; omega
        · have HF := hide (HPA.out (any_at hlt' hx))
          unfold centB at hx
          go_wp2_with (go_at_call 31; first | (rw [show (1000000000 : Int) = maxCt from rfl]; refine (w_Out _ _ _ _).mono ?_; rintro e w' ⟨rfl, rfl⟩))
          go_ret2
          rw [HF.out]
          exact DivU.no (by omega) (Nx.refl _)
      · have HK := hide (show parts.take k = parts from List.take_of_length_le (by have := HN.out; omega))
        rw [HK.out] at hsb HQ ⊢
        have HF := hide (HPO.out HQ.out)
        by_cases hz : sumL parts = 0
        · have t1 : (sumL parts == 0) = true := by simpa using hz
          have HZ := hide hz
          clear hz
          go_wp2_with fail
          go_ret2
          rw [HF.out, if_pos HZ.out]
          exact DivU.no (by omega) (Nx.refl _)
        · have t1 : (sumL parts == 0) = false := by simpa using hz
          have HZ := hide hz
          clear hz
          go_wp2_with (go_at_call 49; refine (HDB.out (fun p hp => centB_bd (by cases h1 : centB p; rfl; exact absurd (List.any_eq_true.2 ⟨p, hp, h1⟩) (by rw [HQ.out]; simp))) (by have := HZ.out; omega)).mono ?_; rintro e w2 ⟨A', c', zs, rfl, hdv, hR2, hn2⟩)
          go_ret2
          rw [HF.out, if_neg HZ.out]
          exact ⟨A', c', zs, rfl, fun _ => hdv, fun h => absurd rfl h, hR2, hn2⟩
  · have HF := hide (partsF_cents (parts := parts) hd)
    clear hR
    generalize parts.length = n at *
    unfold centB at hd
    go_enter Tryz.func21, Tryz.ntmps21
    go_wp2_with (go_at_call 31; first | (rw [show (1000000000 : Int) = maxCt from rfl]; refine (w_Out _ _ _ _).mono ?_; rintro e w' ⟨rfl, rfl⟩))
    go_ret2
    rw [HF.out]
    exact DivU.no (by omega) (Nx.refl _)

set_option maxRecDepth 100000 in
set_option maxHeartbeats 1000000 in
theorem w_EqualI (lo lo' : Nat) (A B : Option Addr) (c d : Nat) (l : List Int) (w : World) (hA : Rd w lo A 1 encI l) (hB : Rd w lo' B 1 encI l) (hl : l.length ≤ 65536) :
    Calls Tryz.prog 24 #[.slice A l.length c, .slice B l.length d] w fun e w' => e = .returned (.bool true) ∧ Nx w w' := by
  generalize hn : l.length = n at *
  have HA := hide hA
  have HB := hide hB
  have HN := hide hn
  clear hA hB hn
  go_enter Tryz.func24, Tryz.ntmps24
  go_wp2
  go_loopw [5, 13] (fun _ i wr => ∃ k : Nat, k ≤ n ∧ i = .int .i64 k ∧ Nx w wr) (fun _ i _ => n - (intOf i).toNat)
  case atStart => exact ⟨0, Nat.zero_le _, rfl, Nx.refl _⟩
  case round =>
    obtain ⟨k, hk, rfl, hbw⟩ := hrel
    by_cases hlt : k < n
    · have hlt' : k < l.length := by have := HN.out; omega
      obtain ⟨b, off, rfl, _, hb, hbr, hc⟩ := HA.out.open_ hbw (by omega)
      obtain ⟨b', off', rfl, _, hb', hbr', hc'⟩ := HB.out.open_ hbw (by omega)
      have c0 : wr.cell? ⟨b, off + k, none⟩ = some (.int .i64 l[k]) := by have := hc k hlt' 0 _ rfl; simpa using this
      have d0 : wr.cell? ⟨b', off' + k, none⟩ = some (.int .i64 l[k]) := by have := hc' k hlt' 0 _ rfl; simpa using this
      clear hc hc'
      have q1 : (0 : Int) ≤ (k : Int) := by omega
      have q2 : (k : Int) < (n : Int) := by omega
      go_wp2_with fail
      go_quiet (fail)
      go_wp2
      go_roundw
      case rel => exact ⟨k + 1, by omega, by go_num, hbw.drewN _⟩
      case measure => simp [intOf]; omega
    · go_wp2
      go_ret
      exact ⟨rfl, hbw⟩

end Go.Proofs.YtfnbmcinbmbehaaGreat
/- 'ready' answers true. -/
namespace Go.Proofs.YtfnbmcinbmbehaaGreat
open Go.RowKit
attribute [local go_sem ↓] neq_Cell eql_Cell

set_option maxRecDepth 100000 in
set_option maxHeartbeats 2000000 in
theorem w_ready (w : World) : Calls Tryz.prog 7 #[] w fun e w' => e = .returned (.bool true) ∧ Nx w w' := by
  have hEF : EvRight := fun W => w_eventFaultEx W
  have hF : partsF 10 [1, 1, 1] = 0 := by decide
  go_enter Tryz.func7, Tryz.ntmps7
  go_wp2_with fail
  have hK : Rd (w.alloc (.cells #[.int .i64 0, .int .i64 100, .int .i64 1000, .int .i64 600] 55)) 0 (some ⟨w.heap.size, 0, none⟩) 2 encKnot exKnots := Rd.lit (hnew rfl) (Nat.zero_le _) encKnot_len rfl
  refine (w_TimeOnEx 0 _ 2 _ hK).mono ?_
  rintro e w1 ⟨rfl, hn1⟩
  have hx1 : Nx w w1 := ((Nx.refl w).alloc _).trans hn1
  clear hK hn1
  go_wp2_with fail
  have hR1 : Rd (w1.alloc (.cells #[.int .i64 1, .int .i64 1, .int .i64 1] 3)) 0 (some ⟨w1.heap.size, 0, none⟩) 1 encI [1, 1, 1] := Rd.lit (hnew rfl) (Nat.zero_le _) (fun _ => rfl) rfl
  refine (w_Divide _ _ _ 10 [1, 1, 1] _ hR1 (by decide)).mono ?_
  rintro e w2 ⟨A, c, zs, rfl, hdv, _, hR2, hn2⟩
  have hz := divided_433 (hdv hF)
  subst hz
  rw [hF]
  have hx2 : Nx w1 w2 := ((Nx.refl w1).alloc _).trans hn2
  clear hdv hR1 hn2
  go_wp2_with fail
  refine (w_RidesEx hEF w2.heap.size 1 _ (hnew rfl)).mono ?_
  rintro e w3 ⟨A3, c3, rfl, hn3⟩
  have hx3 : Nx w2 w3 := ((Nx.refl w2).alloc _).trans hn3
  have hR3 := hR2.nx hx3
  clear hn3 hR2
  go_wp2_with fail
  refine (w_CellOf_yes (-1) 250 100 _ (by decide) (by decide)).mono ?_
  rintro e w4 ⟨rfl, hn4⟩
  have hR4 := hR3.nx hn4
  clear hR3
  have hR5 : Rd ((w4.alloc (.cells #[.int .i64 (-1 / 100), .int .i64 (250 / 100)] 45)).alloc (.cells #[.int .i64 4, .int .i64 3, .int .i64 3] 3)) 0 (some ⟨w4.heap.size + 1, 0, none⟩) 1 encI [4, 3, 3] := Rd.lit (hnew (by simp)) (Nat.zero_le _) (fun _ => rfl) rfl
  go_wp2_with (go_at_call 24; refine (w_EqualI _ _ _ _ _ _ [4, 3, 3] _ (hR4.nx (((Nx.refl _).alloc _).alloc _)) hR5 (by simp)).mono ?_; rintro e w6 ⟨rfl, hn6⟩; (have q0 : w6.cell? ⟨w4.heap.size, 0, none⟩ = some (.int .i64 (-1)) := nx_cell hn6 (by simp <;> omega) (show ((w4.alloc (.cells #[.int .i64 (-1 / 100), .int .i64 (250 / 100)] 45)).alloc (.cells #[.int .i64 4, .int .i64 3, .int .i64 3] 3)).cell? ⟨w4.heap.size, 0, none⟩ = some (.int .i64 (-1)) by go_simp)); (have q1 : w6.cell? ⟨w4.heap.size, 1, none⟩ = some (.int .i64 2) := nx_cell hn6 (by simp <;> omega) (show ((w4.alloc (.cells #[.int .i64 (-1 / 100), .int .i64 (250 / 100)] 45)).alloc (.cells #[.int .i64 4, .int .i64 3, .int .i64 3] 3)).cell? ⟨w4.heap.size, 1, none⟩ = some (.int .i64 2) by go_simp)))
  go_ret
  exact ⟨rfl, (((hx1.trans hx2).trans hx3).trans hn4).trans ((((Nx.refl w4).alloc _).alloc _).trans hn6)⟩
end Go.Proofs.YtfnbmcinbmbehaaGreat
