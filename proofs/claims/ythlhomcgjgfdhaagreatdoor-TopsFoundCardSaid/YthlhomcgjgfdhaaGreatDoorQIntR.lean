/- The reference's Int and Ints. -/
import Derived.Test.YthlhomcgjgfdhaaGreatDoorQNumW
import Derived.Test.YthlhomcgjgfdhaaGreatDoorQG0
import Derived.Test.YthlhomcgjgfdhaaGreatDoorQG3
import Derived.Test.YthlhomcgjgfdhaaGreatDoorQShelfK
import Derived.Test.YthlhomcgjgfdhaaGreatDoorQG6
import Derived.Lib.AtoiBound
import Derived.Deep.DeepCutAuto
import Derived.BigQuiet
namespace Go.Proofs.YthlhomcgjgfdhaaGreatDoor
open Go.RowKit

def dgB : ByteArray := ⟨#[48, 49, 50, 51, 52, 53, 54, 55, 56, 57]⟩
def dgL : List UInt8 := [48, 49, 50, 51, 52, 53, 54, 55, 56, 57]
theorem cset_dig (c : UInt8) : dgL.contains c = digB c := by
  have := all_u8 (p := fun c => dgL.contains c == digB c) (by decide +kernel) c
  simpa using this
theorem trim_dig (l : List UInt8) : (Go.Lib.trimS l dgL).isEmpty = l.all digB := by
  have h := trim_nil l dgL
  have e : (fun c => dgL.contains c) = digB := by funext c; exact cset_dig c
  rw [e] at h
  cases h1 : l.all digB
  · cases h2 : Go.Lib.trimS l dgL
    · rw [h.1 h2] at h1; cases h1
    · rfl
  · rw [h.2 h1]; rfl
theorem w_TrimDig (s : ByteArray) (w : World) (hs : s.size ≤ 1000000) :
    Calls Tryz.prog 106 #[.string s, .string dgB] w fun e w' => ∃ r : ByteArray, e = .returned (.string r) ∧ r.toList.isEmpty = s.data.toList.all digB ∧ Nx w w' := by
  have hcon := Any.strings_Trim_laid Tryz.trimStr (by kernel_rfl) s dgB w (by omega) (by decide) (ascii_of_all (by decide))
  change Calls Tryz.prog 106 _ _ _ at hcon
  refine hcon.mono ?_
  rintro e w' ⟨rfl, hb⟩
  refine ⟨_, rfl, ?_, hb⟩
  rw [Lib.toList_data]
  exact trim_dig s.data.toList
/-- A string of digits, perhaps with a minus ahead, is a number for strconv.Atoi. -/
theorem dig_atoi {s : List UInt8} (h0 : Lib.trimPrefix s [45] ≠ []) (hall : (Lib.trimPrefix s [45]).all digB = true) : ∃ n, Lib.atoi s = some n := by
  cases s with
  | nil => exact absurd rfl h0
  | cons a r =>
    by_cases ha : a = 45
    · subst ha
      rw [trim_neg] at h0 hall
      obtain ⟨m, hm⟩ := dec_all 0 hall
      have h1 : Lib.decNat r = Lib.decFrom 0 r := by
        unfold Lib.decNat
        cases r with
        | nil => exact absurd rfl h0
        | cons _ _ => rfl
      exact ⟨-(m : Int), by simp [Lib.atoi, h1, hm]⟩
    · rw [trim_pos (by simpa using ha)] at h0 hall
      obtain ⟨m, hm⟩ := dec_all 0 hall
      have hp : ¬ a = 43 := by
        intro e
        subst e
        rw [List.all_cons, show digB 43 = false by decide] at hall
        cases hall
      have h1 : Lib.decNat (a :: r) = Lib.decFrom 0 (a :: r) := rfl
      exact ⟨(m : Int), by simp [Lib.atoi, ha, hp, h1, hm]⟩
theorem itoa_trim (n : Int) : Lib.trimPrefix (Lib.itoa n) [45] = Lib.decDigits n.natAbs := by
  unfold Lib.itoa
  by_cases hn : n < 0
  · rw [if_pos hn, trim_neg]
  · rw [if_neg hn, trim_pos (digits_pos _), show n.toNat = n.natAbs by omega]
/-- A number that is written as it was read. -/
theorem numS_some {k : Nat} {s : ByteArray} {n : Int} (h : (digS s).size ≤ k) (he : Lib.itoa n = s.data.toList) : numS k s = some n := by
  unfold numS
  rw [← he]
  refine numL_itoa ?_
  have h1 : (digS s).size = (Lib.decDigits n.natAbs).length := by rw [← len_data, digS_data, ← he, itoa_trim]
  rw [Lib.decDigits_length] at h1
  omega
theorem numS_no {k : Nat} {s : ByteArray} {n : Int} (ha : Lib.atoi s.data.toList = some n) (he : Lib.itoa n ≠ s.data.toList) : numS k s = none := by
  cases h : numS k s with
  | none => rfl
  | some m =>
    have h1 := numL_atoi (k := k) (s := s.data.toList) h
    rw [ha] at h1
    injection h1 with h1
    subst h1
    exact absurd (numL_inv (k := k) (s := s.data.toList) h).1 he
set_option maxRecDepth 100000 in
set_option maxHeartbeats 2000000 in
theorem w_Int (s : ByteArray) (k : Nat) (hk : k ≤ 17) (hs : s.size ≤ 1000000) (w : World) (hT : PowTab w) :
    Calls Tryz.prog 101 #[.string s, .int .i64 (k : Int)] w fun e w' => ((numS k s = none ∧ ∃ x : Int, e = .returned (.tuple #[.int .i64 x, .bool false])) ∨ ∃ v : Int, numS k s = some v ∧ e = .returned (.tuple #[.int .i64 v, .bool true])) ∧ Nx w w' := by
  have HQ := hide (numS_eq k s)
  have HT := hide (w_TrimP s)
  have HTR := hide (w_TrimDig (digS s))
  have HP := hide hT
  have HNS := hide (fun n (h : (digS s).size ≤ k) => numS_some (k := k) (s := s) (n := n) h)
  have HAT := hide (fun (h : (digS s).size ≠ 0) (ha : (digS s).data.toList.all digB = true) => (show ∃ n, Lib.atoi s.data.toList = some n from by
    rw [digS_data] at ha
    refine dig_atoi (fun e => h ?_) ha
    rw [← len_data, digS_data, e]; rfl))
  have hds : (digS s).size ≤ s.size := by
    rw [← len_data, digS_data, ← len_data]
    unfold Lib.trimPrefix
    split <;> simp
  have hss : (digS s).size + 1 ≥ s.size := by
    rw [← len_data, digS_data, ← len_data]
    unfold Lib.trimPrefix
    split <;> simp <;> omega
  obtain ⟨d, hd⟩ : ∃ d, d = digS s := ⟨_, rfl⟩
  rw [← hd] at HQ HT HTR HNS HAT hds hss
  clear hd hT
  by_cases hin : 1 ≤ d.size ∧ d.size ≤ k
  rotate_left
  · have HF := hide (show numS k s = none by rw [HQ.out, if_pos (by omega)])
    have hib : inB (d.size : Int) 1 (k : Int) = false := by
      unfold inB
      simp
      omega
    clear hin HQ HNS HAT HTR hss hds
    go_enter Tryz.func101, Tryz.ntmps101
    go_wp2_with (first
      | (go_at_call 133; refine (HT.out _).mono ?_; rintro e w' ⟨rfl, rfl⟩)
      | (go_at_call 43; refine (w_in _ _ _ _).mono ?_; rintro e w' ⟨rfl, rfl⟩; rw [hib]))
    go_ret2
    exact ⟨.inl ⟨HF.out, 0, rfl⟩, Nx.refl _⟩
  have hib : inB (d.size : Int) 1 (k : Int) = true := by
    unfold inB
    simp
    omega
  cases hall : d.data.toList.all digB with
  | false =>
    have HF := hide (show numS k s = none by
      rw [HQ.out]
      split
      · rfl
      · rw [dec_not 0 hall]; rfl)
    have HTF : Hid (∀ w, Calls Tryz.prog 106 #[.string d, .string ⟨#[48, 49, 50, 51, 52, 53, 54, 55, 56, 57]⟩] w fun e w' => ∃ r : ByteArray, e = .returned (.string r) ∧ r.toList.isEmpty = false ∧ Nx w w') := hide (fun w => by have h := HTR.out w (by omega); rw [hall] at h; exact h)
    clear hin HQ HNS HAT HTR hss hds hall
    go_enter Tryz.func101, Tryz.ntmps101
    go_wp2_with (first
      | (go_at_call 133; refine (HT.out _).mono ?_; rintro e w' ⟨rfl, rfl⟩)
      | (go_at_call 43; refine (w_in _ _ _ _).mono ?_; rintro e w' ⟨rfl, rfl⟩; rw [hib])
      | (go_at_call 106; refine (HTF.out _).mono ?_; rintro e w2 ⟨r, rfl, hr, hn2⟩))
    go_ret2
    exact ⟨.inl ⟨HF.out, 0, rfl⟩, hn2⟩
  | true =>
    have HTF : Hid (∀ w, Calls Tryz.prog 106 #[.string d, .string ⟨#[48, 49, 50, 51, 52, 53, 54, 55, 56, 57]⟩] w fun e w' => ∃ r : ByteArray, e = .returned (.string r) ∧ r.toList.isEmpty = true ∧ Nx w w') := hide (fun w => by have h := HTR.out w (by omega); rw [hall] at h; exact h)
    obtain ⟨v, hv⟩ := HAT.out (by omega) hall
    have hvb := Lib.atoi_bound hv (by rw [len_data]; omega)
    have HA := hide (w_Atoi s v (by omega) hv)
    have HI := hide (fun W (h : Nx w W) => w_ItoaN v (by omega) (by omega) W (tab_nx HP.out h))
    have hbq : ((itoaS v).toList == s.toList) = decide (Lib.itoa v = s.data.toList) := by
      rw [Lib.toList_data, Lib.toList_data, Bool.eq_iff_iff]
      simp [itoaS]
    by_cases he : Lib.itoa v = s.data.toList
    · have HF := hide (HNS.out v hin.2 he)
      have hbt : ((itoaS v).toList == s.toList) = true := by rw [hbq]; simpa using he
      clear hin HQ HNS HAT HTR hss hds hall hv hvb hbq he
      go_enter Tryz.func101, Tryz.ntmps101
      go_wp2_with (first
        | (go_at_call 133; refine (HT.out _).mono ?_; rintro e w' ⟨rfl, rfl⟩)
        | (go_at_call 43; refine (w_in _ _ _ _).mono ?_; rintro e w' ⟨rfl, rfl⟩; rw [hib])
        | (go_at_call 106; refine (HTF.out _).mono ?_; rintro e w2 ⟨r, rfl, hr, hn2⟩)
        | (go_at_call 134; refine (HA.out _).mono ?_; rintro e w3 ⟨rfl, hn3⟩)
        | (go_at_call 58; refine (HI.out _ (hn2.trans hn3)).mono ?_; rintro e w4 ⟨rfl, hn4⟩))
      go_ret2
      exact ⟨.inr ⟨v, HF.out, rfl⟩, (hn2.trans hn3).trans hn4⟩
    · have HF := hide (numS_no (k := k) hv he)
      have hbt : ((itoaS v).toList == s.toList) = false := by rw [hbq]; simpa using he
      clear hin HQ HNS HAT HTR hss hds hall hv hvb hbq he
      go_enter Tryz.func101, Tryz.ntmps101
      go_wp2_with (first
        | (go_at_call 133; refine (HT.out _).mono ?_; rintro e w' ⟨rfl, rfl⟩)
        | (go_at_call 43; refine (w_in _ _ _ _).mono ?_; rintro e w' ⟨rfl, rfl⟩; rw [hib])
        | (go_at_call 106; refine (HTF.out _).mono ?_; rintro e w2 ⟨r, rfl, hr, hn2⟩)
        | (go_at_call 134; refine (HA.out _).mono ?_; rintro e w3 ⟨rfl, hn3⟩)
        | (go_at_call 58; refine (HI.out _ (hn2.trans hn3)).mono ?_; rintro e w4 ⟨rfl, hn4⟩))
      go_ret2
      exact ⟨.inl ⟨HF.out, v, rfl⟩, (hn2.trans hn3).trans hn4⟩
set_option maxRecDepth 100000 in
set_option maxHeartbeats 2000000 in
theorem w_Ints (lo : Nat) (A : Option Addr) (c : Nat) (l : List ByteArray) (k : Nat) (hk : k ≤ 17) (hl : l.length ≤ 1000001) (hs : ∀ s ∈ l, s.size ≤ 1000000) (w : World) (hR : Rd w lo A 1 encS l) (hT : PowTab w) :
    Calls Tryz.prog 69 #[.slice A l.length c, .int .i64 (k : Int)] w fun e w' => ((numsS k l = none ∧ e = .returned (.tuple #[.slice none 0 0, .bool false])) ∨ ∃ (ns : List Int) (B : Option Addr) (d : Nat), numsS k l = some ns ∧ e = .returned (.tuple #[.slice B ns.length d, .bool true]) ∧ Rd w' w.heap.size B 1 encI ns) ∧ Nx w w' := by
  have HNUM := hide (fun (s : ByteArray) (h : s ∈ l) W (hn : Nx w W) => w_Int s k hk (hs s h) W (tab_nx hT hn))
  obtain ⟨n, hn⟩ : ∃ n, n = l.length := ⟨_, rfl⟩
  rw [← hn] at hl ⊢
  have HN := hide hn
  have HR := hide hR
  clear hs hR hn hT
  go_enter Tryz.func69, Tryz.ntmps69
  go_upto_region 3 with fail
  go_loopw [6, 8, 9, 10, 13] (fun v _ _ _ i wr => ∃ (j : Nat) (P : List Int), j ≤ n ∧ i = .int .i64 j ∧ P.length = j ∧ numsS k l = (numsS k (l.drop j)).map (P ++ ·) ∧ wr.ownsRow w.heap.size 3 1 v P.length (P.flatMap encI) ∧ Nx w wr) (fun _ _ _ _ i _ => n - (intOf i).toNat)
  case atStart => exact ⟨0, [], Nat.zero_le _, rfl, rfl, by simp, World.ownsRow_nil _ _ _ _, Nx.refl _⟩
  case round =>
    obtain ⟨j, P, hj, rfl, hP, hq, hown, hnx⟩ := hrel
    by_cases hlt : j < n
    · have hjl : j < l.length := by have := HN.out; omega
      have HST := hide (numsS_step hjl P hq)
      obtain ⟨b, off, rfl, _, hb, hbr, hc⟩ := HR.out.open_ hnx (by omega)
      have c0 : wr.cell? ⟨b, off + j, none⟩ = some (.string l[j]) := by have h := hc j hjl 0 _ rfl; simpa using h
      have HNU := hide (fun W (hn : Nx wr W) => HNUM.out l[j] (List.getElem_mem hjl) W (hnx.trans hn))
      generalize l[j] = s at *
      obtain ⟨A1, c1, ev, _, _⟩ := Rd.of_own encI_len rfl hown
      obtain rfl := ev
      have i1 : (0 : Int) ≤ (j : Int) := by omega
      have i2 : (j : Int) < (n : Int) := by omega
      have HOW := hide (show wr.ownsRow w.heap.size 3 1 (.slice A1 j c1) P.length (P.flatMap encI) from by
        have e9 : Value.slice A1 P.length c1 = Value.slice A1 j c1 := by rw [hP]
        rw [← e9]; exact hown)
      have HNX := hide hnx
      have hwz := hnx.sz
      clear hq hown hc hnx
      cases hN : numS k s with
      | none =>
        have HF := hide (show numsS k l = none by rw [HST.out, hN])
        have HNV : Hid (∀ W, Nx wr W → Calls Tryz.prog 101 #[.string s, .int .i64 (k : Int)] W fun e w' => ∃ x : Int, e = .returned (.tuple #[.int .i64 x, .bool false]) ∧ Nx W w') := hide (fun W hn => (HNU.out W hn).mono (fun e w' h => by
          obtain ⟨⟨_, x, he⟩ | ⟨v, hv, _⟩, h2⟩ := h
          · exact ⟨x, he, h2⟩
          · rw [hN] at hv; cases hv))
        clear hN HNU HST
        go_wp2_with (go_at_call 101; refine (HNV.out _ (Nx.refl _)).mono ?_; rintro e w3 ⟨x, rfl, hn3⟩)
        go_ret2
        exact ⟨.inl ⟨HF.out, rfl⟩, HNX.out.trans hn3⟩
      | some v =>
        have HF := hide (show numsS k l = (numsS k (l.drop (j + 1))).map ((P ++ [v]) ++ ·) by rw [HST.out, hN])
        have HNV : Hid (∀ W, Nx wr W → Calls Tryz.prog 101 #[.string s, .int .i64 (k : Int)] W fun e w' => e = .returned (.tuple #[.int .i64 v, .bool true]) ∧ Nx W w') := hide (fun W hn => (HNU.out W hn).mono (fun e w' h => by
          obtain ⟨⟨h1, _⟩ | ⟨v2, hv, he⟩, h2⟩ := h
          · rw [hN] at h1; cases h1
          · rw [hN] at hv; injection hv with hv; subst hv; exact ⟨he, h2⟩))
        clear hN HNU HST
        go_wp2_with (first
          | (go_at_call 101; refine (HNV.out _ (Nx.refl _)).mono ?_; rintro e w3 ⟨rfl, hn3⟩; (have HOW3 := hide (own_nx HOW.out hn3)); (have hwz3 := hn3.sz))
          | (at_builtin; refine wpApp rfl _ _ _ rfl el_Int encI encI_len encI_one (by omega) (by omega) w.heap.size _ P rfl (HOW3.out.alloc _) _ v _ rfl (hnew rfl) rfl (by omega) (by simp; omega) ?_; intro v2 w4 hown4 hg4))
        have hnx4 := ((HNX.out.trans hn3).alloc (.cells #[.int .i64 v] 3)).grown hg4 (fun m hm => by exact own_blk_lt HOW3.out m hm)
        go_roundw
        case rel => exact ⟨j + 1, P ++ [v], by omega, by go_num, by simp [hP], HF.out, hown4, hnx4⟩
        case measure => simp [intOf]; omega
    · have ej : j = n := by omega
      have hF : numsS k l = some P := by rw [hq, List.drop_of_length_le (by have := HN.out; omega), numsS_nil]; simp
      obtain ⟨A1, c1, ev, hR1, _⟩ := Rd.of_own encI_len rfl hown
      obtain rfl := ev
      have HF := hide hF
      have HR1 := hide hR1
      clear hq hF hown hR1 hP ej
      go_wp2_with fail
      go_ret2
      exact ⟨.inr ⟨P, A1, c1, HF.out, rfl, HR1.out⟩, hnx⟩
end Go.Proofs.YthlhomcgjgfdhaaGreatDoor
