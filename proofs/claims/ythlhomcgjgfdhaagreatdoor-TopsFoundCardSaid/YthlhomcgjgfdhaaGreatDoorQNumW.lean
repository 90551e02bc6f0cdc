/- base.Number, base.Numbers, base.Words, base.Lines. -/
import Derived.Test.YthlhomcgjgfdhaaGreatDoorQG0
import Derived.Test.YthlhomcgjgfdhaaGreatDoorQShelfA
import Derived.Test.YthlhomcgjgfdhaaGreatDoorQDivB
import Derived.Test.YthlhomcgjgfdhaaGreatDoorQG3
import Derived.Lib.AtoiErrMem
import Derived.Deep.DeepCutAuto
import Derived.BigQuiet
namespace Go.Proofs.YthlhomcgjgfdhaaGreatDoor
open Go.RowKit

def digB (c : UInt8) : Bool := decide (48 ≤ c.toNat) && decide (c.toNat ≤ 57)
theorem digB_int (c : UInt8) : digB c = true ↔ 48 ≤ (c.toNat : Int) ∧ (c.toNat : Int) ≤ 57 := by unfold digB; simp; omega
theorem dig_some {c : UInt8} (h : digB c = true) : ∃ d, Lib.digitVal c = some d := by
  unfold digB at h
  simp only [Bool.and_eq_true, decide_eq_true_eq] at h
  exact ⟨_, by unfold Lib.digitVal; rw [if_pos h]⟩
theorem dig_none {c : UInt8} (h : digB c = false) : Lib.digitVal c = none := by
  unfold Lib.digitVal
  rw [if_neg]
  intro hc
  rw [← Bool.not_eq_true] at h
  exact h (by unfold digB; simp [hc.1, hc.2])
theorem dec_all : ∀ {l : List UInt8} (acc : Nat), l.all digB = true → ∃ m, Lib.decFrom acc l = some m
  | [], acc, _ => ⟨acc, rfl⟩
  | c :: l, acc, h => by
    rw [List.all_cons, Bool.and_eq_true] at h
    obtain ⟨d, hd⟩ := dig_some h.1
    obtain ⟨m, hm⟩ := dec_all (acc * 10 + d) h.2
    exact ⟨m, by unfold Lib.decFrom; rw [hd]; exact hm⟩
theorem dec_not : ∀ {l : List UInt8} (acc : Nat), l.all digB = false → Lib.decFrom acc l = none
  | [], _, h => by cases h
  | c :: l, acc, h => by
    unfold Lib.decFrom
    cases hc : digB c with
    | false => rw [dig_none hc]
    | true =>
      obtain ⟨d, hd⟩ := dig_some hc
      rw [hd]
      rw [List.all_cons, hc, Bool.true_and] at h
      exact dec_not _ h
theorem dig_snoc {l : List UInt8} {k : Nat} (hk : k < l.length) : (l.take (k + 1)).all digB = ((l.take k).all digB && digB l[k]) := by
  rw [List.take_succ_eq_append_getElem hk, List.all_append]; simp
theorem dig_take_false {l : List UInt8} {k : Nat} (hk : k < l.length) (h : digB l[k] = false) : l.all digB = false := by
  rw [List.all_eq_false]
  exact ⟨_, List.getElem_mem hk, by simp [h]⟩
/-- The digits of a string of a number. -/
def digS (s : ByteArray) : ByteArray := ⟨(Lib.trimPrefix s.data.toList [45]).toArray⟩
def numS (k : Nat) (s : ByteArray) : Option Int := numL k s.data.toList
theorem digS_data (s : ByteArray) : (digS s).data.toList = Lib.trimPrefix s.data.toList [45] := by simp [digS]
theorem len_data (s : ByteArray) : s.data.toList.length = s.size := by simp
theorem numS_eq (k : Nat) (s : ByteArray) : numS k s = (if (digS s).size = 0 ∨ k < (digS s).size ∨ ((digS s).data.toList.head? = some 48 ∧ (1 < (digS s).size ∨ (digS s).size < s.size)) then none else (Lib.decFrom 0 (digS s).data.toList).map (fun (m : Nat) => if (digS s).size < s.size then -(m : Int) else (m : Int))) := by
  unfold numS numL
  simp only [digS_data, ← len_data (digS s), ← len_data s]
  by_cases h : Lib.trimPrefix s.data.toList [45] = []
  · simp [h]
  · have h' : ¬ (Lib.trimPrefix s.data.toList [45]).length = 0 := fun e => h (List.eq_nil_of_length_eq_zero e)
    simp [h]
theorem head_at {d : ByteArray} (h : 0 < d.size) : d.data.toList.head? = some (d[0]'h) := by
  have e := len_data d
  cases hl : d.data.toList with
  | nil => rw [hl] at e; simp at e; omega
  | cons c l =>
    have : d.data.toList[0]'(by rw [e]; exact h) = c := by simp [hl]
    have e0 : d[0]'h = c := this
    rw [e0]; rfl
theorem w_TrimP (s : ByteArray) (w : World) : Calls Tryz.prog 133 #[.string s, .string ⟨#[45]⟩] w fun e w' => e = .returned (.string (digS s)) ∧ w = w' := by
  have hcon := Any.strings_TrimPrefix Tryz.trimPrefix s ⟨#[45]⟩ w
  change Calls Tryz.prog 133 _ _ _ at hcon
  refine hcon.mono ?_
  rintro e w' ⟨rfl, rfl⟩
  exact ⟨rfl, rfl⟩
theorem w_Atoi (s : ByteArray) (n : Int) (hl : s.size ≤ 18) (h : Lib.atoi s.data.toList = some n) (w : World) : Calls Tryz.prog 134 #[.string s] w fun e w' => e = .returned (.tuple #[.int .i64 n, .nilIface]) ∧ Nx w w' := by
  have hcon := Any.strconv_Atoi Tryz.atoiStr s n hl h w
  change Calls Tryz.prog 134 _ _ _ at hcon
  refine hcon.mono ?_
  rintro e w' ⟨rfl, t, rfl⟩
  exact ⟨rfl, Lib.bytesWorld_below w _ t⟩

set_option maxRecDepth 100000 in
set_option maxHeartbeats 2000000 in
theorem w_Number (s : ByteArray) (k : Nat) (hk : k ≤ 17) (hs : s.size ≤ 1000000) (w : World) :
    Calls Tryz.prog 99 #[.string s, .int .i64 (k : Int)] w fun e w' => e = .returned (.tuple #[.int .i64 ((numS k s).getD 0), .bool (numS k s).isSome]) ∧ Nx w w' := by
  have HQ := hide (numS_eq k s)
  have HT := hide (w_TrimP s)
  have hNB : ∀ n, numS k s = some n → Lib.atoi s.data.toList = some n ∧ s.size ≤ 18 := fun n h => by
    have h1 := numL_atoi (k := k) (s := s.data.toList) h
    have h2 := (numL_inv (k := k) (s := s.data.toList) h).2.2
    rw [len_data] at h2
    exact ⟨h1, by omega⟩
  have HNB := hide hNB
  clear hNB
  obtain ⟨d, hd⟩ : ∃ d, d = digS s := ⟨_, rfl⟩
  rw [← hd] at HQ HT
  have hds : d.size ≤ s.size := by
    rw [hd, ← len_data, digS_data, ← len_data]
    unfold Lib.trimPrefix
    split <;> simp
  obtain ⟨N, hN⟩ : ∃ N, N = numS k s := ⟨_, rfl⟩
  rw [← hN] at HQ HNB ⊢
  clear hd hN
  by_cases h0 : d.size = 0
  · have hn : N = none := by rw [HQ.out, if_pos (.inl h0)]
    have he : d.toList = [] := by
      rw [Lib.toList_data]
      exact List.eq_nil_of_length_eq_zero (by rw [len_data]; exact h0)
    subst hn
    clear HQ HNB
    go_enter Tryz.func99, Tryz.ntmps99
    go_wp2_with (go_at_call 133; refine (HT.out _).mono ?_; rintro e w' ⟨rfl, rfl⟩)
    go_ret2
    exact ⟨rfl, Nx.refl _⟩
  · have h1 : 0 < d.size := by omega
    have he : ¬ d.toList = [] := by
      rw [Lib.toList_data]
      intro h
      have := len_data d
      rw [h] at this; simp at this; omega
    have HH := hide (head_at h1)
    by_cases h2 : k < d.size
    · have hn : N = none := by rw [HQ.out, if_pos (.inr (.inl h2))]
      have i2 : (k : Int) < (d.size : Int) := by omega
      subst hn
      clear HQ HNB HH
      go_enter Tryz.func99, Tryz.ntmps99
      go_wp2_with (go_at_call 133; refine (HT.out _).mono ?_; rintro e w' ⟨rfl, rfl⟩)
      go_ret2
      exact ⟨rfl, Nx.refl _⟩
    · have i2 : ¬ (k : Int) < (d.size : Int) := by omega
      by_cases hbad : d[0]'h1 = 48 ∧ (1 < d.size ∨ d.size < s.size)
      · have hn : N = none := by rw [HQ.out, if_pos (.inr (.inr ⟨by rw [HH.out, hbad.1], hbad.2⟩))]
        subst hn
        have hz : ((d[0]'h1).toNat : Int) = 48 := by rw [hbad.1]; rfl
        have hbb := hbad.2
        clear HQ HNB HH hbad
        by_cases h3 : 1 < d.size
        · have i3 : (1 : Int) < (d.size : Int) := by omega
          go_enter Tryz.func99, Tryz.ntmps99
          go_wp2_with (go_at_call 133; refine (HT.out _).mono ?_; rintro e w' ⟨rfl, rfl⟩)
          go_ret2
          exact ⟨rfl, Nx.refl _⟩
        · have i3 : ¬ (1 : Int) < (d.size : Int) := by omega
          have i4 : (d.size : Int) < (s.size : Int) := by omega
          go_enter Tryz.func99, Tryz.ntmps99
          go_wp2_with (go_at_call 133; refine (HT.out _).mono ?_; rintro e w' ⟨rfl, rfl⟩)
          go_ret2
          exact ⟨rfl, Nx.refl _⟩
      · have HN := hide (show N = (Lib.decFrom 0 d.data.toList).map (fun (m : Nat) => if d.size < s.size then -(m : Int) else (m : Int)) by
          rw [HQ.out, if_neg]
          rintro (h | h | ⟨h3, h4⟩)
          · exact h0 h
          · exact h2 h
          · rw [HH.out] at h3; injection h3 with h3; exact hbad ⟨h3, h4⟩)
        have HBAD := hide hbad
        have HEM := hide (show d.toList.isEmpty = false by
          cases h : d.toList with
          | nil => exact absurd h he
          | cons _ _ => rfl)
        clear HQ HH hbad
        go_enter Tryz.func99, Tryz.ntmps99
        go_upto_region 2 with (go_at_call 133; refine (HT.out _).mono ?_; rintro e w' ⟨rfl, rfl⟩)
        go_cut [36] (fun v wx => v = .bool false ∧ w = wx)
        case first =>
          by_cases hz : d[0]'h1 = 48
          · have hz' : ((d[0]'h1).toNat : Int) = 48 := by rw [hz]; rfl
            have i3 : ¬ (1 : Int) < (d.size : Int) := fun h => HBAD.out ⟨hz, .inl (by omega)⟩
            have i4 : ¬ (d.size : Int) < (s.size : Int) := fun h => HBAD.out ⟨hz, .inr (by omega)⟩
            clear hz HN HNB HT
            go_wp2_with fail
            go_meet
            exact ⟨by rw [HEM.out], rfl⟩
          · have hz' : ¬ ((d[0]'h1).toNat : Int) = 48 := fun h => hz (by
              rw [← UInt8.toNat_inj]; show _ = 48; omega)
            have hz2 : (((d[0]'h1).toNat : Int) == 48) = false := by simpa using hz'
            clear hz HN HNB HT
            go_wp2_with fail
            go_meet
            exact ⟨by rw [HEM.out], rfl⟩
        case rest =>
          obtain ⟨rfl, rfl⟩ := hcut
          clear HT he h2 i2
          go_upto_region 5 with fail
          go_loopw [7, 39] (fun _ i wr => ∃ j : Nat, j ≤ d.size ∧ i = .int .i64 j ∧ (d.data.toList.take j).all digB = true ∧ w = wr) (fun _ i _ => d.size - (intOf i).toNat)
          case atStart => exact ⟨0, Nat.zero_le _, rfl, by simp, rfl⟩
          case round =>
            obtain ⟨j, hj, rfl, hq, rfl⟩ := hrel
            have HQ := hide hq
            clear hq
            by_cases hlt : j < d.size
            · have KC := hide (digB_int d[j])
              have KS := hide (dig_snoc (l := d.data.toList) (k := j) (by simpa using hlt))
              have KA := hide (fun h => dig_take_false (l := d.data.toList) (k := j) (by simpa using hlt) h)
              have KE := hide (show d.data.toList[j]'(by simpa using hlt) = d[j] from rfl)
              by_cases hc : digB d[j] = true
              · have hc' := KC.out.1 hc
                have HC := hide hc
                obtain ⟨hc1, hc2⟩ := hc'
                clear hc
                go_wp2_with fail
                go_roundw
                case rel => exact ⟨j + 1, by omega, by go_num, by rw [KS.out, HQ.out, KE.out, HC.out]; rfl, trivial⟩
                case measure => simp [intOf]; omega
              · have hc' : ¬ (48 ≤ (d[j].toNat : Int) ∧ (d[j].toNat : Int) ≤ 57) := fun h => hc (KC.out.2 h)
                have hn : N = none := by rw [HN.out, dec_not 0 (KA.out (by rw [KE.out]; simpa using hc))]; rfl
                have HNN := hide hn
                clear hc hn
                by_cases hl : (d[j].toNat : Int) < 48
                · go_wp2_with fail
                  go_ret2
                  exact ⟨by rw [HNN.out]; rfl, Nx.refl _⟩
                · have hl2 : 57 < (d[j].toNat : Int) := by omega
                  clear hc'
                  go_wp2_with fail
                  go_ret2
                  exact ⟨by rw [HNN.out]; rfl, Nx.refl _⟩
            · have ej : j = d.size := by omega
              have hall : d.data.toList.all digB = true := by
                have h := HQ.out
                rw [ej, List.take_of_length_le (by rw [len_data]; exact Nat.le_refl _)] at h
                exact h
              obtain ⟨m, hm⟩ := dec_all 0 hall
              obtain ⟨v, hv⟩ : ∃ v, N = some v := ⟨_, by rw [HN.out, hm]; rfl⟩
              obtain ⟨ha, hsz⟩ := HNB.out v hv
              have HA := hide (w_Atoi s v hsz ha)
              have HV := hide hv
              clear hall hm hv ha hsz ej
              go_upto_region 11 with (go_at_call 134; refine (HA.out _).mono ?_; rintro e w3 ⟨rfl, hn3⟩)
              go_quiet (fail)
              go_wp2_with fail
              go_ret2
              exact ⟨by rw [HV.out]; rfl, hn3.drewN _⟩

def numsS (k : Nat) (l : List ByteArray) : Option (List Int) := numsL k (l.map (fun s => s.data.toList))
theorem numsS_nil (k : Nat) : numsS k [] = some [] := rfl
theorem numsS_cons (k : Nat) (s : ByteArray) (l : List ByteArray) : numsS k (s :: l) = (match numS k s, numsS k l with | some n, some ns => some (n :: ns) | _, _ => none) := rfl
theorem numsS_len {k : Nat} : ∀ {l : List ByteArray} {ns : List Int}, numsS k l = some ns → ns.length = l.length
  | [], ns, h => by injection h with h; subst h; rfl
  | s :: l, ns, h => by
    rw [numsS_cons] at h
    cases h1 : numS k s with
    | none => rw [h1] at h; cases h
    | some n =>
      cases h2 : numsS k l with
      | none => rw [h1, h2] at h; cases h
      | some ms =>
        rw [h1, h2] at h
        injection h with h
        subst h
        simp [numsS_len h2]
/-- What is read so far stands ahead of what is left. -/
theorem numsS_step {k : Nat} {l : List ByteArray} {j : Nat} (hj : j < l.length) (P : List Int) (h : numsS k l = (numsS k (l.drop j)).map (P ++ ·)) : numsS k l = (match numS k l[j] with | some n => (numsS k (l.drop (j + 1))).map ((P ++ [n]) ++ ·) | none => none) := by
  rw [h, List.drop_eq_getElem_cons hj, numsS_cons]
  cases numS k l[j] with
  | none => rfl
  | some n =>
    cases numsS k (l.drop (j + 1)) with
    | none => rfl
    | some ns => simp

set_option maxRecDepth 100000 in
set_option maxHeartbeats 2000000 in
theorem w_Numbers (lo : Nat) (A : Option Addr) (c : Nat) (l : List ByteArray) (k : Nat) (hk : k ≤ 17) (hl : l.length ≤ 1000) (hs : ∀ s ∈ l, s.size ≤ 1000000) (w : World) (hR : Rd w lo A 1 encS l) :
    Calls Tryz.prog 66 #[.slice A l.length c, .int .i64 (k : Int)] w fun e w' => ((numsS k l = none ∧ e = .returned (.tuple #[.slice none 0 0, .bool false])) ∨ ∃ (ns : List Int) (B : Option Addr) (d : Nat), numsS k l = some ns ∧ e = .returned (.tuple #[.slice B ns.length d, .bool true]) ∧ Rd w' w.heap.size B 1 encI ns) ∧ Nx w w' := by
  have HNUM := hide (fun (s : ByteArray) (h : s ∈ l) W => w_Number s k hk (hs s h) W)
  obtain ⟨n, hn⟩ : ∃ n, n = l.length := ⟨_, rfl⟩
  rw [← hn] at hl ⊢
  have HN := hide hn
  have HR := hide hR
  clear hs hR hn
  go_enter Tryz.func66, Tryz.ntmps66
  go_upto_region 3 with fail
  go_loopw [6, 8, 9, 10, 13] (fun v _ _ _ i wr => ∃ (j : Nat) (P : List Int), j ≤ n ∧ i = .int .i64 j ∧ P.length = j ∧ numsS k l = (numsS k (l.drop j)).map (P ++ ·) ∧ wr.ownsRow w.heap.size 3 1 v P.length (P.flatMap encI) ∧ Nx w wr) (fun _ _ _ _ i _ => n - (intOf i).toNat)
  case atStart => exact ⟨0, [], Nat.zero_le _, rfl, rfl, by simp, World.ownsRow_nil _ _ _ _, Nx.refl _⟩
  case round =>
    obtain ⟨j, P, hj, rfl, hP, hq, hown, hnx⟩ := hrel
    by_cases hlt : j < n
    · have hjl : j < l.length := by have := HN.out; omega
      have HST := hide (numsS_step hjl P hq)
      obtain ⟨b, off, rfl, _, hb, hbr, hc⟩ := HR.out.open_ hnx (by omega)
      have c0 : wr.cell? ⟨b, off + j, none⟩ = some (.string l[j]) := by have h := hc j hjl 0 _ rfl; simpa using h
      have HNU := hide (fun W => HNUM.out l[j] (List.getElem_mem hjl) W)
      generalize l[j] = s at *
      obtain ⟨A1, c1, ev, _, _⟩ := Rd.of_own encI_len rfl hown
      obtain rfl := ev
      have i1 : (0 : Int) ≤ (j : Int) := by omega
      have i2 : (j : Int) < (n : Int) := by omega
      have HOW := hide (show wr.ownsRow w.heap.size 3 1 (.slice A1 j c1) P.length (P.flatMap encI) from by
        have e9 : Value.slice A1 P.length c1 = Value.slice A1 j c1 := by rw [hP]
        rw [← e9]; exact hown)
      have HNX := hide hnx
      have hwz := hnx.sz
      clear hq hown hc hnx
      cases hN : numS k s with
      | none =>
        have HF := hide (show numsS k l = none by rw [HST.out, hN])
        have HNV : Hid (∀ W, Calls Tryz.prog 99 #[.string s, .int .i64 (k : Int)] W fun e w' => e = .returned (.tuple #[.int .i64 0, .bool false]) ∧ Nx W w') := hide (by have h := HNU.out; rw [hN] at h; exact h)
        clear hN HNU HST
        go_wp2_with (go_at_call 99; refine (HNV.out _).mono ?_; rintro e w3 ⟨rfl, hn3⟩)
        go_ret2
        exact ⟨.inl ⟨HF.out, rfl⟩, HNX.out.trans hn3⟩
      | some v =>
        have HF := hide (show numsS k l = (numsS k (l.drop (j + 1))).map ((P ++ [v]) ++ ·) by rw [HST.out, hN])
        have HNV : Hid (∀ W, Calls Tryz.prog 99 #[.string s, .int .i64 (k : Int)] W fun e w' => e = .returned (.tuple #[.int .i64 v, .bool true]) ∧ Nx W w') := hide (by have h := HNU.out; rw [hN] at h; exact h)
        clear hN HNU HST
        go_wp2_with (first
          | (go_at_call 99; refine (HNV.out _).mono ?_; rintro e w3 ⟨rfl, hn3⟩; (have HOW3 := hide (own_nx HOW.out hn3)); (have hwz3 := hn3.sz))
          | (at_builtin; refine wpApp rfl _ _ _ rfl el_Int encI encI_len encI_one (by omega) (by omega) w.heap.size _ P rfl (HOW3.out.alloc _) _ v _ rfl (hnew rfl) rfl (by omega) (by simp; omega) ?_; intro v2 w4 hown4 hg4))
        have hnx4 := ((HNX.out.trans hn3).alloc (.cells #[.int .i64 v] 3)).grown hg4 (fun m hm => by exact own_blk_lt HOW3.out m hm)
        go_roundw
        case rel => exact ⟨j + 1, P ++ [v], by omega, by go_num, by simp [hP], HF.out, hown4, hnx4⟩
        case measure => simp [intOf]; omega
    · have ej : j = n := by omega
      have hF : numsS k l = some P := by rw [hq, List.drop_of_length_le (by have := HN.out; omega), numsS_nil]; simp
      obtain ⟨A1, c1, ev, hR1, _⟩ := Rd.of_own encI_len rfl hown
      obtain rfl := ev
      have HF := hide hF
      have HR1 := hide hR1
      clear hq hF hown hR1 hP ej
      go_wp2_with fail
      go_ret2
      exact ⟨.inr ⟨P, A1, c1, HF.out, rfl, HR1.out⟩, hnx⟩
end Go.Proofs.YthlhomcgjgfdhaaGreatDoor
