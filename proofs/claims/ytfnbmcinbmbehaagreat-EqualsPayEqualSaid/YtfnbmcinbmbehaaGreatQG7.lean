/- Sorted keys: the program's check and the reference's. -/
import Derived.Test.YtfnbmcinbmbehaaGreatQKey
import Derived.Test.YtfnbmcinbmbehaaGreatQG1
import Derived.Test.YtfnbmcinbmbehaaGreatQG0
import Derived.Test.YtfnbmcinbmbehaaGreatQDivB
import Derived.Laws.OwnMore
import Derived.Laws.Bits64
import Derived.WalkKit
import Derived.IntWalk
import Derived.StillTailTactics
namespace Go.Proofs.YtfnbmcinbmbehaaGreat
open Go.RowKit

def Small (l : List ByteArray) : Prop := ∀ s ∈ l, s.size ≤ 1000000
theorem Small.at {l : List ByteArray} (h : Small l) (k : Nat) (hk : k < l.length) : l[k].size ≤ 1000000 := h _ (List.getElem_mem hk)

set_option maxHeartbeats 1000000 in
theorem w_keysFault (lo : Nat) (A : Option Addr) (c : Nat) (l : List ByteArray) (w : World) (hR : Rd w lo A 1 encS l) (hS : Small l) (hl : l.length ≤ 65536) :
    Calls Tryz.prog 39 #[.slice A l.length c] w fun e w' => e = .returned (.int .i64 (keysF l)) ∧ w = w' := by
  generalize hn : l.length = n at *
  have HR := hide hR
  have HN := hide hn
  have HS := hide hS
  clear hR hn hS
  by_cases hbig : 10 < n
  · go_enter Tryz.func39, Tryz.ntmps39
    go_wp2
    go_ret
    exact ⟨ret_int (by unfold keysF; rw [if_pos (by rw [HN.out]; exact hbig)]), rfl⟩
  · have HF := hide (show keysF l = chk strF none l by unfold keysF; rw [if_neg (by rw [HN.out]; exact hbig)]; rfl)
    go_enter Tryz.func39, Tryz.ntmps39
    go_wp2
    go_loop [2, 3, 4, 10] (fun _ _ _ i => ∃ k : Nat, k ≤ n ∧ i = .int .i64 k ∧ chk strF none l = chk strF (prevOf l k) (l.drop k)) (fun _ _ _ i => n - (intOf i).toNat)
    case atStart => exact ⟨0, Nat.zero_le _, rfl, rfl⟩
    case round =>
      obtain ⟨k, hk, rfl, hq⟩ := hrel
      have HQ := hide hq
      clear hq
      by_cases hlt : k < n
      · have hlt' : k < l.length := by have := HN.out; omega
        obtain ⟨b, off, rfl, _, hb, _, hc⟩ := HR.out.open_ (Nx.refl w) (by omega)
        have c0 : w.cell? ⟨b, off + k, none⟩ = some (.string l[k]) := by have := hc k hlt' 0 _ rfl; simpa using this
        have hsz := HS.out.at k hlt'
        have HC := hide hc
        clear hc
        have HD := hide (chk_drop strF l k hlt')
        cases hkb : keyB l[k]
        · have HV := hide (show strF (prevOf l k) l[k] = 5 by unfold strF; rw [hkb]; rfl)
          go_wp2_with (go_at_call 63; refine (w_Key _ _ hsz).mono ?_; rintro e w' ⟨rfl, rfl⟩)
          go_ret
          exact ⟨ret_int (by rw [HF.out, HQ.out, HD.out, HV.out]; rfl), rfl⟩
        · by_cases hk0 : 0 < k
          · have c4 : w.cell? ⟨b, off + (k - 1), none⟩ = some (.string (l[k - 1]'(by omega))) := by have := HC.out (k - 1) (by omega) 0 _ rfl; simpa using this
            have HV := hide (show strF (prevOf l k) l[k] = if strLe l[k] (l[k - 1]'(by omega)) then 7 else 0 by rw [prevOf_pos l k hk0 (by omega)]; unfold strF; rw [hkb]; rfl)
            generalize (l[k - 1]'(by omega)) = p0 at *
            have q1 : IntKind.i64.wrap ((k : Int) - 1) = (k : Int) - 1 := IntWalk.i64_in _ (by omega)
            have q2 : (1 : Int) ≤ (k : Int) := by omega
            have q3 : ((k : Int) - 1).toNat = k - 1 := by omega
            have q4 : (k : Int) - 1 < (n : Int) := by omega
            cases ho : strLe l[k] p0
            · have t1 : (Op.bytesLess l[k].toList p0.toList || l[k].toList == p0.toList) = false := ho
              have HO := hide ho
              clear ho
              go_wp2_with (go_at_call 63; refine (w_Key _ _ hsz).mono ?_; rintro e w' ⟨rfl, rfl⟩)
              go_round
              case rel => exact ⟨k + 1, by omega, by go_num, by rw [HQ.out, HD.out, HV.out, HO.out]; rfl⟩
              case measure => simp [intOf]; omega
            · have t1 : (Op.bytesLess l[k].toList p0.toList || l[k].toList == p0.toList) = true := ho
              have HO := hide ho
              clear ho
              go_wp2_with (go_at_call 63; refine (w_Key _ _ hsz).mono ?_; rintro e w' ⟨rfl, rfl⟩)
              go_ret
              exact ⟨ret_int (by rw [HF.out, HQ.out, HD.out, HV.out, HO.out]; rfl), rfl⟩
          · have HV := hide (show strF (prevOf l k) l[k] = 0 by have e : k = 0 := (by omega); subst e; rw [prevOf_zero]; unfold strF; rw [hkb]; rfl)
            have hd : decide (0 < k) = false := by simpa using hk0
            go_wp2_with (go_at_call 63; refine (w_Key _ _ hsz).mono ?_; rintro e w' ⟨rfl, rfl⟩)
            go_round
            case rel => exact ⟨k + 1, by omega, by go_num, by rw [HQ.out, HD.out, HV.out, if_pos rfl]⟩
            case measure => simp [intOf]; omega
      · go_wp2
        go_ret
        exact ⟨ret_int (by rw [HF.out, HQ.out, List.drop_of_length_le (by have := HN.out; omega)]; rfl), rfl⟩

end Go.Proofs.YtfnbmcinbmbehaaGreat
/- slices.ContainsFunc over numbers and dues, slices.EqualFunc of keys and dues: each for every function value that answers plainly. -/
namespace Go.Proofs.YtfnbmcinbmbehaaGreat
open Go.RowKit

def Enters (g : Nat) : Prop := ∀ args w, (callFunc g args).run Tryz.prog w = .ok (.enter g args) w

set_option maxHeartbeats 1000000 in
theorem w_IndexFI (g : Nat) (p : Int → Bool) (eg : Enters g) (hcl : ∀ x W, Calls Tryz.prog g #[.int .i64 x] W fun e w' => e = .returned (.bool (p x)) ∧ W = w')
    (lo : Nat) (A : Option Addr) (c : Nat) (l : List Int) (w : World) (hR : Rd w lo A 1 encI l) (hl : l.length ≤ 65536) :
    Calls Tryz.prog 64 #[.slice A l.length c, .func (.func g) #[] #[]] w fun e w' => ∃ r : Int, e = .returned (.int .i64 r) ∧ decide (0 ≤ r) = l.any p ∧ w = w' := by
  generalize hn : l.length = n at *
  have HR := hide hR
  have HN := hide hn
  have HC0 := hide hcl
  clear hR hn hcl
  unfold Enters at eg
  go_enter Tryz.func64, Tryz.ntmps64
  go_wp2
  go_loop [5, 8] (fun _ i => ∃ k : Nat, k ≤ n ∧ i = .int .i64 k ∧ (l.take k).any p = false) (fun _ i => n - (intOf i).toNat)
  case atStart => exact ⟨0, Nat.zero_le _, rfl, rfl⟩
  case round =>
    obtain ⟨k, hk, rfl, hq⟩ := hrel
    have HQ := hide hq
    clear hq
    by_cases hlt : k < n
    · have hlt' : k < l.length := by have := HN.out; omega
      obtain ⟨b, off, rfl, _, hb, _, hc⟩ := HR.out.open_ (Nx.refl w) (by omega)
      have c0 : w.cell? ⟨b, off + k, none⟩ = some (.int .i64 l[k]) := by have := hc k hlt' 0 _ rfl; simpa using this
      clear hc
      cases hbig : p l[k]
      · have HB := hide hbig
        have hcl := HC0.out l[k]
        rw [hbig] at hcl
        have HCL := hide hcl
        clear hbig hcl
        go_wp2_with (go_at_fn g; refine (HCL.out _).mono ?_; rintro e w2 ⟨rfl, rfl⟩)
        go_round
        case rel => exact ⟨k + 1, by omega, by go_num, by rw [List.take_succ_eq_append_getElem hlt', List.any_append, HQ.out]; simp [HB.out]⟩
        case measure => simp [intOf]; omega
      · have HB := hide hbig
        have hcl := HC0.out l[k]
        rw [hbig] at hcl
        have HCL := hide hcl
        clear hbig hcl
        go_wp2_with (go_at_fn g; refine (HCL.out _).mono ?_; rintro e w2 ⟨rfl, rfl⟩)
        go_ret
        refine ⟨_, rfl, ?_, rfl⟩
        rw [show l.any p = true from List.any_eq_true.2 ⟨l[k], List.getElem_mem hlt', HB.out⟩]
        simp
    · go_wp2
      go_ret
      refine ⟨_, rfl, ?_, rfl⟩
      have := HQ.out
      rw [List.take_of_length_le (by have := HN.out; omega)] at this
      rw [this]; rfl
theorem w_ContFI (g : Nat) (p : Int → Bool) (eg : Enters g) (hcl : ∀ x W, Calls Tryz.prog g #[.int .i64 x] W fun e w' => e = .returned (.bool (p x)) ∧ W = w')
    (lo : Nat) (A : Option Addr) (c : Nat) (l : List Int) (w : World) (hR : Rd w lo A 1 encI l) (hl : l.length ≤ 65536) :
    Calls Tryz.prog 40 #[.slice A l.length c, .func (.func g) #[] #[]] w fun e w' => e = .returned (.bool (l.any p)) ∧ w = w' := by
  have hcon := fun W => w_IndexFI g p eg hcl lo A c l W
  clear hcl eg
  go_enter Tryz.func40, Tryz.ntmps40
  go_wp2_with (go_at_call 64; refine (hcon _ hR hl).mono ?_; rintro e w2 ⟨r, rfl, hr, rfl⟩)
  go_ret
  exact ⟨rfl, rfl⟩

theorem eqS_iff (s t : ByteArray) : (s.toList == t.toList) = decide (s = t) := by
  rw [Bool.eq_iff_iff, beq_iff_eq, decide_eq_true_eq, Lib.toList_data, Lib.toList_data]
  constructor
  · intro h
    rcases s with ⟨⟨s⟩⟩
    rcases t with ⟨⟨t⟩⟩
    simp at h
    rw [h]
  · rintro rfl; rfl

/-- Cents told of a due. -/
def badD (d : Due) : Bool := outB d.cents (-maxCt) maxCt
theorem w_fairF1 (x : Int) (w : World) : Calls Tryz.prog 41 #[.int .i64 x] w fun e w' => e = .returned (.bool (centB x)) ∧ w = w' := by
  have H := hide (show centB x = outB x 0 maxCt from rfl)
  go_enter Tryz.func41, Tryz.ntmps41
  go_wp2_with (go_at_call 31; rw [show (1000000000 : Int) = maxCt from rfl]; refine (w_Out _ _ _ _).mono ?_; rintro e w' ⟨rfl, rfl⟩)
  go_ret
  exact ⟨ret_bool (by rw [H.out]), rfl⟩
theorem keys_step {l : List ByteArray} {ds : List Due} {k : Nat} (hl : l.length = ds.length) (hk : k < l.length) (h : l.take k = (ds.take k).map (·.key)) (he : l[k] = (ds[k]'(by omega)).key) : l.take (k + 1) = (ds.take (k + 1)).map (·.key) := by
  rw [List.take_succ_eq_append_getElem hk, List.take_succ_eq_append_getElem (by omega), List.map_append, h, he]; rfl
theorem keys_not {l : List ByteArray} {ds : List Due} {k : Nat} (hl : l.length = ds.length) (hk : k < l.length) (he : ¬ l[k] = (ds[k]'(by omega)).key) : ¬ l = ds.map (·.key) := by
  intro h
  apply he
  have : l[k]? = (ds.map (·.key))[k]? := by rw [← h]
  rw [List.getElem?_eq_getElem hk, List.getElem?_map, List.getElem?_eq_getElem (by omega)] at this
  simpa using this
theorem eg_of_fairF1 : Enters 41 := enters_of Tryz.func41 (by kernel_rfl) rfl
end Go.Proofs.YtfnbmcinbmbehaaGreat
/- What is wrong with costs and dues: the program's and the reference's words. -/
namespace Go.Proofs.YtfnbmcinbmbehaaGreat
open Go.RowKit

theorem centB_bd {n : Int} (h : centB n = false) : 0 ≤ n ∧ n ≤ 1000000000 := by have := outB_false.1 h; unfold maxCt at this; exact this
theorem pow_bd {n : Nat} (h : n ≤ 10) : 1 ≤ 2 ^ n ∧ 2 ^ n ≤ 1024 := by
  have h1 : 2 ^ n ≤ 2 ^ 10 := Nat.pow_le_pow_right (by omega) h
  have h2 : 0 < 2 ^ n := Nat.pow_pos (by omega)
  omega
theorem shl_pow {n : Nat} (h : n ≤ 10) : wrap64 ((2 : Int) ^ n) = ((2 ^ n : Nat) : Int) := by
  have h1 := pow_bd h
  have e : ((2 : Int) ^ n) = ((2 ^ n : Nat) : Int) := by rw [Int.natCast_pow]; rfl
  rw [e]
  generalize 2 ^ n = P at *
  unfold wrap64
  omega
theorem keysF_len {l : List ByteArray} (h : keysF l = 0) : l.length ≤ 10 := by
  rcases Nat.lt_or_ge 10 l.length with h1 | h1
  · unfold keysF at h; rw [if_pos h1] at h; omega
  · exact h1
theorem fairF_key {l : List ByteArray} {cs : List Int} (h : ¬ keysF l = 0) : fairF l cs = keysF l := by unfold fairF; rw [if_neg h]
theorem fairF_form {l : List ByteArray} {cs : List Int} (h : keysF l = 0) (h2 : ¬ cs.length = 2 ^ l.length) : fairF l cs = 3 := by unfold fairF; rw [if_pos h, if_neg h2]
theorem fairF_arg0 {l : List ByteArray} {cs : List Int} (h : keysF l = 0) (h2 : cs.length = 2 ^ l.length) (h3 : cs.getD 0 0 ≠ 0) : fairF l cs = 1 := by unfold fairF; rw [if_pos h, if_pos h2, if_pos (.inl h3)]
theorem fairF_arg1 {l : List ByteArray} {cs : List Int} (h : keysF l = 0) (h2 : cs.length = 2 ^ l.length) (h3 : cs.any centB = true) : fairF l cs = 1 := by unfold fairF; rw [if_pos h, if_pos h2, if_pos (.inr h3)]
theorem fairF_ok {l : List ByteArray} {cs : List Int} (h : keysF l = 0) (h2 : cs.length = 2 ^ l.length) (h3 : cs.getD 0 0 = 0) (h4 : cs.any centB = false) : fairF l cs = 0 := by
  unfold fairF; rw [if_pos h, if_pos h2, if_neg]; rintro (h5 | h5)
  · exact h5 h3
  · rw [h4] at h5; cases h5

set_option maxRecDepth 100000 in
set_option maxHeartbeats 1000000 in
theorem w_fairFault (lo lo' : Nat) (A B : Option Addr) (c c' : Nat) (l : List ByteArray) (cs : List Int) (w : World) (hR : Rd w lo A 1 encS l) (hS : Small l) (hC : Rd w lo' B 1 encI cs) (hl : l.length ≤ 65536) (hl' : cs.length ≤ 65536) :
    Calls Tryz.prog 15 #[.slice A l.length c, .slice B cs.length c'] w fun e w' => e = .returned (.int .i64 (fairF l cs)) ∧ w = w' := by
  have HK := hide (w_keysFault lo A c l w hR hS hl)
  have HC := hide (w_ContFI 41 centB eg_of_fairF1 w_fairF1 lo' B c' cs w hC hl')
  by_cases h0 : keysF l = 0
  · have HK0 := hide h0
    rw [h0] at HK
    have h10 := keysF_len h0
    have HL := hide (show l.length = l.length from rfl)
    have HM := hide (show cs.length = cs.length from rfl)
    clear hR hS h0
    by_cases hp : cs.length = 2 ^ l.length
    · have t1 : ((cs.length : Int) != wrap64 (2 ^ l.length)) = false := by rw [shl_pow h10, ← hp]; simp
      have hp1 : 1 ≤ cs.length := by rw [hp]; exact (pow_bd h10).1
      have HP := hide hp
      obtain ⟨b, off, rfl, _, hb, _, hc⟩ := hC.open_ (Nx.refl w) (by omega)
      have c0 : w.cell? ⟨b, off, none⟩ = some (.int .i64 cs[0]) := by have := hc 0 (by omega) 0 _ rfl; simpa using this
      have HG := hide (show cs.getD 0 0 = cs[0] from by rw [List.getD_eq_getElem?_getD, List.getElem?_eq_getElem (by omega)]; rfl)
      clear hc hC hp
      generalize cs[0] = z at *
      by_cases hz : z = 0
      · have HZ := hide hz
        have t2 : (z != 0) = false := by simpa using hz
        clear hz
        cases hB : cs.any centB
        · have HF := hide (fairF_ok HK0.out HP.out (by rw [HG.out, HZ.out]) hB)
          rw [hB] at HC
          generalize l.length = n at *
          generalize cs.length = m at *
          go_enter Tryz.func15, Tryz.ntmps15
          go_wp2_with (first
            | (go_at_call 39; refine (HK.out).mono ?_; rintro e w' ⟨rfl, rfl⟩)
            | (go_at_call 40; refine (HC.out).mono ?_; rintro e w' ⟨rfl, rfl⟩))
          go_ret
          exact ⟨ret_int (by rw [HF.out]), rfl⟩
        · have HF := hide (fairF_arg1 HK0.out HP.out hB)
          rw [hB] at HC
          generalize l.length = n at *
          generalize cs.length = m at *
          go_enter Tryz.func15, Tryz.ntmps15
          go_wp2_with (first
            | (go_at_call 39; refine (HK.out).mono ?_; rintro e w' ⟨rfl, rfl⟩)
            | (go_at_call 40; refine (HC.out).mono ?_; rintro e w' ⟨rfl, rfl⟩))
          go_ret
          exact ⟨ret_int (by rw [HF.out]), rfl⟩
      · have t2 : (z != 0) = true := by simpa using hz
        have HF := hide (fairF_arg0 (l := l) (cs := cs) HK0.out HP.out (by rw [HG.out]; exact hz))
        clear hz
        generalize l.length = n at *
        generalize cs.length = m at *
        go_enter Tryz.func15, Tryz.ntmps15
        go_wp2_with (go_at_call 39; refine (HK.out).mono ?_; rintro e w' ⟨rfl, rfl⟩)
        go_ret
        exact ⟨ret_int (by rw [HF.out]), rfl⟩
    · have t1 : ((cs.length : Int) != wrap64 (2 ^ l.length)) = true := by rw [shl_pow h10, bne_iff_ne]; exact fun h => hp (Int.ofNat_inj.1 h)
      have HF := hide (fairF_form (l := l) (cs := cs) HK0.out hp)
      clear hp hC
      generalize l.length = n at *
      generalize cs.length = m at *
      go_enter Tryz.func15, Tryz.ntmps15
      go_wp2_with (go_at_call 39; refine (HK.out).mono ?_; rintro e w' ⟨rfl, rfl⟩)
      go_ret
      exact ⟨ret_int (by rw [HF.out]), rfl⟩
  · have HF := hide (fairF_key (cs := cs) h0)
    have t1 : (keysF l != 0) = true := by simpa using h0
    clear hR hS h0 hC
    generalize l.length = n at *
    generalize cs.length = m at *
    go_enter Tryz.func15, Tryz.ntmps15
    go_wp2_with (go_at_call 39; refine (HK.out).mono ?_; rintro e w' ⟨rfl, rfl⟩)
    go_ret
    exact ⟨ret_int (by rw [HF.out]), rfl⟩

theorem duesF_form {l : List ByteArray} {ds : List Due} (h : ¬ l = ds.map (·.key)) : duesF l ds = 3 := by unfold duesF; rw [if_neg h]
theorem duesF_arg {l : List ByteArray} {ds : List Due} (h : l = ds.map (·.key)) (h2 : ds.any badD = true) : duesF l ds = 1 := by unfold duesF; rw [if_pos h, show (ds.any fun d => outB d.cents (-maxCt) maxCt) = true from h2]; rfl
theorem duesF_ok {l : List ByteArray} {ds : List Due} (h : l = ds.map (·.key)) (h2 : ds.any badD = false) : duesF l ds = 0 := by unfold duesF; rw [if_pos h, show (ds.any fun d => outB d.cents (-maxCt) maxCt) = false from h2]; rfl
end Go.Proofs.YtfnbmcinbmbehaaGreat
/- fare.Divide, whatever it is handed; what is wrong with parts; 'priced' answers true. -/
namespace Go.Proofs.YtfnbmcinbmbehaaGreat
open Go.RowKit Go.Sort Go.Proofs Go.Shelf

theorem partsF_cents {cents : Int} {parts : List Int} (h : centB cents = true) : partsF cents parts = 1 := by unfold partsF; rw [h]; rfl
theorem partsF_any {cents : Int} {parts : List Int} (h : centB cents = false) (h2 : parts.length < 20) (h3 : parts.any centB = true) : partsF cents parts = 1 := by
  unfold partsF; rw [h, h3]; simp; omega
theorem partsF_sum {cents : Int} {parts : List Int} (h : centB cents = false) (h2 : parts.length < 20) (h3 : parts.any centB = false) : partsF cents parts = if sumL parts = 0 then 8 else 0 := by
  unfold partsF; rw [h, h3]; simp; omega
theorem any_at {l : List Int} {p : Int → Bool} {k : Nat} (hk : k < l.length) (h : p l[k] = true) : l.any p = true := List.any_eq_true.2 ⟨_, List.getElem_mem hk, h⟩
theorem any_step {l : List Int} {p : Int → Bool} {k : Nat} (hk : k < l.length) (h : (l.take k).any p = false) (h2 : p l[k] = false) : (l.take (k + 1)).any p = false := by
  rw [List.take_succ_eq_append_getElem hk, List.any_append, h]; simp [h2]
theorem sum_right {l : List Int} (h : l.any centB = false) : 0 ≤ sumL l ∧ sumL l ≤ l.length * 1000000000 := by
  have := sumL_bd l 0 1000000000 (fun x hx => centB_bd (by
    cases h1 : centB x
    · rfl
    · exact absurd (List.any_eq_true.2 ⟨x, hx, h1⟩) (by rw [h]; simp)))
  omega
/-- Cents given out, or a fault. -/
def DivU (F cents : Int) (parts : List Int) (w : World) (e : Ending) (w' : World) : Prop :=
  ∃ (A : Option Addr) (c : Nat) (zs : List Int), e = .returned (.tuple #[.slice A zs.length c, .int .i64 F]) ∧ (F = 0 → Divided cents parts zs) ∧ (F ≠ 0 → zs = []) ∧ Rd w' w.heap.size A 1 encI zs ∧ Nx w w'
theorem DivU.no {F cents : Int} {parts : List Int} {w w' : World} (h : F ≠ 0) (hn : Nx w w') : DivU F cents parts w (.returned (.tuple #[.slice none 0 0, .int .i64 F])) w' := ⟨none, 0, [], rfl, fun h0 => absurd h0 h, fun _ => rfl, Rd.nil, hn⟩

set_option maxRecDepth 100000 in
set_option maxHeartbeats 1000000 in
theorem w_Divide (lo : Nat) (A : Option Addr) (c : Nat) (cents : Int) (parts : List Int) (w : World) (hR : Rd w lo A 1 encI parts) (hl : parts.length < 20) :
    Calls Tryz.prog 21 #[.int .i64 cents, .slice A parts.length c] w (DivU (partsF cents parts) cents parts w) := by
  cases hd : centB cents
  · have HD := hide hd
    have hcb := centB_bd hd
    have HPO := hide (fun h3 => partsF_sum (parts := parts) hd hl h3)
    have HPA := hide (fun h3 => partsF_any (parts := parts) hd hl h3)
    have HDB := hide (fun h3 h4 => w_DivideB lo A c cents parts w hR hl hcb h3 h4)
    generalize hn : parts.length = n at *
    have HR := hide hR
    have HN := hide hn
    unfold centB at hd
    clear hR hn
    go_enter Tryz.func21, Tryz.ntmps21
    go_wp2_with (go_at_call 31; first | (rw [show (1000000000 : Int) = maxCt from rfl]; refine (w_Out _ _ _ _).mono ?_; rintro e w' ⟨rfl, rfl⟩))
    go_loop [4, 5, 6, 8, 16] (fun _ _ s _ i => ∃ k : Nat, k ≤ n ∧ i = .int .i64 k ∧ s = .int .i64 (sumL (parts.take k)) ∧ (parts.take k).any centB = false) (fun _ _ _ _ i => n - (intOf i).toNat)
    case atStart => exact ⟨0, Nat.zero_le _, rfl, rfl, rfl⟩
    case round =>
      obtain ⟨k, hk, rfl, rfl, hq⟩ := hrel
      have hsb := sum_right hq
      have hkl : (parts.take k).length ≤ k := List.length_take_le _ _
      have HQ := hide hq
      clear hq
      by_cases hlt : k < n
      · have hlt' : k < parts.length := by have := HN.out; omega
        have HT := hide (sumL_take parts k hlt')
        obtain ⟨b, off, rfl, _, hb, _, hc⟩ := HR.out.open_ (Nx.refl w) (by omega)
        have c0 : w.cell? ⟨b, off + k, none⟩ = some (.int .i64 parts[k]) := by have := hc k hlt' 0 _ rfl; simpa using this
        clear hc
        cases hx : centB parts[k]
        · have HX := hide (any_step hlt' HQ.out hx)
          have hxb := centB_bd hx
          unfold centB at hx
          generalize sumL (parts.take k) = s at *
          go_wp2_with (go_at_call 31; first | (rw [show (1000000000 : Int) = maxCt from rfl]; refine (w_Out _ _ _ _).mono ?_; rintro e w' ⟨rfl, rfl⟩))
          go_round
          case rel => exact ⟨k + 1, by omega, by go_num, by rw [HT.out], HX.out⟩
          case measure => simp [intOf]; omega
        · have HF := hide (HPA.out (any_at hlt' hx))
          unfold centB at hx
          go_wp2_with (go_at_call 31; first | (rw [show (1000000000 : Int) = maxCt from rfl]; refine (w_Out _ _ _ _).mono ?_; rintro e w' ⟨rfl, rfl⟩))
          go_ret2
          rw [HF.out]
          exact DivU.no (by omega) (Nx.refl _)
      · have HK := hide (show parts.take k = parts from List.take_of_length_le (by have := HN.out; omega))
        rw [HK.out] at hsb HQ ⊢
        have HF := hide (HPO.out HQ.out)
        by_cases hz : sumL parts = 0
        · have t1 : (sumL parts == 0) = true := by simpa using hz
          have HZ := hide hz
          clear hz
          go_wp2_with fail
          go_ret2
          rw [HF.out, if_pos HZ.out]
          exact DivU.no (by omega) (Nx.refl _)
        · have t1 : (sumL parts == 0) = false := by simpa using hz
          have HZ := hide hz
          clear hz
          go_wp2_with (go_at_call 49; refine (HDB.out (fun p hp => centB_bd (by cases h1 : centB p; rfl; exact absurd (List.any_eq_true.2 ⟨p, hp, h1⟩) (by rw [HQ.out]; simp))) (by have := HZ.out; omega)).mono ?_; rintro e w2 ⟨A', c', zs, rfl, hdv, hR2, hn2⟩)
          go_ret2
          rw [HF.out, if_neg HZ.out]
          exact ⟨A', c', zs, rfl, fun _ => hdv, fun h => absurd rfl h, hR2, hn2⟩
  · have HF := hide (partsF_cents (parts := parts) hd)
    clear hR
    generalize parts.length = n at *
    unfold centB at hd
    go_enter Tryz.func21, Tryz.ntmps21
    go_wp2_with (go_at_call 31; first | (rw [show (1000000000 : Int) = maxCt from rfl]; refine (w_Out _ _ _ _).mono ?_; rintro e w' ⟨rfl, rfl⟩))
    go_ret2
    rw [HF.out]
    exact DivU.no (by omega) (Nx.refl _)

set_option maxRecDepth 100000 in
set_option maxHeartbeats 1000000 in
theorem w_EqualI (lo lo' : Nat) (A B : Option Addr) (c d : Nat) (l : List Int) (w : World) (hA : Rd w lo A 1 encI l) (hB : Rd w lo' B 1 encI l) (hl : l.length ≤ 65536) :
    Calls Tryz.prog 24 #[.slice A l.length c, .slice B l.length d] w fun e w' => e = .returned (.bool true) ∧ Nx w w' := by
  generalize hn : l.length = n at *
  have HA := hide hA
  have HB := hide hB
  have HN := hide hn
  clear hA hB hn
  go_enter Tryz.func24, Tryz.ntmps24
  go_wp2
  go_loopw [5, 13] (fun _ i wr => ∃ k : Nat, k ≤ n ∧ i = .int .i64 k ∧ Nx w wr) (fun _ i _ => n - (intOf i).toNat)
  case atStart => exact ⟨0, Nat.zero_le _, rfl, Nx.refl _⟩
  case round =>
    obtain ⟨k, hk, rfl, hbw⟩ := hrel
    by_cases hlt : k < n
    · have hlt' : k < l.length := by have := HN.out; omega
      obtain ⟨b, off, rfl, _, hb, hbr, hc⟩ := HA.out.open_ hbw (by omega)
      obtain ⟨b', off', rfl, _, hb', hbr', hc'⟩ := HB.out.open_ hbw (by omega)
      have c0 : wr.cell? ⟨b, off + k, none⟩ = some (.int .i64 l[k]) := by have := hc k hlt' 0 _ rfl; simpa using this
      have d0 : wr.cell? ⟨b', off' + k, none⟩ = some (.int .i64 l[k]) := by have := hc' k hlt' 0 _ rfl; simpa using this
      clear hc hc'
      have q1 : (0 : Int) ≤ (k : Int) := by omega
      have q2 : (k : Int) < (n : Int) := by omega
      go_wp2_with fail
      go_quiet (fail)
      go_wp2
      go_roundw
      case rel => exact ⟨k + 1, by omega, by go_num, hbw.drewN _⟩
      case measure => simp [intOf]; omega
    · go_wp2
      go_ret
      exact ⟨rfl, hbw⟩

end Go.Proofs.YtfnbmcinbmbehaaGreat
/- More words for memory, of no program: rows out of literals, prefixes of rows, rows that stay while others turn. -/
namespace Go.Proofs.YtfnbmcinbmbehaaGreat
open Go.RowKit

section
variable {α : Type} {w w' : World} {lo K : Nat} {A : Option Addr} {enc : α → List Value} {xs : List α}
/-- The first ones of a slice. -/
theorem Rd.take (h : Rd w lo A K enc xs) (n : Nat) : Rd w lo A K enc (xs.take n) := fun hp => by
  have hp' : 0 < xs.length := by rw [List.length_take] at hp; omega
  obtain ⟨b, off, e, h1, hb, hc⟩ := h hp'
  refine ⟨b, off, e, h1, hb, fun i x hx j u hu => hc i x ?_ j u hu⟩
  have hi : i < (xs.take n).length := (List.getElem?_eq_some_iff.1 hx).1
  rw [List.length_take] at hi
  rw [← hx, List.getElem?_take_of_lt (by omega)]
/-- A row of the call's own out of a literal: its first n elements. -/
theorem own_lit {e : TypeId} {g n m : Nat} {cs : Array Value} {base : Nat} (hk : ∀ x, (enc x).length = K) (hg : w.heap[g]? = some (.cells cs e (0, 0))) (hb : base ≤ g) (hcs : cs.toList = xs.flatMap enc) (hm : xs.length = m) (hn : n ≤ m) (hmax : m ≤ maxLen) :
    w.ownsRow base e K (.slice (some ⟨g, 0, none⟩) n m) n ((xs.take n).flatMap enc) := by
  have hl : (xs.take n).length = n := by rw [List.length_take]; omega
  refine ⟨by rw [flat_len hk, hl], .inr ⟨g, m, cs, rfl, hb, hg, hn, hmax, ?_, ?_⟩⟩
  · rw [← Array.length_toList, hcs, flat_len hk, hm]
  · rw [hcs]
    have e1 : xs.flatMap enc = (xs.take n).flatMap enc ++ (xs.drop n).flatMap enc := by rw [← List.flatMap_append, List.take_append_drop]
    rw [e1, List.take_append_of_le_length (by rw [flat_len hk, hl]; exact Nat.le_refl _), List.take_of_length_le (by rw [flat_len hk, hl]; exact Nat.le_refl _)]
end
end Go.Proofs.YtfnbmcinbmbehaaGreat
/- What is handed out: the reference's. -/
namespace Go.Proofs.YtfnbmcinbmbehaaGreat
open Go.RowKit Go.Sort Go.Proofs Go.Shelf

theorem run_make_ints (n : Nat) (hn : n ≤ 100000) (w : World) : (Instr.makeSlice 22 (.int .i64 (n : Int)) (.int .i64 (n : Int))).run Tryz.prog w = .ok (.slice (some ⟨w.heap.size, 0, none⟩) n n) (w.alloc (.cells (madeCells #[.int .i64 0] n) 3)) := by
  obtain ⟨i, h1, h2, h3, h4⟩ := info_parts (show (Tryz.prog.info? 3).map (fun i => (i.zero, i.size, i.bytes)) = some (some (.int .i64 0), 1, 8) by kernel_rfl)
  have h := run_make (P := Tryz.prog) w 22 3 i (.int .i64 0) Tryz.underlying22 h1 h2 .i64 .i64 (n : Int) (n : Int) (by omega) (by omega) (by rw [h4]; omega) (by omega)
  rw [h]
  simp [h3, Value.cells]
theorem made_ints (n : Nat) : (madeCells #[.int .i64 0] n).toList = (List.replicate n (0 : Int)).flatMap encI := by
  rw [toList_madeCells_one]
  induction n with
  | zero => rfl
  | succ n ih => rw [List.replicate_succ, List.replicate_succ, List.flatMap_cons, ih]; rfl
theorem own_made (w : World) (n base : Nat) (hn : n ≤ 100000) (hb : base ≤ w.heap.size) {Z : Array Value} (hZ : Z.toList = (List.replicate n (0 : Int)).flatMap encI) : (w.alloc (.cells Z 3)).ownsRow base 3 1 (.slice (some ⟨w.heap.size, 0, none⟩) n n) n ((List.replicate n (0 : Int)).flatMap encI) := by
  have := own_lit (w := w.alloc (.cells Z 3)) (e := 3) (g := w.heap.size) (n := n) (m := n) (base := base) (xs := List.replicate n (0 : Int)) encI_len (hnew rfl) hb hZ (by simp) (Nat.le_refl _) (by unfold maxLen; omega)
  rwa [List.take_of_length_le (by simp)] at this
/-- A list filled up to k, the rest 0. -/
def fillN (L : List Int) (k : Nat) : List Int := L.take k ++ List.replicate (L.length - k) 0
theorem fillN_len (L : List Int) (k : Nat) (hk : k ≤ L.length) : (fillN L k).length = L.length := by unfold fillN; simp; omega
theorem fillN_zero (L : List Int) : fillN L 0 = List.replicate L.length 0 := by simp [fillN]
theorem fillN_all (L : List Int) : fillN L L.length = L := by simp [fillN]
theorem fillN_set (L : List Int) (k : Nat) (hk : k < L.length) : (fillN L k).set k L[k] = fillN L (k + 1) := by
  unfold fillN
  obtain ⟨m, hm⟩ : ∃ m, L.length - k = m + 1 := ⟨L.length - k - 1, by omega⟩
  have hm2 : L.length - (k + 1) = m := by omega
  have hl : (L.take k).length = k := by rw [List.length_take]; omega
  rw [hm, hm2, List.replicate_succ, List.set_append_right _ _ (by omega), hl, Nat.sub_self, List.set_cons_zero, List.take_succ_eq_append_getElem hk, List.append_assoc]; rfl
/-- The first of the greatest of the first k. -/
structure FM (cs : List Int) (k b : Nat) : Prop where
  at_ : b < cs.length
  in_ : b < k ∨ (k = 0 ∧ b = 0)
  up : ∀ j, j < k → cs.getD j 0 < cs.getD b 0 ∨ (cs.getD j 0 = cs.getD b 0 ∧ b ≤ j)
theorem FM.start {cs : List Int} (h : 0 < cs.length) : FM cs 0 0 := ⟨h, .inr ⟨rfl, rfl⟩, fun j hj => by omega⟩
theorem FM.more {cs : List Int} {k b : Nat} (h : FM cs k b) (hk : k < cs.length) (hlt : cs.getD b 0 < cs.getD k 0) : FM cs (k + 1) k :=
  ⟨hk, .inl (by omega), fun j hj => by
    rcases Nat.lt_or_ge j k with h1 | h1
    · have := h.up j h1; omega
    · have e : j = k := by omega
      subst e; exact .inr ⟨rfl, Nat.le_refl _⟩⟩
theorem FM.same {cs : List Int} {k b : Nat} (h : FM cs k b) (hlt : ¬ cs.getD b 0 < cs.getD k 0) : FM cs (k + 1) b :=
  ⟨h.at_, .inl (by have := h.in_; omega), fun j hj => by
    rcases Nat.lt_or_ge j k with h1 | h1
    · exact h.up j h1
    · have e : j = k := by omega
      subst e
      have := h.in_
      omega⟩
theorem FM.done {cs : List Int} {b : Nat} (h : FM cs cs.length b) : FirstMax cs b := ⟨h.at_, h.up⟩
theorem getD_at {l : List Int} {k : Nat} (h : k < l.length) : l.getD k 0 = l[k] := by rw [List.getD_eq_getElem?_getD, List.getElem?_eq_getElem h]; rfl

end Go.Proofs.YtfnbmcinbmbehaaGreat
/- Bits of small numbers, in the walk's spelling. -/
namespace Go.Proofs.YtfnbmcinbmbehaaGreat
open Go

theorem bits_and_i64 (a b : Nat) (ha : a < 4294967296) (hb : b < 4294967296) : bits .and .i64 (a : Int) (b : Int) = ((a &&& b : Nat) : Int) := by
  have hx : a &&& b < 2 ^ 32 := Nat.and_lt_two_pow _ (by omega)
  have h1 : (BitVec.ofInt 64 (a : Int)).toNat = a := by
    rw [BitVec.ofInt_natCast, BitVec.toNat_ofNat]; exact Nat.mod_eq_of_lt (by omega)
  have h2 : (BitVec.ofInt 64 (b : Int)).toNat = b := by
    rw [BitVec.ofInt_natCast, BitVec.toNat_ofNat]; exact Nat.mod_eq_of_lt (by omega)
  show IntKind.i64.wrap ((BitVec.ofInt 64 (a : Int) &&& BitVec.ofInt 64 (b : Int)).toNat : Int) = _
  rw [BitVec.toNat_and, h1, h2, IntKind.wrap_i64]
  omega
theorem bits_or_i64 (a b : Nat) (ha : a < 4294967296) (hb : b < 4294967296) : bits .or .i64 (a : Int) (b : Int) = ((a ||| b : Nat) : Int) := by
  have hx : a ||| b < 2 ^ 32 := Nat.or_lt_two_pow (by omega) (by omega)
  have h1 : (BitVec.ofInt 64 (a : Int)).toNat = a := by
    rw [BitVec.ofInt_natCast, BitVec.toNat_ofNat]; exact Nat.mod_eq_of_lt (by omega)
  have h2 : (BitVec.ofInt 64 (b : Int)).toNat = b := by
    rw [BitVec.ofInt_natCast, BitVec.toNat_ofNat]; exact Nat.mod_eq_of_lt (by omega)
  show IntKind.i64.wrap ((BitVec.ofInt 64 (a : Int) ||| BitVec.ofInt 64 (b : Int)).toNat : Int) = _
  rw [BitVec.toNat_or, h1, h2, IntKind.wrap_i64]
  omega
theorem div_pow (g i : Nat) : (g : Int) / 2 ^ i = ((g / 2 ^ i : Nat) : Int) := by
  rw [Int.natCast_ediv, Int.natCast_pow]; rfl
theorem bit_le (g i : Nat) : bitN g i = 0 ∨ bitN g i = 1 := by unfold bitN; omega
theorem and_bit (g i : Nat) (hg : g < 4294967296) : bits .and .i64 ((g : Int) / 2 ^ i) 1 = ((bitN g i : Nat) : Int) := by
  rw [div_pow]
  have h : g / 2 ^ i < 4294967296 := Nat.lt_of_le_of_lt (Nat.div_le_self _ _) hg
  have := bits_and_i64 (g / 2 ^ i) 1 h (by omega)
  rw [Nat.and_one_is_mod] at this
  exact this
theorem mod_bit (g i : Nat) : ((g : Int) / 2 ^ i) % 2 = ((bitN g i : Nat) : Int) := by
  rw [div_pow]; unfold bitN; omega
theorem tmod_bit (g i : Nat) : ((g : Int) / 2 ^ i).tmod 2 = ((bitN g i : Nat) : Int) := by
  rw [div_pow]
  unfold bitN
  generalize g / 2 ^ i = z
  rw [Int.tmod_eq_emod_of_nonneg (by omega)]
  omega
theorem or_small : ∀ (g : Fin 64) (i : Fin 6), bitN g.val i.val = 0 → (g.val ||| 2 ^ i.val) = g.val + 2 ^ i.val := by decide +kernel
theorem or_bit (g i : Nat) (hg : g < 64) (hi : i < 6) (h0 : bitN g i = 0) : bits .or .i64 (g : Int) (2 ^ i) = ((g + 2 ^ i : Nat) : Int) := by
  have hp : 2 ^ i < 64 := by
    have : 2 ^ i ≤ 2 ^ 5 := Nat.pow_le_pow_right (by omega) (by omega)
    omega
  have e : ((2 : Int) ^ i) = ((2 ^ i : Nat) : Int) := by rw [Int.natCast_pow]; rfl
  rw [e, bits_or_i64 g (2 ^ i) (by omega) (by omega), or_small ⟨g, hg⟩ ⟨i, hi⟩ h0]
theorem add_lt_small : ∀ (n : Fin 7) (g : Fin 64) (i : Fin 6), g.val < 2 ^ n.val → i.val < n.val → bitN g.val i.val = 0 → g.val + 2 ^ i.val < 2 ^ n.val := by decide +kernel
theorem szN_small : ∀ (n : Fin 7) (g : Fin 64) (i : Fin 6), i.val < n.val → bitN g.val i.val = 0 → szN n.val g.val + 1 ≤ n.val := by decide +kernel
theorem szN_le (n g : Nat) : szN n g ≤ n := by
  induction n with
  | zero => simp [szN]
  | succ n ih => have := bit_le g n; simp only [szN]; omega
end Go.Proofs.YtfnbmcinbmbehaaGreat
/- Groups that would pay less alone. -/
namespace Go.Proofs.YtfnbmcinbmbehaaGreat
open Go.RowKit Go.Sort Go.Proofs Go.Shelf

theorem el_S : ElemOf Tryz.prog 31 9 1 16 := ElemOf.mk' (z := .string ByteArray.empty) Tryz.underlying31 (by kernel_rfl) rfl
theorem encS_len (x : ByteArray) : (encS x).length = 1 := rfl
theorem encS_one (x : ByteArray) : ∀ v ∈ encS x, v.oneCell' = true := by
  intro v hv; simp [encS] at hv; subst hv; rfl
theorem sumG_bd (cs : List Int) (hc : ∀ x ∈ cs, -1000000000 ≤ x ∧ x ≤ 1000000000) (g k : Nat) : -(k * 1000000000 : Int) ≤ sumG cs g k ∧ sumG cs g k ≤ k * 1000000000 := by
  induction k with
  | zero => simp [sumG]
  | succ k ih =>
    have h : -1000000000 ≤ cs.getD k 0 ∧ cs.getD k 0 ≤ 1000000000 := by
      rw [List.getD_eq_getElem?_getD]
      cases h : cs[k]? with
      | none => simp
      | some x => exact hc x (List.mem_of_getElem? h)
    have e : ((k + 1 : Nat) : Int) = (k : Int) + 1 := by omega
    simp only [sumG]
    split <;> omega
theorem whoTo_len (rides : List ByteArray) (g k : Nat) : (whoTo rides g k).length ≤ k := by
  induction k with
  | zero => exact Nat.le_refl _
  | succ k ih =>
    simp only [whoTo]
    split
    · rw [List.length_append]; simp; omega
    · omega
theorem gainL_drop (rides : List ByteArray) (ct cs : List Int) (m g : Nat) (hg : g < m) : gainL rides ct cs ((List.range m).drop g) = if cs.getD g 0 < sumG ct g rides.length then whoTo rides g rides.length else gainL rides ct cs ((List.range m).drop (g + 1)) := by
  rw [List.drop_eq_getElem_cons (by simpa using hg)]
  simp [gainL]
/-- The first group that would pay less. -/
def gainV (rides : List ByteArray) (cs : List Int) (ds : List Due) : List ByteArray := gainL rides (ds.map (·.cents)) cs (List.range (2 ^ rides.length))
/-- Keys, or a fault. -/
def KeysU (F : Int) (who : List ByteArray) (w : World) (e : Ending) (w' : World) : Prop :=
  ∃ (A : Option Addr) (c : Nat) (zs : List ByteArray), e = .returned (.tuple #[.slice A zs.length c, .int .i64 F]) ∧ zs = (if F = 0 then who else []) ∧ Rd w' w.heap.size A 1 encS zs ∧ Nx w w'
theorem KeysU.no {F : Int} {who : List ByteArray} {w w' : World} (h : F ≠ 0) (hn : Nx w w') : KeysU F who w (.returned (.tuple #[.slice none 0 0, .int .i64 F])) w' := ⟨none, 0, [], rfl, by rw [if_neg h], Rd.nil, hn⟩

theorem duesF_right {l : List ByteArray} {ds : List Due} (h : duesF l ds = 0) : l = ds.map (·.key) ∧ ds.any badD = false := by
  unfold duesF at h
  by_cases h1 : l = ds.map (·.key)
  · rw [if_pos h1] at h
    cases h2 : ds.any badD
    · exact ⟨h1, rfl⟩
    · rw [show (ds.any fun d => outB d.cents (-maxCt) maxCt) = true from h2] at h; simp at h
  · rw [if_neg h1] at h; omega
theorem fairF_right {l : List ByteArray} {cs : List Int} (h : fairF l cs = 0) : l.length ≤ 10 ∧ cs.length = 2 ^ l.length ∧ cs.getD 0 0 = 0 ∧ ∀ x ∈ cs, 0 ≤ x ∧ x ≤ 1000000000 := by
  unfold fairF at h
  by_cases h1 : keysF l = 0
  · rw [if_pos h1] at h
    by_cases h2 : cs.length = 2 ^ l.length
    · rw [if_pos h2] at h
      by_cases h3 : cs.getD 0 0 ≠ 0 ∨ cs.any centB = true
      · rw [if_pos h3] at h; omega
      · refine ⟨keysF_len h1, h2, Classical.byContradiction fun h4 => h3 (.inl h4), fun x hx => centB_bd ?_⟩
        cases h5 : centB x
        · rfl
        · exact absurd (.inr (List.any_eq_true.2 ⟨x, hx, h5⟩)) h3
    · rw [if_neg h2] at h; omega
  · rw [if_neg h1] at h; exact absurd h h1
theorem badD_bd {ds : List Due} (h : ds.any badD = false) : ∀ x ∈ ds.map (·.cents), -1000000000 ≤ x ∧ x ≤ 1000000000 := by
  intro x hx
  obtain ⟨d, hd, rfl⟩ := List.mem_map.1 hx
  have : badD d = false := by
    cases h1 : badD d
    · rfl
    · exact absurd (List.any_eq_true.2 ⟨d, hd, h1⟩) (by rw [h]; simp)
  have := outB_false.1 this
  unfold maxCt at this
  exact this

theorem bit_zero (i : Nat) : bitN 0 i = 0 := by unfold bitN; simp
theorem sumG_zero (cs : List Int) (k : Nat) : sumG cs 0 k = 0 := by
  induction k with
  | zero => rfl
  | succ k ih => simp only [sumG]; rw [bit_zero, if_neg (by omega), ih]
end Go.Proofs.YtfnbmcinbmbehaaGreat
/- A whole shared fairly: the reference's. -/
namespace Go.Proofs.YtfnbmcinbmbehaaGreat
open Go.RowKit Go.Sort Go.Proofs Go.Shelf

def factL (k : Nat) : List Int := (List.range k).map (fun j => ((factN j : Nat) : Int))
theorem factL_len (k : Nat) : (factL k).length = k := by simp [factL]
theorem factL_snoc (k : Nat) : factL (k + 1) = factL k ++ [((factN k : Nat) : Int)] := by unfold factL; rw [List.range_succ, List.map_append]; rfl
theorem factL_get (k j : Nat) (h : j < (factL k).length) : (factL k)[j] = ((factN j : Nat) : Int) := by simp [factL]
theorem factN_bd : ∀ j : Fin 8, 1 ≤ factN j.val ∧ factN j.val ≤ 5040 := by decide
theorem fact_bd (j : Nat) (h : j ≤ 7) : 1 ≤ factN j ∧ factN j ≤ 5040 := factN_bd ⟨j, by omega⟩
theorem w_small : ∀ (n : Fin 7) (s : Fin 7), s.val + 1 ≤ n.val → factN s.val * factN (n.val - 1 - s.val) ≤ 120 := by decide
theorem wN_bd (n g : Nat) (hn : n ≤ 6) (hs : szN n g + 1 ≤ n) : wN n g ≤ 120 := by
  unfold wN
  exact w_small ⟨n, by omega⟩ ⟨szN n g, by omega⟩ hs
theorem getD_bd {cs : List Int} (h : ∀ x ∈ cs, 0 ≤ x ∧ x ≤ 1000000000) (k : Nat) : 0 ≤ cs.getD k 0 ∧ cs.getD k 0 ≤ 1000000000 := by
  rw [List.getD_eq_getElem?_getD]
  cases h1 : cs[k]? with
  | none => simp
  | some x => exact h x (List.mem_of_getElem? h1)
theorem szN_at (n g i : Nat) (hn : n ≤ 6) (hg : g < 64) (hi : i < n) (h0 : bitN g i = 0) : szN n g + 1 ≤ n := szN_small ⟨n, by omega⟩ ⟨g, hg⟩ ⟨i, by omega⟩ hi h0
theorem term_bd (n : Nat) (hn : n ≤ 6) (cs : List Int) (h : ∀ x ∈ cs, 0 ≤ x ∧ x ≤ 1000000000) (g i : Nat) (hg : g < 64) (hi : i < n) : -120000000000 ≤ term n cs g i ∧ term n cs g i ≤ 120000000000 := by
  unfold term
  by_cases h0 : bitN g i = 0
  · rw [if_pos h0]
    have h1 := wN_bd n g hn (szN_at n g i hn hg hi h0)
    have h2 := getD_bd h (g + 2 ^ i)
    have h3 := getD_bd h g
    generalize cs.getD (g + 2 ^ i) 0 = a at *
    generalize cs.getD g 0 = b at *
    generalize wN n g = W at *
    have h4 : (W : Int) * (a - b) ≤ W * 1000000000 := Int.mul_le_mul_of_nonneg_left (by omega) (by omega)
    have h5 : (W : Int) * (-1000000000) ≤ W * (a - b) := Int.mul_le_mul_of_nonneg_left (by omega) (by omega)
    omega
  · rw [if_neg h0]; omega
theorem numTo_bd (n : Nat) (hn : n ≤ 6) (cs : List Int) (h : ∀ x ∈ cs, 0 ≤ x ∧ x ≤ 1000000000) (g i : Nat) (hg : g ≤ 64) (hi : i < n) : -(g * 120000000000 : Int) ≤ numTo n cs g i ∧ numTo n cs g i ≤ g * 120000000000 := by
  induction g with
  | zero => simp [numTo]
  | succ g ih =>
    have h1 := ih (by omega)
    have h2 := term_bd n hn cs h g i (by omega) hi
    simp only [numTo]
    omega
theorem numsF_len (n : Nat) (cs : List Int) (g : Nat) : (numsF n cs g).length = n := by simp [numsF]
theorem numsF_get (n : Nat) (cs : List Int) (g i : Nat) (h : i < (numsF n cs g).length) : (numsF n cs g)[i] = numTo n cs g i := by simp [numsF]
theorem set_self {L : List Int} {k : Nat} (hk : k < L.length) {x : Int} (h : L[k] = x) : L.set k x = L := by
  apply List.ext_getElem
  · simp
  · intro i h1 h2
    rw [List.getElem_set]
    split
    · rename_i e; subst e; exact h.symm
    · rfl
theorem fillN_at (L : List Int) (k : Nat) (hk : k < L.length) : (fillN L k)[k]'(by rw [fillN_len _ _ (by omega)]; exact hk) = 0 := by
  have hl : (L.take k).length = k := by rw [List.length_take]; omega
  unfold fillN
  rw [List.getElem_append_right (by omega)]
  simp

theorem el_Due : ElemOf Tryz.prog 27 33 2 24 := ElemOf.mk' (z := .agg #[.string ByteArray.empty, .int .i64 0]) Tryz.underlying27 (by kernel_rfl) rfl
theorem encDue_len (x : Due) : (encDue x).length = 2 := rfl
theorem encDue_one (x : Due) : ∀ v ∈ encDue x, v.oneCell' = true := by
  intro v hv; simp [encDue] at hv; rcases hv with rfl | rfl <;> rfl
theorem run_make_dues (n : Nat) (hn : n ≤ 100000) (w : World) : (Instr.makeSlice 27 (.int .i64 (n : Int)) (.int .i64 (n : Int))).run Tryz.prog w = .ok (.slice (some ⟨w.heap.size, 0, none⟩) n n) (w.alloc (.cells (madeCells #[.string ByteArray.empty, .int .i64 0] (n * 2)) 33)) := by
  obtain ⟨i, h1, h2, h3, h4⟩ := info_parts (show (Tryz.prog.info? 33).map (fun i => (i.zero, i.size, i.bytes)) = some (some (.agg #[.string ByteArray.empty, .int .i64 0]), 2, 24) by kernel_rfl)
  have h := run_make (P := Tryz.prog) w 27 33 i (.agg #[.string ByteArray.empty, .int .i64 0]) Tryz.underlying27 h1 h2 .i64 .i64 (n : Int) (n : Int) (by omega) (by omega) (by rw [h4]; omega) (by omega)
  rw [h]
  simp [h3, Value.cells]
theorem made_dues (n : Nat) : (madeCells #[.string ByteArray.empty, .int .i64 0] (n * 2)).toList = (List.replicate n (⟨ByteArray.empty, 0⟩ : Due)).flatMap encDue := by
  apply List.ext_getElem?
  intro j
  by_cases hj : j < n * 2
  · have h1 : (madeCells #[.string ByteArray.empty, .int .i64 0] (n * 2)).toList[j]? = some (#[Value.string ByteArray.empty, .int .i64 0][j % 2]!) := by
      simp [madeCells, hj]
    have h2 : (List.replicate n (⟨ByteArray.empty, 0⟩ : Due))[j / 2]? = some ⟨ByteArray.empty, 0⟩ := by
      rw [List.getElem?_replicate, if_pos (by omega)]
    have hm : j % 2 = 0 ∨ j % 2 = 1 := by omega
    have e : j / 2 * 2 + j % 2 = j := by omega
    rcases hm with hm | hm
    · have := flat_get (xs := List.replicate n (⟨ByteArray.empty, 0⟩ : Due)) encDue_len (j / 2) _ h2 (j % 2) (.string ByteArray.empty) (by rw [hm]; rfl)
      rw [e] at this
      rw [h1, this, hm]; rfl
    · have := flat_get (xs := List.replicate n (⟨ByteArray.empty, 0⟩ : Due)) encDue_len (j / 2) _ h2 (j % 2) (.int .i64 0) (by rw [hm]; rfl)
      rw [e] at this
      rw [h1, this, hm]; rfl
  · rw [List.getElem?_eq_none (by simp [madeCells]; omega), List.getElem?_eq_none (by rw [flat_len encDue_len]; simp; omega)]
theorem own_madeD (w : World) (n base : Nat) (hn : n ≤ 100000) (hb : base ≤ w.heap.size) {Z : Array Value} (hZ : Z.toList = (List.replicate n (⟨ByteArray.empty, 0⟩ : Due)).flatMap encDue) : (w.alloc (.cells Z 33)).ownsRow base 33 2 (.slice (some ⟨w.heap.size, 0, none⟩) n n) n ((List.replicate n (⟨ByteArray.empty, 0⟩ : Due)).flatMap encDue) := by
  have := own_lit (w := w.alloc (.cells Z 33)) (e := 33) (g := w.heap.size) (n := n) (m := n) (base := base) (xs := List.replicate n (⟨ByteArray.empty, 0⟩ : Due)) encDue_len (hnew rfl) hb hZ (by simp) (Nat.le_refl _) (by unfold maxLen; omega)
  rwa [List.take_of_length_le (by simp)] at this
theorem Nx.cellS {a w : World} (h : Nx a w) {p : Addr} {v : Value} (hc : a.cell? p = some v) : w.cell? p = some v :=
  (Below.cell h (World.block_lt_of_cell? a _ hc)).trans hc
section
variable {α : Type}
/-- A list filled up to k, the rest d. -/
def fillG (d : α) (L : List α) (k : Nat) : List α := L.take k ++ List.replicate (L.length - k) d
theorem fillG_len (d : α) (L : List α) (k : Nat) (hk : k ≤ L.length) : (fillG d L k).length = L.length := by unfold fillG; simp; omega
theorem fillG_zero (d : α) (L : List α) : fillG d L 0 = List.replicate L.length d := by simp [fillG]
theorem fillG_all (d : α) (L : List α) : fillG d L L.length = L := by simp [fillG]
theorem fillG_set (d : α) (L : List α) (k : Nat) (hk : k < L.length) : (fillG d L k).set k L[k] = fillG d L (k + 1) := by
  unfold fillG
  obtain ⟨m, hm⟩ : ∃ m, L.length - k = m + 1 := ⟨L.length - k - 1, by omega⟩
  have hm2 : L.length - (k + 1) = m := by omega
  have hl : (L.take k).length = k := by rw [List.length_take]; omega
  rw [hm, hm2, List.replicate_succ, List.set_append_right _ _ (by omega), hl, Nat.sub_self, List.set_cons_zero, List.take_succ_eq_append_getElem hk, List.append_assoc]; rfl
theorem rd_own {w : World} {base g cap n K : Nat} {e : TypeId} {enc : α → List Value} {xs : List α} (hk : ∀ x, (enc x).length = K) (hn : xs.length = n) (h : w.ownsRow base e K (.slice (some ⟨g, 0, none⟩) n cap) n (xs.flatMap enc)) : Rd w base (some ⟨g, 0, none⟩) K enc xs := by
  obtain ⟨A, c, ev, hR, _⟩ := Rd.of_own hk hn.symm h
  injection ev with e1 _ _
  rw [e1]; exact hR
end
end Go.Proofs.YtfnbmcinbmbehaaGreat
