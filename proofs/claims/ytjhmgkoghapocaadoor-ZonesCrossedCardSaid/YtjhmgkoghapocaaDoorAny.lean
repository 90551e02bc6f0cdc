/- slices.ContainsFunc over numbers and dues, slices.EqualFunc of keys and dues: each for every function value that answers plainly. -/
import Derived.Test.YtjhmgkoghapocaaDoorRis
namespace Go.Proofs.YtjhmgkoghapocaaDoor
open Go.RowKit

def Enters (g : Nat) : Prop := ∀ args w, (callFunc g args).run Tryd.prog w = .ok (.enter g args) w

set_option maxHeartbeats 1000000 in
theorem w_IndexFI (g : Nat) (p : Int → Bool) (eg : Enters g) (hcl : ∀ x W, Calls Tryd.prog g #[.int .i64 x] W fun e w' => e = .returned (.bool (p x)) ∧ W = w')
    (lo : Nat) (A : Option Addr) (c : Nat) (l : List Int) (w : World) (hR : Rd w lo A 1 encI l) (hl : l.length ≤ 65536) :
    Calls Tryd.prog 83 #[.slice A l.length c, .func (.func g) #[] #[]] w fun e w' => ∃ r : Int, e = .returned (.int .i64 r) ∧ decide (0 ≤ r) = l.any p ∧ w = w' := by
  generalize hn : l.length = n at *
  have HR := hide hR
  have HN := hide hn
  have HC0 := hide hcl
  clear hR hn hcl
  unfold Enters at eg
  go_enter Tryd.func83, Tryd.ntmps83
  go_wp2
  go_loop [5, 8] (fun _ i => ∃ k : Nat, k ≤ n ∧ i = .int .i64 k ∧ (l.take k).any p = false) (fun _ i => n - (intOf i).toNat)
  case atStart => exact ⟨0, Nat.zero_le _, rfl, rfl⟩
  case round =>
    obtain ⟨k, hk, rfl, hq⟩ := hrel
    have HQ := hide hq
    clear hq
    by_cases hlt : k < n
    · have hlt' : k < l.length := by have := HN.out; omega
      obtain ⟨b, off, rfl, _, hb, _, hc⟩ := HR.out.open_ (Nx.refl w) (by omega)
      have c0 : w.cell? ⟨b, off + k, none⟩ = some (.int .i64 l[k]) := by have := hc k hlt' 0 _ rfl; simpa using this
      clear hc
      cases hbig : p l[k]
      · have HB := hide hbig
        have hcl := HC0.out l[k]
        rw [hbig] at hcl
        have HCL := hide hcl
        clear hbig hcl
        go_wp2_with (go_at_fn g; refine (HCL.out _).mono ?_; rintro e w2 ⟨rfl, rfl⟩)
        go_round
        case rel => exact ⟨k + 1, by omega, by go_num, by rw [List.take_succ_eq_append_getElem hlt', List.any_append, HQ.out]; simp [HB.out]⟩
        case measure => simp [intOf]; omega
      · have HB := hide hbig
        have hcl := HC0.out l[k]
        rw [hbig] at hcl
        have HCL := hide hcl
        clear hbig hcl
        go_wp2_with (go_at_fn g; refine (HCL.out _).mono ?_; rintro e w2 ⟨rfl, rfl⟩)
        go_ret
        refine ⟨_, rfl, ?_, rfl⟩
        rw [show l.any p = true from List.any_eq_true.2 ⟨l[k], List.getElem_mem hlt', HB.out⟩]
        simp
    · go_wp2
      go_ret
      refine ⟨_, rfl, ?_, rfl⟩
      have := HQ.out
      rw [List.take_of_length_le (by have := HN.out; omega)] at this
      rw [this]; rfl
theorem w_ContFI (g : Nat) (p : Int → Bool) (eg : Enters g) (hcl : ∀ x W, Calls Tryd.prog g #[.int .i64 x] W fun e w' => e = .returned (.bool (p x)) ∧ W = w')
    (lo : Nat) (A : Option Addr) (c : Nat) (l : List Int) (w : World) (hR : Rd w lo A 1 encI l) (hl : l.length ≤ 65536) :
    Calls Tryd.prog 52 #[.slice A l.length c, .func (.func g) #[] #[]] w fun e w' => e = .returned (.bool (l.any p)) ∧ w = w' := by
  have hcon := fun W => w_IndexFI g p eg hcl lo A c l W
  clear hcl eg
  go_enter Tryd.func52, Tryd.ntmps52
  go_wp2_with (go_at_call 83; refine (hcon _ hR hl).mono ?_; rintro e w2 ⟨r, rfl, hr, rfl⟩)
  go_ret
  exact ⟨rfl, rfl⟩

set_option maxHeartbeats 1000000 in
theorem w_IndexFD (g : Nat) (p : Due → Bool) (eg : Enters g) (hcl : ∀ (d : Due) W, Calls Tryd.prog g #[.agg #[.string d.key, .int .i64 d.cents]] W fun e w' => e = .returned (.bool (p d)) ∧ Nx W w')
    (lo : Nat) (A : Option Addr) (c : Nat) (l : List Due) (w : World) (hR : Rd w lo A 2 encDue l) (hl : l.length ≤ 65536) :
    Calls Tryd.prog 85 #[.slice A l.length c, .func (.func g) #[] #[]] w fun e w' => ∃ r : Int, e = .returned (.int .i64 r) ∧ decide (0 ≤ r) = l.any p ∧ Nx w w' := by
  generalize hn : l.length = n at *
  have HR := hide hR
  have HN := hide hn
  have HC0 := hide hcl
  clear hR hn hcl
  unfold Enters at eg
  go_enter Tryd.func85, Tryd.ntmps85
  go_wp2
  go_loopw [5, 8] (fun _ i wr => ∃ k : Nat, k ≤ n ∧ i = .int .i64 k ∧ Nx w wr ∧ (l.take k).any p = false) (fun _ i _ => n - (intOf i).toNat)
  case atStart => exact ⟨0, Nat.zero_le _, rfl, Nx.refl _, rfl⟩
  case round =>
    obtain ⟨k, hk, rfl, hbw, hq⟩ := hrel
    have HQ := hide hq
    clear hq
    by_cases hlt : k < n
    · have hlt' : k < l.length := by have := HN.out; omega
      obtain ⟨b, off, rfl, _, hb, hbr, hc⟩ := HR.out.open_ hbw (by omega)
      have c0 : wr.cell? ⟨b, off + k * 2, none⟩ = some (.string l[k].key) := hc k hlt' 0 _ rfl
      have c1 : wr.cell? ⟨b, off + k * 2 + 1, none⟩ = some (.int .i64 l[k].cents) := hc k hlt' 1 _ rfl
      clear hc
      cases hbig : p l[k]
      · have HB := hide hbig
        have hcl := HC0.out l[k]
        rw [hbig] at hcl
        have HCL := hide hcl
        clear hbig hcl
        go_wp2_with (go_at_fn g; refine (HCL.out _).mono ?_; rintro e w2 ⟨rfl, hn2⟩)
        go_roundw
        case rel => exact ⟨k + 1, by omega, by go_num, hbw.trans hn2, by rw [List.take_succ_eq_append_getElem hlt', List.any_append, HQ.out]; simp [HB.out]⟩
        case measure => simp [intOf]; omega
      · have HB := hide hbig
        have hcl := HC0.out l[k]
        rw [hbig] at hcl
        have HCL := hide hcl
        clear hbig hcl
        go_wp2_with (go_at_fn g; refine (HCL.out _).mono ?_; rintro e w2 ⟨rfl, hn2⟩)
        go_ret
        refine ⟨_, rfl, ?_, hbw.trans hn2⟩
        rw [show l.any p = true from List.any_eq_true.2 ⟨l[k], List.getElem_mem hlt', HB.out⟩]
        simp
    · go_wp2
      go_ret
      refine ⟨_, rfl, ?_, hbw⟩
      have := HQ.out
      rw [List.take_of_length_le (by have := HN.out; omega)] at this
      rw [this]; rfl
theorem w_ContFD (g : Nat) (p : Due → Bool) (eg : Enters g) (hcl : ∀ (d : Due) W, Calls Tryd.prog g #[.agg #[.string d.key, .int .i64 d.cents]] W fun e w' => e = .returned (.bool (p d)) ∧ Nx W w')
    (lo : Nat) (A : Option Addr) (c : Nat) (l : List Due) (w : World) (hR : Rd w lo A 2 encDue l) (hl : l.length ≤ 65536) :
    Calls Tryd.prog 58 #[.slice A l.length c, .func (.func g) #[] #[]] w fun e w' => e = .returned (.bool (l.any p)) ∧ Nx w w' := by
  have hcon := fun W => w_IndexFD g p eg hcl lo A c l W
  clear hcl eg
  go_enter Tryd.func58, Tryd.ntmps58
  go_wp2_with (go_at_call 85; refine (hcon _ hR hl).mono ?_; rintro e w2 ⟨r, rfl, hr, hn2⟩)
  go_ret
  exact ⟨rfl, hn2⟩

theorem eqS_iff (s t : ByteArray) : (s.toList == t.toList) = decide (s = t) := by
  rw [Bool.eq_iff_iff, beq_iff_eq, decide_eq_true_eq, Lib.toList_data, Lib.toList_data]
  constructor
  · intro h
    rcases s with ⟨⟨s⟩⟩
    rcases t with ⟨⟨t⟩⟩
    simp at h
    rw [h]
  · rintro rfl; rfl

theorem w_Gains1 (s : ByteArray) (d : Due) (w : World) : Calls Tryd.prog 57 #[.string s, .agg #[.string d.key, .int .i64 d.cents]] w fun e w' => e = .returned (.bool (decide (s = d.key))) ∧ Nx w w' := by
  go_enter Tryd.func57, Tryd.ntmps57
  go_wp2
  go_ret
  exact ⟨ret_bool (eqS_iff _ _), (Nx.refl _).alloc _⟩
theorem w_DuesF1 (s : ByteArray) (d : Due) (w : World) : Calls Tryd.prog 61 #[.string s, .agg #[.string d.key, .int .i64 d.cents]] w fun e w' => e = .returned (.bool (decide (s = d.key))) ∧ Nx w w' := by
  go_enter Tryd.func61, Tryd.ntmps61
  go_wp2
  go_ret
  exact ⟨ret_bool (eqS_iff _ _), (Nx.refl _).alloc _⟩
/-- Cents told of a due. -/
def badD (d : Due) : Bool := outB d.cents (-maxCt) maxCt
theorem w_Gains2 (d : Due) (w : World) : Calls Tryd.prog 59 #[.agg #[.string d.key, .int .i64 d.cents]] w fun e w' => e = .returned (.bool (badD d)) ∧ Nx w w' := by
  have H := hide (show badD d = outB d.cents (-maxCt) maxCt from rfl)
  go_enter Tryd.func59, Tryd.ntmps59
  go_wp2_with (go_at_call 60; rw [show (1000000000 : Int) = maxCt from rfl]; refine (w_Out _ _ _ _).mono ?_; rintro e w' ⟨rfl, rfl⟩)
  go_ret
  exact ⟨ret_bool (by rw [H.out]), (Nx.refl _).alloc _⟩
theorem w_DuesF2 (d : Due) (w : World) : Calls Tryd.prog 62 #[.agg #[.string d.key, .int .i64 d.cents]] w fun e w' => e = .returned (.bool (badD d)) ∧ Nx w w' := by
  have H := hide (show badD d = outB d.cents (-maxCt) maxCt from rfl)
  have H2 := hide (inB_out d.cents (-maxCt) maxCt)
  go_enter Tryd.func62, Tryd.ntmps62
  go_wp2_with (go_at_call 54; rw [show (1000000000 : Int) = maxCt from rfl]; refine (w_in _ _ _ _).mono ?_; rintro e w' ⟨rfl, rfl⟩)
  go_ret
  exact ⟨ret_bool (by rw [H.out, H2.out, Bool.not_not]), (Nx.refl _).alloc _⟩
theorem w_fairF1 (x : Int) (w : World) : Calls Tryd.prog 80 #[.int .i64 x] w fun e w' => e = .returned (.bool (centB x)) ∧ w = w' := by
  have H := hide (show centB x = outB x 0 maxCt from rfl)
  go_enter Tryd.func80, Tryd.ntmps80
  go_wp2_with (go_at_call 60; rw [show (1000000000 : Int) = maxCt from rfl]; refine (w_Out _ _ _ _).mono ?_; rintro e w' ⟨rfl, rfl⟩)
  go_ret
  exact ⟨ret_bool (by rw [H.out]), rfl⟩
theorem w_FairF1 (x : Int) (w : World) : Calls Tryd.prog 53 #[.int .i64 x] w fun e w' => e = .returned (.bool (centB x)) ∧ w = w' := by
  have H := hide (show centB x = outB x 0 maxCt from rfl)
  have H2 := hide (inB_out x 0 maxCt)
  go_enter Tryd.func53, Tryd.ntmps53
  go_wp2_with (go_at_call 54; rw [show (1000000000 : Int) = maxCt from rfl]; refine (w_in _ _ _ _).mono ?_; rintro e w' ⟨rfl, rfl⟩)
  go_ret
  exact ⟨ret_bool (by rw [H.out, H2.out, Bool.not_not]), rfl⟩

theorem keys_step {l : List ByteArray} {ds : List Due} {k : Nat} (hl : l.length = ds.length) (hk : k < l.length) (h : l.take k = (ds.take k).map (·.key)) (he : l[k] = (ds[k]'(by omega)).key) : l.take (k + 1) = (ds.take (k + 1)).map (·.key) := by
  rw [List.take_succ_eq_append_getElem hk, List.take_succ_eq_append_getElem (by omega), List.map_append, h, he]; rfl
theorem keys_not {l : List ByteArray} {ds : List Due} {k : Nat} (hl : l.length = ds.length) (hk : k < l.length) (he : ¬ l[k] = (ds[k]'(by omega)).key) : ¬ l = ds.map (·.key) := by
  intro h
  apply he
  have : l[k]? = (ds.map (·.key))[k]? := by rw [← h]
  rw [List.getElem?_eq_getElem hk, List.getElem?_map, List.getElem?_eq_getElem (by omega)] at this
  simpa using this
set_option maxHeartbeats 1000000 in
theorem w_EqDues (g : Nat) (eg : Enters g) (hcl : ∀ (s : ByteArray) (d : Due) W, Calls Tryd.prog g #[.string s, .agg #[.string d.key, .int .i64 d.cents]] W fun e w' => e = .returned (.bool (decide (s = d.key))) ∧ Nx W w')
    (lo lo' : Nat) (A B : Option Addr) (c c' : Nat) (l : List ByteArray) (ds : List Due) (w : World) (hR : Rd w lo A 1 encS l) (hD : Rd w lo' B 2 encDue ds) (hl : l.length ≤ 65536) (hl' : ds.length ≤ 65536) :
    Calls Tryd.prog 56 #[.slice A l.length c, .slice B ds.length c', .func (.func g) #[] #[]] w fun e w' => e = .returned (.bool (decide (l = ds.map (·.key)))) ∧ Nx w w' := by
  generalize hm : ds.length = m at *
  generalize hn : l.length = n at *
  have HR := hide hR
  have HD := hide hD
  have HN := hide hn
  have HM := hide hm
  have HC0 := hide hcl
  clear hR hn hcl hD hm
  unfold Enters at eg
  by_cases hnm : n = m
  · subst hnm
    have HNM := hide (show l.length = ds.length by rw [HN.out, HM.out])
    have t1 : ((n : Int) != (n : Int)) = false := by simp
    go_enter Tryd.func56, Tryd.ntmps56
    go_wp2
    go_loopw [7, 8, 9, 17] (fun _ _ _ i wr => ∃ k : Nat, k ≤ n ∧ i = .int .i64 k ∧ Nx w wr ∧ l.take k = (ds.take k).map (·.key)) (fun _ _ _ i _ => n - (intOf i).toNat)
    case atStart => exact ⟨0, Nat.zero_le _, rfl, Nx.refl _, rfl⟩
    case round =>
      obtain ⟨k, hk, rfl, hbw, hq⟩ := hrel
      have HQ := hide hq
      clear hq
      by_cases hlt : k < n
      · have hlt' : k < l.length := by have := HN.out; omega
        have hlt2 : k < ds.length := by have := HM.out; omega
        obtain ⟨b, off, rfl, _, hb, hbr, hc⟩ := HR.out.open_ hbw (by omega)
        have c0 : wr.cell? ⟨b, off + k, none⟩ = some (.string l[k]) := by have := hc k hlt' 0 _ rfl; simpa using this
        obtain ⟨b', off', rfl, _, hb', hbr', hc'⟩ := HD.out.open_ hbw (by omega)
        have d0 : wr.cell? ⟨b', off' + k * 2, none⟩ = some (.string ds[k].key) := hc' k hlt2 0 _ rfl
        have d1 : wr.cell? ⟨b', off' + k * 2 + 1, none⟩ = some (.int .i64 ds[k].cents) := hc' k hlt2 1 _ rfl
        clear hc hc'
        have hcl := HC0.out l[k] ds[k]
        by_cases he : l[k] = ds[k].key
        · have HE := hide (keys_step HNM.out hlt' HQ.out he)
          rw [decide_eq_true he] at hcl
          have HCL := hide hcl
          clear he hcl
          go_wp2_with (go_at_fn g; refine (HCL.out _).mono ?_; rintro e w2 ⟨rfl, hn2⟩)
          go_roundw
          case rel => exact ⟨k + 1, by omega, by go_num, (hbw.alloc _).trans hn2, HE.out⟩
          case measure => simp [intOf]; omega
        · have HE := hide (keys_not HNM.out hlt' he)
          rw [decide_eq_false he] at hcl
          have HCL := hide hcl
          clear he hcl
          go_wp2_with (go_at_fn g; refine (HCL.out _).mono ?_; rintro e w2 ⟨rfl, hn2⟩)
          go_ret
          exact ⟨ret_bool (by rw [decide_eq_false HE.out]), (hbw.alloc _).trans hn2⟩
      · go_wp2
        go_ret
        refine ⟨ret_bool ?_, hbw⟩
        have h := HQ.out
        rw [List.take_of_length_le (by have := HN.out; omega), List.take_of_length_le (by have := HM.out; omega)] at h
        rw [decide_eq_true h]
  · have HE := hide (show ¬ l = ds.map (·.key) from fun h => hnm (by rw [← HN.out, ← HM.out, h, List.length_map]))
    go_enter Tryd.func56, Tryd.ntmps56
    have t1 : ((n : Int) != (m : Int)) = true := by simp; omega
    go_wp2
    go_ret
    exact ⟨ret_bool (by rw [decide_eq_false HE.out]), Nx.refl _⟩
theorem eg_of_Gains1 : Enters 57 := enters_of Tryd.func57 (by kernel_rfl) rfl
theorem eg_of_Gains2 : Enters 59 := enters_of Tryd.func59 (by kernel_rfl) rfl
theorem eg_of_DuesF1 : Enters 61 := enters_of Tryd.func61 (by kernel_rfl) rfl
theorem eg_of_DuesF2 : Enters 62 := enters_of Tryd.func62 (by kernel_rfl) rfl
theorem eg_of_fairF1 : Enters 80 := enters_of Tryd.func80 (by kernel_rfl) rfl
theorem eg_of_FairF1 : Enters 53 := enters_of Tryd.func53 (by kernel_rfl) rfl
end Go.Proofs.YtjhmgkoghapocaaDoor
