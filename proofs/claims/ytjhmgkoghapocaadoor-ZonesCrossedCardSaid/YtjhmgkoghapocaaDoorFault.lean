/- What is wrong with costs and dues: the program's and the reference's words. -/
import Derived.Test.YtjhmgkoghapocaaDoorAny
namespace Go.Proofs.YtjhmgkoghapocaaDoor
open Go.RowKit

theorem centB_bd {n : Int} (h : centB n = false) : 0 ≤ n ∧ n ≤ 1000000000 := by have := outB_false.1 h; unfold maxCt at this; exact this
theorem pow_bd {n : Nat} (h : n ≤ 10) : 1 ≤ 2 ^ n ∧ 2 ^ n ≤ 1024 := by
  have h1 : 2 ^ n ≤ 2 ^ 10 := Nat.pow_le_pow_right (by omega) h
  have h2 : 0 < 2 ^ n := Nat.pow_pos (by omega)
  omega
theorem shl_pow {n : Nat} (h : n ≤ 10) : wrap64 ((2 : Int) ^ n) = ((2 ^ n : Nat) : Int) := by
  have h1 := pow_bd h
  have e : ((2 : Int) ^ n) = ((2 ^ n : Nat) : Int) := by rw [Int.natCast_pow]; rfl
  rw [e]
  generalize 2 ^ n = P at *
  unfold wrap64
  omega
theorem keysF_len {l : List ByteArray} (h : keysF l = 0) : l.length ≤ 10 := by
  rcases Nat.lt_or_ge 10 l.length with h1 | h1
  · unfold keysF at h; rw [if_pos h1] at h; omega
  · exact h1
theorem fairF_key {l : List ByteArray} {cs : List Int} (h : ¬ keysF l = 0) : fairF l cs = keysF l := by unfold fairF; rw [if_neg h]
theorem fairF_form {l : List ByteArray} {cs : List Int} (h : keysF l = 0) (h2 : ¬ cs.length = 2 ^ l.length) : fairF l cs = 3 := by unfold fairF; rw [if_pos h, if_neg h2]
theorem fairF_arg0 {l : List ByteArray} {cs : List Int} (h : keysF l = 0) (h2 : cs.length = 2 ^ l.length) (h3 : cs.getD 0 0 ≠ 0) : fairF l cs = 1 := by unfold fairF; rw [if_pos h, if_pos h2, if_pos (.inl h3)]
theorem fairF_arg1 {l : List ByteArray} {cs : List Int} (h : keysF l = 0) (h2 : cs.length = 2 ^ l.length) (h3 : cs.any centB = true) : fairF l cs = 1 := by unfold fairF; rw [if_pos h, if_pos h2, if_pos (.inr h3)]
theorem fairF_ok {l : List ByteArray} {cs : List Int} (h : keysF l = 0) (h2 : cs.length = 2 ^ l.length) (h3 : cs.getD 0 0 = 0) (h4 : cs.any centB = false) : fairF l cs = 0 := by
  unfold fairF; rw [if_pos h, if_pos h2, if_neg]; rintro (h5 | h5)
  · exact h5 h3
  · rw [h4] at h5; cases h5

set_option maxRecDepth 100000 in
set_option maxHeartbeats 1000000 in
theorem w_fairFault (lo lo' : Nat) (A B : Option Addr) (c c' : Nat) (l : List ByteArray) (cs : List Int) (w : World) (hR : Rd w lo A 1 encS l) (hS : Small l) (hC : Rd w lo' B 1 encI cs) (hl : l.length ≤ 65536) (hl' : cs.length ≤ 65536) :
    Calls Tryd.prog 46 #[.slice A l.length c, .slice B cs.length c'] w fun e w' => e = .returned (.int .i64 (fairF l cs)) ∧ w = w' := by
  have HK := hide (w_keysFault lo A c l w hR hS hl)
  have HC := hide (w_ContFI 80 centB eg_of_fairF1 w_fairF1 lo' B c' cs w hC hl')
  by_cases h0 : keysF l = 0
  · have HK0 := hide h0
    rw [h0] at HK
    have h10 := keysF_len h0
    have HL := hide (show l.length = l.length from rfl)
    have HM := hide (show cs.length = cs.length from rfl)
    clear hR hS h0
    by_cases hp : cs.length = 2 ^ l.length
    · have t1 : ((cs.length : Int) != wrap64 (2 ^ l.length)) = false := by rw [shl_pow h10, ← hp]; simp
      have hp1 : 1 ≤ cs.length := by rw [hp]; exact (pow_bd h10).1
      have HP := hide hp
      obtain ⟨b, off, rfl, _, hb, _, hc⟩ := hC.open_ (Nx.refl w) (by omega)
      have c0 : w.cell? ⟨b, off, none⟩ = some (.int .i64 cs[0]) := by have := hc 0 (by omega) 0 _ rfl; simpa using this
      have HG := hide (show cs.getD 0 0 = cs[0] from by rw [List.getD_eq_getElem?_getD, List.getElem?_eq_getElem (by omega)]; rfl)
      clear hc hC hp
      generalize cs[0] = z at *
      by_cases hz : z = 0
      · have HZ := hide hz
        have t2 : (z != 0) = false := by simpa using hz
        clear hz
        cases hB : cs.any centB
        · have HF := hide (fairF_ok HK0.out HP.out (by rw [HG.out, HZ.out]) hB)
          rw [hB] at HC
          generalize l.length = n at *
          generalize cs.length = m at *
          go_enter Tryd.func46, Tryd.ntmps46
          go_wp2_with (first
            | (go_at_call 75; refine (HK.out).mono ?_; rintro e w' ⟨rfl, rfl⟩)
            | (go_at_call 52; refine (HC.out).mono ?_; rintro e w' ⟨rfl, rfl⟩))
          go_ret
          exact ⟨ret_int (by rw [HF.out]), rfl⟩
        · have HF := hide (fairF_arg1 HK0.out HP.out hB)
          rw [hB] at HC
          generalize l.length = n at *
          generalize cs.length = m at *
          go_enter Tryd.func46, Tryd.ntmps46
          go_wp2_with (first
            | (go_at_call 75; refine (HK.out).mono ?_; rintro e w' ⟨rfl, rfl⟩)
            | (go_at_call 52; refine (HC.out).mono ?_; rintro e w' ⟨rfl, rfl⟩))
          go_ret
          exact ⟨ret_int (by rw [HF.out]), rfl⟩
      · have t2 : (z != 0) = true := by simpa using hz
        have HF := hide (fairF_arg0 (l := l) (cs := cs) HK0.out HP.out (by rw [HG.out]; exact hz))
        clear hz
        generalize l.length = n at *
        generalize cs.length = m at *
        go_enter Tryd.func46, Tryd.ntmps46
        go_wp2_with (go_at_call 75; refine (HK.out).mono ?_; rintro e w' ⟨rfl, rfl⟩)
        go_ret
        exact ⟨ret_int (by rw [HF.out]), rfl⟩
    · have t1 : ((cs.length : Int) != wrap64 (2 ^ l.length)) = true := by rw [shl_pow h10, bne_iff_ne]; exact fun h => hp (Int.ofNat_inj.1 h)
      have HF := hide (fairF_form (l := l) (cs := cs) HK0.out hp)
      clear hp hC
      generalize l.length = n at *
      generalize cs.length = m at *
      go_enter Tryd.func46, Tryd.ntmps46
      go_wp2_with (go_at_call 75; refine (HK.out).mono ?_; rintro e w' ⟨rfl, rfl⟩)
      go_ret
      exact ⟨ret_int (by rw [HF.out]), rfl⟩
  · have HF := hide (fairF_key (cs := cs) h0)
    have t1 : (keysF l != 0) = true := by simpa using h0
    clear hR hS h0 hC
    generalize l.length = n at *
    generalize cs.length = m at *
    go_enter Tryd.func46, Tryd.ntmps46
    go_wp2_with (go_at_call 75; refine (HK.out).mono ?_; rintro e w' ⟨rfl, rfl⟩)
    go_ret
    exact ⟨ret_int (by rw [HF.out]), rfl⟩

set_option maxRecDepth 100000 in
set_option maxHeartbeats 1000000 in
theorem w_FairFault (lo lo' : Nat) (A B : Option Addr) (c c' : Nat) (l : List ByteArray) (cs : List Int) (w : World) (hR : Rd w lo A 1 encS l) (hS : Small l) (hC : Rd w lo' B 1 encI cs) (hl : l.length ≤ 65536) (hl' : cs.length ≤ 65536) :
    Calls Tryd.prog 8 #[.slice A l.length c, .slice B cs.length c'] w fun e w' => e = .returned (.int .i64 (fairF l cs)) ∧ Nx w w' := by
  by_cases h10 : l.length ≤ 10
  · have hk : keysF l = risF l := by unfold keysF; rw [if_neg (by omega)]
    have HK := hide (w_RisingFault lo A c l w hR hS hl)
    have HC0 := hide (fun w' (hn : Nx w w') => w_ContFI 53 centB eg_of_FairF1 w_FairF1 lo' B c' cs w' (hC.nx hn) hl')
    rw [← hk] at HK
    clear hk
    by_cases h0 : keysF l = 0
    · have HK0 := hide h0
      rw [h0] at HK
      clear hR hS h0
      by_cases hp : cs.length = 2 ^ l.length
      · have t1 : ((cs.length : Int) != wrap64 (2 ^ l.length)) = false := by rw [shl_pow h10, ← hp]; simp
        have hp1 : 1 ≤ cs.length := by rw [hp]; exact (pow_bd h10).1
        have HP := hide hp
        obtain ⟨b, off, rfl, _, hb, _, hc⟩ := hC.open_ (Nx.refl w) (by omega)
        have c0 : w.cell? ⟨b, off, none⟩ = some (.int .i64 cs[0]) := by have := hc 0 (by omega) 0 _ rfl; simpa using this
        have HG := hide (show cs.getD 0 0 = cs[0] from by rw [List.getD_eq_getElem?_getD, List.getElem?_eq_getElem (by omega)]; rfl)
        clear hc hC hp
        generalize cs[0] = z at *
        by_cases hz : z = 0
        · have HZ := hide hz
          have t2 : (z != 0) = false := by simpa using hz
          clear hz
          cases hB : cs.any centB
          · have HF := hide (fairF_ok HK0.out HP.out (by rw [HG.out, HZ.out]) hB)
            rw [hB] at HC0
            generalize l.length = n at *
            generalize cs.length = m at *
            go_enter Tryd.func8, Tryd.ntmps8
            go_wp2_with (first
              | (go_at_call 51; refine (HK.out).mono ?_; rintro e w1 ⟨rfl, hn1⟩; (have c5 : w1.cell? ⟨b, off, none⟩ = some (.int .i64 z) := (Below.cell hn1 (p := ⟨b, _, none⟩) hb).trans c0))
              | (go_at_call 52; refine (HC0.out _ hn1).mono ?_; rintro e w' ⟨rfl, rfl⟩))
            go_ret
            exact ⟨ret_int (by rw [HF.out]), hn1⟩
          · have HF := hide (fairF_arg1 HK0.out HP.out hB)
            rw [hB] at HC0
            generalize l.length = n at *
            generalize cs.length = m at *
            go_enter Tryd.func8, Tryd.ntmps8
            go_wp2_with (first
              | (go_at_call 51; refine (HK.out).mono ?_; rintro e w1 ⟨rfl, hn1⟩; (have c5 : w1.cell? ⟨b, off, none⟩ = some (.int .i64 z) := (Below.cell hn1 (p := ⟨b, _, none⟩) hb).trans c0))
              | (go_at_call 52; refine (HC0.out _ hn1).mono ?_; rintro e w' ⟨rfl, rfl⟩))
            go_ret
            exact ⟨ret_int (by rw [HF.out]), hn1⟩
        · have t2 : (z != 0) = true := by simpa using hz
          have HF := hide (fairF_arg0 (l := l) (cs := cs) HK0.out HP.out (by rw [HG.out]; exact hz))
          clear hz
          generalize l.length = n at *
          generalize cs.length = m at *
          go_enter Tryd.func8, Tryd.ntmps8
          go_wp2_with (go_at_call 51; refine (HK.out).mono ?_; rintro e w1 ⟨rfl, hn1⟩; (have c5 : w1.cell? ⟨b, off, none⟩ = some (.int .i64 z) := (Below.cell hn1 (p := ⟨b, _, none⟩) hb).trans c0))
          go_ret
          exact ⟨ret_int (by rw [HF.out]), hn1⟩
      · have t1 : ((cs.length : Int) != wrap64 (2 ^ l.length)) = true := by rw [shl_pow h10, bne_iff_ne]; exact fun h => hp (Int.ofNat_inj.1 h)
        have HF := hide (fairF_form (l := l) (cs := cs) HK0.out hp)
        clear hp hC
        generalize l.length = n at *
        generalize cs.length = m at *
        go_enter Tryd.func8, Tryd.ntmps8
        go_wp2_with (go_at_call 51; refine (HK.out).mono ?_; rintro e w1 ⟨rfl, hn1⟩)
        go_ret
        exact ⟨ret_int (by rw [HF.out]), hn1⟩
    · have HF := hide (fairF_key (cs := cs) h0)
      have t1 : (keysF l != 0) = true := by simpa using h0
      clear hR hS h0 hC
      generalize l.length = n at *
      generalize cs.length = m at *
      go_enter Tryd.func8, Tryd.ntmps8
      go_wp2_with (go_at_call 51; refine (HK.out).mono ?_; rintro e w1 ⟨rfl, hn1⟩)
      go_ret
      exact ⟨ret_int (by rw [HF.out]), hn1⟩
  · have HF := hide (show fairF l cs = 2 by have h : keysF l = 2 := (by unfold keysF; rw [if_pos (by omega)]); unfold fairF; rw [h]; rfl)
    clear hR hS hC
    generalize l.length = n at *
    generalize cs.length = m at *
    go_enter Tryd.func8, Tryd.ntmps8
    go_wp2_with fail
    go_ret
    exact ⟨ret_int (by rw [HF.out]), Nx.refl _⟩

theorem duesF_form {l : List ByteArray} {ds : List Due} (h : ¬ l = ds.map (·.key)) : duesF l ds = 3 := by unfold duesF; rw [if_neg h]
theorem duesF_arg {l : List ByteArray} {ds : List Due} (h : l = ds.map (·.key)) (h2 : ds.any badD = true) : duesF l ds = 1 := by unfold duesF; rw [if_pos h, show (ds.any fun d => outB d.cents (-maxCt) maxCt) = true from h2]; rfl
theorem duesF_ok {l : List ByteArray} {ds : List Due} (h : l = ds.map (·.key)) (h2 : ds.any badD = false) : duesF l ds = 0 := by unfold duesF; rw [if_pos h, show (ds.any fun d => outB d.cents (-maxCt) maxCt) = false from h2]; rfl
set_option maxRecDepth 100000 in
set_option maxHeartbeats 1000000 in
theorem w_DuesFault (lo lo' : Nat) (A B : Option Addr) (c c' : Nat) (l : List ByteArray) (ds : List Due) (w : World) (hR : Rd w lo A 1 encS l) (hD : Rd w lo' B 2 encDue ds) (hl : l.length ≤ 65536) (hl' : ds.length ≤ 65536) :
    Calls Tryd.prog 16 #[.slice A l.length c, .slice B ds.length c'] w fun e w' => e = .returned (.int .i64 (duesF l ds)) ∧ Nx w w' := by
  have HE := hide (w_EqDues 61 eg_of_DuesF1 w_DuesF1 lo lo' A B c c' l ds w hR hD hl hl')
  have HC0 := hide (fun w' (hn : Nx w w') => w_ContFD 62 badD eg_of_DuesF2 w_DuesF2 lo' B c' ds w' (hD.nx hn) hl')
  clear hR hD
  by_cases he : l = ds.map (·.key)
  · rw [decide_eq_true he] at HE
    cases hb : ds.any badD
    · have HF := hide (duesF_ok he hb)
      rw [hb] at HC0
      clear he hb
      generalize l.length = n at *
      generalize ds.length = m at *
      go_enter Tryd.func16, Tryd.ntmps16
      go_wp2_with (first
        | (go_at_call 56; refine (HE.out).mono ?_; rintro e w1 ⟨rfl, hn1⟩)
        | (go_at_call 58; refine (HC0.out _ hn1).mono ?_; rintro e w2 ⟨rfl, hn2⟩))
      go_ret
      exact ⟨ret_int (by rw [HF.out]), hn1.trans hn2⟩
    · have HF := hide (duesF_arg he hb)
      rw [hb] at HC0
      clear he hb
      generalize l.length = n at *
      generalize ds.length = m at *
      go_enter Tryd.func16, Tryd.ntmps16
      go_wp2_with (first
        | (go_at_call 56; refine (HE.out).mono ?_; rintro e w1 ⟨rfl, hn1⟩)
        | (go_at_call 58; refine (HC0.out _ hn1).mono ?_; rintro e w2 ⟨rfl, hn2⟩))
      go_ret
      exact ⟨ret_int (by rw [HF.out]), hn1.trans hn2⟩
  · rw [decide_eq_false he] at HE
    have HF := hide (duesF_form he)
    clear he HC0
    generalize l.length = n at *
    generalize ds.length = m at *
    go_enter Tryd.func16, Tryd.ntmps16
    go_wp2_with (go_at_call 56; refine (HE.out).mono ?_; rintro e w1 ⟨rfl, hn1⟩)
    go_ret
    exact ⟨ret_int (by rw [HF.out]), hn1⟩
end Go.Proofs.YtjhmgkoghapocaaDoor
