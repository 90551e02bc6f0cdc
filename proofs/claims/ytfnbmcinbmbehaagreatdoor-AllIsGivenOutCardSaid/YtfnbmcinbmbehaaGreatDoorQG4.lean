/- What is wrong with costs and dues: the program's and the reference's words. -/
import Derived.Test.YtfnbmcinbmbehaaGreatDoorQG3
import Derived.Test.YtfnbmcinbmbehaaGreatDoorQG0
import Derived.Lib.Bytealg
import Derived.Sort.LotA
import Derived.Shelf.SlSortCmp.Insertion
import Derived.Maps.Own
import Derived.Maps.OwnOps
import Derived.Maps.Views
import Derived.Maps.RangeWalk
namespace Go.Proofs.YtfnbmcinbmbehaaGreatDoor
open Go.RowKit

theorem centB_bd {n : Int} (h : centB n = false) : 0 ≤ n ∧ n ≤ 1000000000 := by have := outB_false.1 h; unfold maxCt at this; exact this
theorem pow_bd {n : Nat} (h : n ≤ 10) : 1 ≤ 2 ^ n ∧ 2 ^ n ≤ 1024 := by
  have h1 : 2 ^ n ≤ 2 ^ 10 := Nat.pow_le_pow_right (by omega) h
  have h2 : 0 < 2 ^ n := Nat.pow_pos (by omega)
  omega
theorem shl_pow {n : Nat} (h : n ≤ 10) : wrap64 ((2 : Int) ^ n) = ((2 ^ n : Nat) : Int) := by
  have h1 := pow_bd h
  have e : ((2 : Int) ^ n) = ((2 ^ n : Nat) : Int) := by rw [Int.natCast_pow]; rfl
  rw [e]
  generalize 2 ^ n = P at *
  unfold wrap64
  omega
theorem keysF_len {l : List ByteArray} (h : keysF l = 0) : l.length ≤ 10 := by
  rcases Nat.lt_or_ge 10 l.length with h1 | h1
  · unfold keysF at h; rw [if_pos h1] at h; omega
  · exact h1
theorem fairF_key {l : List ByteArray} {cs : List Int} (h : ¬ keysF l = 0) : fairF l cs = keysF l := by unfold fairF; rw [if_neg h]
theorem fairF_form {l : List ByteArray} {cs : List Int} (h : keysF l = 0) (h2 : ¬ cs.length = 2 ^ l.length) : fairF l cs = 3 := by unfold fairF; rw [if_pos h, if_neg h2]
theorem fairF_arg0 {l : List ByteArray} {cs : List Int} (h : keysF l = 0) (h2 : cs.length = 2 ^ l.length) (h3 : cs.getD 0 0 ≠ 0) : fairF l cs = 1 := by unfold fairF; rw [if_pos h, if_pos h2, if_pos (.inl h3)]
theorem fairF_arg1 {l : List ByteArray} {cs : List Int} (h : keysF l = 0) (h2 : cs.length = 2 ^ l.length) (h3 : cs.any centB = true) : fairF l cs = 1 := by unfold fairF; rw [if_pos h, if_pos h2, if_pos (.inr h3)]
theorem fairF_ok {l : List ByteArray} {cs : List Int} (h : keysF l = 0) (h2 : cs.length = 2 ^ l.length) (h3 : cs.getD 0 0 = 0) (h4 : cs.any centB = false) : fairF l cs = 0 := by
  unfold fairF; rw [if_pos h, if_pos h2, if_neg]; rintro (h5 | h5)
  · exact h5 h3
  · rw [h4] at h5; cases h5

set_option maxRecDepth 100000 in
set_option maxHeartbeats 1000000 in
theorem w_fairFault (lo lo' : Nat) (A B : Option Addr) (c c' : Nat) (l : List ByteArray) (cs : List Int) (w : World) (hR : Rd w lo A 1 encS l) (hS : Small l) (hC : Rd w lo' B 1 encI cs) (hl : l.length ≤ 65536) (hl' : cs.length ≤ 65536) :
    Calls Tryz.prog 30 #[.slice A l.length c, .slice B cs.length c'] w fun e w' => e = .returned (.int .i64 (fairF l cs)) ∧ w = w' := by
  have HK := hide (w_keysFault lo A c l w hR hS hl)
  have HC := hide (w_ContFI 52 centB eg_of_fairF1 w_fairF1 lo' B c' cs w hC hl')
  by_cases h0 : keysF l = 0
  · have HK0 := hide h0
    rw [h0] at HK
    have h10 := keysF_len h0
    have HL := hide (show l.length = l.length from rfl)
    have HM := hide (show cs.length = cs.length from rfl)
    clear hR hS h0
    by_cases hp : cs.length = 2 ^ l.length
    · have t1 : ((cs.length : Int) != wrap64 (2 ^ l.length)) = false := by rw [shl_pow h10, ← hp]; simp
      have hp1 : 1 ≤ cs.length := by rw [hp]; exact (pow_bd h10).1
      have HP := hide hp
      obtain ⟨b, off, rfl, _, hb, _, hc⟩ := hC.open_ (Nx.refl w) (by omega)
      have c0 : w.cell? ⟨b, off, none⟩ = some (.int .i64 cs[0]) := by have := hc 0 (by omega) 0 _ rfl; simpa using this
      have HG := hide (show cs.getD 0 0 = cs[0] from by rw [List.getD_eq_getElem?_getD, List.getElem?_eq_getElem (by omega)]; rfl)
      clear hc hC hp
      generalize cs[0] = z at *
      by_cases hz : z = 0
      · have HZ := hide hz
        have t2 : (z != 0) = false := by simpa using hz
        clear hz
        cases hB : cs.any centB
        · have HF := hide (fairF_ok HK0.out HP.out (by rw [HG.out, HZ.out]) hB)
          rw [hB] at HC
          generalize l.length = n at *
          generalize cs.length = m at *
          go_enter Tryz.func30, Tryz.ntmps30
          go_wp2_with (first
            | (go_at_call 46; refine (HK.out).mono ?_; rintro e w' ⟨rfl, rfl⟩)
            | (go_at_call 28; refine (HC.out).mono ?_; rintro e w' ⟨rfl, rfl⟩))
          go_ret
          exact ⟨ret_int (by rw [HF.out]), rfl⟩
        · have HF := hide (fairF_arg1 HK0.out HP.out hB)
          rw [hB] at HC
          generalize l.length = n at *
          generalize cs.length = m at *
          go_enter Tryz.func30, Tryz.ntmps30
          go_wp2_with (first
            | (go_at_call 46; refine (HK.out).mono ?_; rintro e w' ⟨rfl, rfl⟩)
            | (go_at_call 28; refine (HC.out).mono ?_; rintro e w' ⟨rfl, rfl⟩))
          go_ret
          exact ⟨ret_int (by rw [HF.out]), rfl⟩
      · have t2 : (z != 0) = true := by simpa using hz
        have HF := hide (fairF_arg0 (l := l) (cs := cs) HK0.out HP.out (by rw [HG.out]; exact hz))
        clear hz
        generalize l.length = n at *
        generalize cs.length = m at *
        go_enter Tryz.func30, Tryz.ntmps30
        go_wp2_with (go_at_call 46; refine (HK.out).mono ?_; rintro e w' ⟨rfl, rfl⟩)
        go_ret
        exact ⟨ret_int (by rw [HF.out]), rfl⟩
    · have t1 : ((cs.length : Int) != wrap64 (2 ^ l.length)) = true := by rw [shl_pow h10, bne_iff_ne]; exact fun h => hp (Int.ofNat_inj.1 h)
      have HF := hide (fairF_form (l := l) (cs := cs) HK0.out hp)
      clear hp hC
      generalize l.length = n at *
      generalize cs.length = m at *
      go_enter Tryz.func30, Tryz.ntmps30
      go_wp2_with (go_at_call 46; refine (HK.out).mono ?_; rintro e w' ⟨rfl, rfl⟩)
      go_ret
      exact ⟨ret_int (by rw [HF.out]), rfl⟩
  · have HF := hide (fairF_key (cs := cs) h0)
    have t1 : (keysF l != 0) = true := by simpa using h0
    clear hR hS h0 hC
    generalize l.length = n at *
    generalize cs.length = m at *
    go_enter Tryz.func30, Tryz.ntmps30
    go_wp2_with (go_at_call 46; refine (HK.out).mono ?_; rintro e w' ⟨rfl, rfl⟩)
    go_ret
    exact ⟨ret_int (by rw [HF.out]), rfl⟩

set_option maxRecDepth 100000 in
set_option maxHeartbeats 1000000 in
theorem w_FairFault (lo lo' : Nat) (A B : Option Addr) (c c' : Nat) (l : List ByteArray) (cs : List Int) (w : World) (hR : Rd w lo A 1 encS l) (hS : Small l) (hC : Rd w lo' B 1 encI cs) (hl : l.length ≤ 65536) (hl' : cs.length ≤ 65536) :
    Calls Tryz.prog 12 #[.slice A l.length c, .slice B cs.length c'] w fun e w' => e = .returned (.int .i64 (fairF l cs)) ∧ Nx w w' := by
  by_cases h10 : l.length ≤ 10
  · have hk : keysF l = risF l := by unfold keysF; rw [if_neg (by omega)]
    have HK := hide (w_RisingFault lo A c l w hR hS hl)
    have HC0 := hide (fun w' (hn : Nx w w') => w_ContFI 29 centB eg_of_FairF1 w_FairF1 lo' B c' cs w' (hC.nx hn) hl')
    rw [← hk] at HK
    clear hk
    by_cases h0 : keysF l = 0
    · have HK0 := hide h0
      rw [h0] at HK
      clear hR hS h0
      by_cases hp : cs.length = 2 ^ l.length
      · have t1 : ((cs.length : Int) != wrap64 (2 ^ l.length)) = false := by rw [shl_pow h10, ← hp]; simp
        have hp1 : 1 ≤ cs.length := by rw [hp]; exact (pow_bd h10).1
        have HP := hide hp
        obtain ⟨b, off, rfl, _, hb, _, hc⟩ := hC.open_ (Nx.refl w) (by omega)
        have c0 : w.cell? ⟨b, off, none⟩ = some (.int .i64 cs[0]) := by have := hc 0 (by omega) 0 _ rfl; simpa using this
        have HG := hide (show cs.getD 0 0 = cs[0] from by rw [List.getD_eq_getElem?_getD, List.getElem?_eq_getElem (by omega)]; rfl)
        clear hc hC hp
        generalize cs[0] = z at *
        by_cases hz : z = 0
        · have HZ := hide hz
          have t2 : (z != 0) = false := by simpa using hz
          clear hz
          cases hB : cs.any centB
          · have HF := hide (fairF_ok HK0.out HP.out (by rw [HG.out, HZ.out]) hB)
            rw [hB] at HC0
            generalize l.length = n at *
            generalize cs.length = m at *
            go_enter Tryz.func12, Tryz.ntmps12
            go_wp2_with (first
              | (go_at_call 24; refine (HK.out).mono ?_; rintro e w1 ⟨rfl, hn1⟩; (have c5 : w1.cell? ⟨b, off, none⟩ = some (.int .i64 z) := (Below.cell hn1 (p := ⟨b, _, none⟩) hb).trans c0))
              | (go_at_call 28; refine (HC0.out _ hn1).mono ?_; rintro e w' ⟨rfl, rfl⟩))
            go_ret
            exact ⟨ret_int (by rw [HF.out]), hn1⟩
          · have HF := hide (fairF_arg1 HK0.out HP.out hB)
            rw [hB] at HC0
            generalize l.length = n at *
            generalize cs.length = m at *
            go_enter Tryz.func12, Tryz.ntmps12
            go_wp2_with (first
              | (go_at_call 24; refine (HK.out).mono ?_; rintro e w1 ⟨rfl, hn1⟩; (have c5 : w1.cell? ⟨b, off, none⟩ = some (.int .i64 z) := (Below.cell hn1 (p := ⟨b, _, none⟩) hb).trans c0))
              | (go_at_call 28; refine (HC0.out _ hn1).mono ?_; rintro e w' ⟨rfl, rfl⟩))
            go_ret
            exact ⟨ret_int (by rw [HF.out]), hn1⟩
        · have t2 : (z != 0) = true := by simpa using hz
          have HF := hide (fairF_arg0 (l := l) (cs := cs) HK0.out HP.out (by rw [HG.out]; exact hz))
          clear hz
          generalize l.length = n at *
          generalize cs.length = m at *
          go_enter Tryz.func12, Tryz.ntmps12
          go_wp2_with (go_at_call 24; refine (HK.out).mono ?_; rintro e w1 ⟨rfl, hn1⟩; (have c5 : w1.cell? ⟨b, off, none⟩ = some (.int .i64 z) := (Below.cell hn1 (p := ⟨b, _, none⟩) hb).trans c0))
          go_ret
          exact ⟨ret_int (by rw [HF.out]), hn1⟩
      · have t1 : ((cs.length : Int) != wrap64 (2 ^ l.length)) = true := by rw [shl_pow h10, bne_iff_ne]; exact fun h => hp (Int.ofNat_inj.1 h)
        have HF := hide (fairF_form (l := l) (cs := cs) HK0.out hp)
        clear hp hC
        generalize l.length = n at *
        generalize cs.length = m at *
        go_enter Tryz.func12, Tryz.ntmps12
        go_wp2_with (go_at_call 24; refine (HK.out).mono ?_; rintro e w1 ⟨rfl, hn1⟩)
        go_ret
        exact ⟨ret_int (by rw [HF.out]), hn1⟩
    · have HF := hide (fairF_key (cs := cs) h0)
      have t1 : (keysF l != 0) = true := by simpa using h0
      clear hR hS h0 hC
      generalize l.length = n at *
      generalize cs.length = m at *
      go_enter Tryz.func12, Tryz.ntmps12
      go_wp2_with (go_at_call 24; refine (HK.out).mono ?_; rintro e w1 ⟨rfl, hn1⟩)
      go_ret
      exact ⟨ret_int (by rw [HF.out]), hn1⟩
  · have HF := hide (show fairF l cs = 2 by have h : keysF l = 2 := (by unfold keysF; rw [if_pos (by omega)]); unfold fairF; rw [h]; rfl)
    clear hR hS hC
    generalize l.length = n at *
    generalize cs.length = m at *
    go_enter Tryz.func12, Tryz.ntmps12
    go_wp2_with fail
    go_ret
    exact ⟨ret_int (by rw [HF.out]), Nx.refl _⟩

theorem duesF_form {l : List ByteArray} {ds : List Due} (h : ¬ l = ds.map (·.key)) : duesF l ds = 3 := by unfold duesF; rw [if_neg h]
theorem duesF_arg {l : List ByteArray} {ds : List Due} (h : l = ds.map (·.key)) (h2 : ds.any badD = true) : duesF l ds = 1 := by unfold duesF; rw [if_pos h, show (ds.any fun d => outB d.cents (-maxCt) maxCt) = true from h2]; rfl
theorem duesF_ok {l : List ByteArray} {ds : List Due} (h : l = ds.map (·.key)) (h2 : ds.any badD = false) : duesF l ds = 0 := by unfold duesF; rw [if_pos h, show (ds.any fun d => outB d.cents (-maxCt) maxCt) = false from h2]; rfl
end Go.Proofs.YtfnbmcinbmbehaaGreatDoor
/- Legs: what is wrong with them. -/
namespace Go.Proofs.YtfnbmcinbmbehaaGreatDoor
open Go.RowKit

structure Leg where
  a : Option Addr
  cap : Nat
  rides : List ByteArray
  cents : Int
instance : Inhabited Leg := ⟨⟨none, 0, [], 0⟩⟩
def encLeg (x : Leg) : List Value := [.slice x.a x.rides.length x.cap, .int .i64 x.cents]
/-- Legs, their rides each in a row of its own. -/
def RdLegs (w : World) (lo : Nat) (A : Option Addr) (ls : List Leg) : Prop :=
  Rd w lo A 2 encLeg ls ∧ ∀ x ∈ ls, Rd w lo x.a 1 encS x.rides ∧ Small x.rides ∧ x.rides.length ≤ 100
theorem RdLegs.nx {w w' : World} {lo : Nat} {A : Option Addr} {ls : List Leg} (h : RdLegs w lo A ls) (hn : Nx w w') : RdLegs w' lo A ls :=
  ⟨h.1.nx hn, fun x hx => ⟨(h.2 x hx).1.nx hn, (h.2 x hx).2⟩⟩
def legF (x : Leg) : Int := if x.rides.length = 0 then 8 else if keysF x.rides = 0 then (if centB x.cents then 1 else 0) else keysF x.rides
def legsF (ls : List Leg) : Int := orI (ls.map legF)
theorem legsF_drop (ls : List Leg) (k : Nat) (hk : k < ls.length) : legsF (ls.drop k) = if legF ls[k] = 0 then legsF (ls.drop (k + 1)) else legF ls[k] := by
  unfold legsF
  rw [List.drop_eq_getElem_cons hk]; rfl

set_option maxRecDepth 100000 in
set_option maxHeartbeats 2000000 in
theorem w_CheckLegs (lo : Nat) (A : Option Addr) (c : Nat) (ls : List Leg) (w : World) (hR : RdLegs w lo A ls) (hl : ls.length ≤ 100) :
    Calls Tryz.prog 25 #[.slice A ls.length c] w fun e w' => e = .returned (.int .i64 (legsF ls)) ∧ Nx w w' := by
  have HX := hide hR.2
  have HR := hide hR.1
  generalize hn : ls.length = n at *
  have HN := hide hn
  clear hR hn
  go_enter Tryz.func25, Tryz.ntmps25
  go_wp2_with fail
  go_loopw [4, 5, 11] (fun _ _ i wr => ∃ k : Nat, k ≤ n ∧ i = .int .i64 k ∧ Nx w wr ∧ legsF ls = legsF (ls.drop k)) (fun _ _ i _ => n - (intOf i).toNat)
  case atStart => exact ⟨0, Nat.zero_le _, rfl, Nx.refl _, rfl⟩
  case round =>
    obtain ⟨k, hk, rfl, hbw, hq⟩ := hrel
    have HQ := hide hq
    clear hq
    by_cases hlt : k < n
    · have hlt' : k < ls.length := by have := HN.out; omega
      have HD := hide (legsF_drop ls k hlt')
      obtain ⟨hRx, hSx, hLx⟩ := HX.out ls[k] (List.getElem_mem hlt')
      obtain ⟨b, off, rfl, _, hb, hbr, hc⟩ := HR.out.open_ hbw (by omega)
      have c0 : wr.cell? ⟨b, off + k * 2, none⟩ = some (.slice ls[k].a ls[k].rides.length ls[k].cap) := hc k hlt' 0 _ rfl
      have c1 : wr.cell? ⟨b, off + k * 2 + 1, none⟩ = some (.int .i64 ls[k].cents) := hc k hlt' 1 _ rfl
      clear hc
      generalize ls[k] = x at *
      have HK := hide (w_keysFault _ _ x.cap _ (wr.alloc (.cells #[.slice x.a x.rides.length x.cap, .int .i64 x.cents] 42)) (hRx.nx (hbw.alloc _)) hSx (by omega))
      have HF := hide (show legF x = if x.rides.length = 0 then 8 else if keysF x.rides = 0 then (if centB x.cents then 1 else 0) else keysF x.rides from rfl)
      clear hRx hSx
      by_cases h0 : x.rides.length = 0
      · have HZ := hide h0
        have t1 : ((x.rides.length : Int) == 0) = true := by simpa using h0
        clear h0
        go_wp2_with fail
        go_ret
        exact ⟨ret_int (by rw [HQ.out, HD.out, HF.out, if_pos HZ.out]; rfl), hbw.alloc _⟩
      · have t1 : ((x.rides.length : Int) == 0) = false := by simpa using h0
        have HZ := hide h0
        clear h0
        by_cases h1 : keysF x.rides = 0
        · have t2 : (keysF x.rides != 0) = false := by rw [h1]; rfl
          have H1 := hide h1
          clear h1
          cases h2 : centB x.cents
          · have H2 := hide h2
            unfold centB at h2
            have HL := hide (show legF x = 0 by rw [HF.out, if_neg HZ.out, if_pos H1.out, H2.out]; rfl)
            go_wp2_with (first
              | (go_at_call 46; refine HK.out.mono ?_; rintro e w' ⟨rfl, rfl⟩)
              | (go_at_call 22; first | (rw [show (1000000000 : Int) = maxCt from rfl]; refine (w_Out _ _ _ _).mono ?_; rintro e w' ⟨rfl, rfl⟩)))
            go_roundw
            case rel => exact ⟨k + 1, by omega, by go_num, hbw.alloc _, by rw [HQ.out, HD.out, if_pos HL.out]⟩
            case measure => simp [intOf]; omega
          · have H2 := hide h2
            unfold centB at h2
            have HL := hide (show legF x = 1 by rw [HF.out, if_neg HZ.out, if_pos H1.out, H2.out]; rfl)
            go_wp2_with (first
              | (go_at_call 46; refine HK.out.mono ?_; rintro e w' ⟨rfl, rfl⟩)
              | (go_at_call 22; first | (rw [show (1000000000 : Int) = maxCt from rfl]; refine (w_Out _ _ _ _).mono ?_; rintro e w' ⟨rfl, rfl⟩)))
            go_ret
            exact ⟨ret_int (by rw [HQ.out, HD.out, HL.out]; rfl), hbw.alloc _⟩
        · have t2 : (keysF x.rides != 0) = true := by simpa using h1
          have HL := hide (show legF x = keysF x.rides by rw [HF.out, if_neg HZ.out, if_neg h1])
          have H1 := hide h1
          clear h1
          go_wp2_with (first
            | (go_at_call 46; refine HK.out.mono ?_; rintro e w' ⟨rfl, rfl⟩))
          go_ret
          exact ⟨ret_int (by rw [HQ.out, HD.out, HL.out, if_neg H1.out]), hbw.alloc _⟩
    · have ek : k = n := by omega
      subst ek
      have HE := hide (show legsF (ls.drop k) = 0 by rw [List.drop_eq_nil_iff.2 (by have := HN.out; omega)]; rfl)
      go_wp2_with fail
      go_ret
      exact ⟨ret_int (by rw [HQ.out, HE.out]), hbw⟩

set_option maxRecDepth 100000 in
set_option maxHeartbeats 2000000 in
theorem w_LegsFault (lo : Nat) (A : Option Addr) (c : Nat) (ls : List Leg) (w : World) (hR : RdLegs w lo A ls) (hl : ls.length ≤ 100) :
    Calls Tryz.prog 10 #[.slice A ls.length c] w fun e w' => e = .returned (.int .i64 (legsF ls)) ∧ Nx w w' := by
  have HX := hide hR.2
  have HR := hide hR.1
  generalize hn : ls.length = n at *
  have HN := hide hn
  clear hR hn
  go_enter Tryz.func10, Tryz.ntmps10
  go_wp2_with fail
  go_loopw [4, 5, 11, 15, 20] (fun _ _ i _ _ wr => ∃ k : Nat, k ≤ n ∧ i = .int .i64 k ∧ Nx w wr ∧ legsF ls = legsF (ls.drop k)) (fun _ _ i _ _ _ => n - (intOf i).toNat)
  case atStart => exact ⟨0, Nat.zero_le _, rfl, Nx.refl _, rfl⟩
  case round =>
    obtain ⟨k, hk, rfl, hbw, hq⟩ := hrel
    have HQ := hide hq
    clear hq
    by_cases hlt : k < n
    · have hlt' : k < ls.length := by have := HN.out; omega
      have HD := hide (legsF_drop ls k hlt')
      obtain ⟨hRx, hSx, hLx⟩ := HX.out ls[k] (List.getElem_mem hlt')
      obtain ⟨b, off, rfl, _, hb, hbr, hc⟩ := HR.out.open_ hbw (by omega)
      have c0 : wr.cell? ⟨b, off + k * 2, none⟩ = some (.slice ls[k].a ls[k].rides.length ls[k].cap) := hc k hlt' 0 _ rfl
      have c1 : wr.cell? ⟨b, off + k * 2 + 1, none⟩ = some (.int .i64 ls[k].cents) := hc k hlt' 1 _ rfl
      clear hc
      generalize ls[k] = x at *
      have HK := hide (w_RisingFault _ _ x.cap _ (wr.alloc (.cells #[.slice x.a x.rides.length x.cap, .int .i64 x.cents] 42)) (hRx.nx (hbw.alloc _)) hSx (by omega))
      have HF := hide (show legF x = if x.rides.length = 0 then 8 else if keysF x.rides = 0 then (if centB x.cents then 1 else 0) else keysF x.rides from rfl)
      have HKF := hide (show keysF x.rides = if 10 < x.rides.length then 2 else risF x.rides from rfl)
      have ix := inB_out x.cents 0 maxCt
      have HI := hide ix
      clear hRx hSx ix
      by_cases h0 : x.rides.length = 0
      · have HZ := hide h0
        have t1 : ((x.rides.length : Int) == 0) = true := by simpa using h0
        clear h0
        go_wp2_with fail
        go_ret
        exact ⟨ret_int (by rw [HQ.out, HD.out, HF.out, if_pos HZ.out]; rfl), hbw.alloc _⟩
      · have t1 : ((x.rides.length : Int) == 0) = false := by simpa using h0
        have HZ := hide h0
        clear h0
        by_cases h10 : 10 < x.rides.length
        · have HL := hide (show legF x = 2 by rw [HF.out, if_neg HZ.out, HKF.out, if_pos h10]; rfl)
          go_wp2_with fail
          go_ret
          exact ⟨ret_int (by rw [HQ.out, HD.out, HL.out]; rfl), hbw.alloc _⟩
        have HKE := hide (show keysF x.rides = risF x.rides by rw [HKF.out, if_neg h10])
        by_cases h1 : risF x.rides = 0
        · have t2 : (risF x.rides != 0) = false := by rw [h1]; rfl
          have H1 := hide h1
          clear h1
          cases h2 : centB x.cents
          · have H2 := hide h2
            unfold centB at h2
            have ix := HI.out
            rw [h2] at ix
            clear h2
            have HL := hide (show legF x = 0 by rw [HF.out, if_neg HZ.out, HKE.out, if_pos H1.out, H2.out]; rfl)
            go_wp2_with (first
              | (go_at_call 24; refine HK.out.mono ?_; rintro e w3 ⟨rfl, hn3⟩; have q3 : w3.cell? ⟨wr.heap.size, 1, none⟩ = some (.int .i64 x.cents) := World.grownBy.cell (hn3.gr none) (show (wr.alloc _).cell? ⟨wr.heap.size, 1, none⟩ = _ by go_simp) (by simp))
              | (go_at_call 21; first | (rw [show (1000000000 : Int) = maxCt from rfl]; refine (w_in _ _ _ _).mono ?_; rintro e w' ⟨rfl, rfl⟩)))
            go_roundw
            case rel => exact ⟨k + 1, by omega, by go_num, (hbw.alloc _).trans hn3, by rw [HQ.out, HD.out, if_pos HL.out]⟩
            case measure => simp [intOf]; omega
          · have H2 := hide h2
            unfold centB at h2
            have ix := HI.out
            rw [h2] at ix
            clear h2
            have HL := hide (show legF x = 1 by rw [HF.out, if_neg HZ.out, HKE.out, if_pos H1.out, H2.out]; rfl)
            go_wp2_with (first
              | (go_at_call 24; refine HK.out.mono ?_; rintro e w3 ⟨rfl, hn3⟩; have q3 : w3.cell? ⟨wr.heap.size, 1, none⟩ = some (.int .i64 x.cents) := World.grownBy.cell (hn3.gr none) (show (wr.alloc _).cell? ⟨wr.heap.size, 1, none⟩ = _ by go_simp) (by simp))
              | (go_at_call 21; first | (rw [show (1000000000 : Int) = maxCt from rfl]; refine (w_in _ _ _ _).mono ?_; rintro e w' ⟨rfl, rfl⟩)))
            go_ret
            exact ⟨ret_int (by rw [HQ.out, HD.out, HL.out]; rfl), (hbw.alloc _).trans hn3⟩
        · have t2 : (risF x.rides != 0) = true := by simpa using h1
          have HL := hide (show legF x = risF x.rides by rw [HF.out, if_neg HZ.out, HKE.out, if_neg h1])
          have H1 := hide h1
          clear h1
          go_wp2_with (first
            | (go_at_call 24; refine HK.out.mono ?_; rintro e w3 ⟨rfl, hn3⟩))
          go_ret
          exact ⟨ret_int (by rw [HQ.out, HD.out, HL.out, if_neg H1.out]), (hbw.alloc _).trans hn3⟩
    · have ek : k = n := by omega
      subst ek
      have HE := hide (show legsF (ls.drop k) = 0 by rw [List.drop_eq_nil_iff.2 (by have := HN.out; omega)]; rfl)
      go_wp2_with fail
      go_ret
      exact ⟨ret_int (by rw [HQ.out, HE.out]), hbw⟩
end Go.Proofs.YtfnbmcinbmbehaaGreatDoor
/- Plain: sums by key; the list of them that is sorted by key; legs split by keys. -/
namespace Go.Proofs.YtfnbmcinbmbehaaGreatDoor
open Go.Sort Go.Proofs Go.Shelf

theorem cmpB_zero : ∀ a b : List UInt8, Lib.compareBytes a b = 0 ↔ a = b
  | [], [] => by simp [Lib.compareBytes]
  | [], _ :: _ => by simp [Lib.compareBytes]
  | _ :: _, [] => by simp [Lib.compareBytes]
  | a :: x, b :: y => by
    unfold Lib.compareBytes
    by_cases h1 : a < b
    · have : a ≠ b := fun e => by subst e; exact UInt8.lt_irrefl a h1
      simp [h1, this]
    · by_cases h2 : b < a
      · have : a ≠ b := fun e => by subst e; exact UInt8.lt_irrefl a h2
        simp [h1, h2, this]
      · have e : a = b := UInt8.le_antisymm (UInt8.not_lt.1 h2) (UInt8.not_lt.1 h1)
        subst e
        simp [h1, cmpB_zero x y]
theorem cmpB_neg : ∀ a b : List UInt8, Lib.compareBytes a b < 0 ↔ a < b
  | [], [] => by simp [Lib.compareBytes]
  | [], _ :: _ => by simp [Lib.compareBytes]
  | _ :: _, [] => by simp [Lib.compareBytes]
  | a :: x, b :: y => by
    unfold Lib.compareBytes
    rw [List.cons_lt_cons_iff]
    by_cases h1 : a < b
    · simp [h1]
    · by_cases h2 : b < a
      · have : a ≠ b := fun e => by subst e; exact UInt8.lt_irrefl a h2
        simp [h1, h2, this]
      · have e : a = b := UInt8.le_antisymm (UInt8.not_lt.1 h2) (UInt8.not_lt.1 h1)
        subst e
        simp [h1, cmpB_neg x y]
def cmpS (a b : ByteArray) : Int := Lib.compareBytes a.data.toList b.data.toList
def ltS (a b : ByteArray) : Prop := a.data.toList < b.data.toList
theorem data_inj {a b : ByteArray} (h : a.data.toList = b.data.toList) : a = b := by
  obtain ⟨⟨a⟩⟩ := a
  obtain ⟨⟨b⟩⟩ := b
  simp at h
  rw [h]
theorem cmpS_zero {a b : ByteArray} : cmpS a b = 0 ↔ a = b := by
  unfold cmpS
  rw [cmpB_zero]
  exact ⟨data_inj, fun h => by rw [h]⟩
theorem cmpS_neg {a b : ByteArray} : cmpS a b < 0 ↔ ltS a b := cmpB_neg _ _
theorem ltS_trans {a b c : ByteArray} (h : ltS a b) (h' : ltS b c) : ltS a c := List.lt_trans h h'
theorem ltS_irrefl (a : ByteArray) : ¬ ltS a a := List.lt_irrefl _
theorem ltS_tri (a b : ByteArray) (h : ¬ ltS a b) (h' : ¬ ltS b a) : a = b := data_inj (List.le_antisymm (List.not_lt.1 h') (List.not_lt.1 h))

def dueC (a b : Due) : Int := cmpS a.key b.key
theorem due_lt {a b : Due} : ltOf dueC a b = true ↔ ltS a.key b.key := by
  unfold ltOf dueC
  rw [decide_eq_true_eq, cmpS_neg]
theorem due_nlt {a b : Due} : ltOf dueC a b = false ↔ ¬ ltS a.key b.key := by
  rw [← due_lt]; simp
theorem swoDue : SWO (ltOf dueC) where
  irrefl x := due_nlt.2 (ltS_irrefl _)
  trans x y z h1 h2 := due_lt.2 (ltS_trans (due_lt.1 h1) (due_lt.1 h2))
  ntrans x y z h1 h2 := due_nlt.2 (fun h => by
    have h1 := due_nlt.1 h1
    have h2 := due_nlt.1 h2
    unfold ltS at *
    rw [List.not_lt] at h1 h2
    exact absurd h (List.not_lt.2 (List.le_trans h2 h1)))

/-- ys: the sums by key that are there and are not shut out by 'zero', sorted by key. -/
def DuesOf (f : ByteArray → Option Int) (zero : Bool) (ys : List Due) : Prop :=
  ys.Pairwise (fun a b => ltS a.key b.key) ∧ ∀ d : Due, d ∈ ys ↔ f d.key = some d.cents ∧ (d.cents ≠ 0 ∨ zero = true)
theorem sorted_eq : ∀ {xs ys : List Due}, xs.Pairwise (fun a b => ltS a.key b.key) → ys.Pairwise (fun a b => ltS a.key b.key) → (∀ d, d ∈ xs ↔ d ∈ ys) → xs = ys
  | [], [], _, _, _ => rfl
  | [], y :: ys, _, _, h => by have := (h y).2 (by simp); cases this
  | x :: xs, [], _, _, h => by have := (h x).1 (by simp); cases this
  | x :: xs, y :: ys, h1, h2, h => by
    rw [List.pairwise_cons] at h1 h2
    have e : x = y := by
      rcases List.mem_cons.1 ((h x).1 (by simp)) with e | hx
      · exact e
      · rcases List.mem_cons.1 ((h y).2 (by simp)) with e | hy
        · exact e.symm
        · exact absurd (ltS_trans (h1.1 y hy) (h2.1 x hx)) (ltS_irrefl _)
    subst e
    congr 1
    refine sorted_eq h1.2 h2.2 fun d => ?_
    have hd := h d
    simp only [List.mem_cons] at hd
    constructor
    · intro hx
      rcases hd.1 (.inr hx) with e | h3
      · subst e; exact absurd (h1.1 d hx) (ltS_irrefl _)
      · exact h3
    · intro hy
      rcases hd.2 (.inr hy) with e | h3
      · subst e; exact absurd (h2.1 d hy) (ltS_irrefl _)
      · exact h3
theorem DuesOf.unique {f : ByteArray → Option Int} {zero : Bool} {xs ys : List Due} (h : DuesOf f zero xs) (h' : DuesOf f zero ys) : xs = ys :=
  sorted_eq h.1 h'.1 fun d => (h.2 d).trans (h'.2 d).symm

/-- v more at key k. -/
def addK (f : ByteArray → Option Int) (k : ByteArray) (v : Int) : ByteArray → Option Int := fun k' => if k' = k then some ((f k).getD 0 + v) else f k'
theorem addK_at (f : ByteArray → Option Int) (k : ByteArray) (v : Int) : addK f k v k = some ((f k).getD 0 + v) := by simp [addK]
theorem addK_two (f : ByteArray → Option Int) (k : ByteArray) (a b : Int) : addK (addK f k a) k b = addK f k (a + b) := by
  funext k'
  unfold addK
  by_cases h : k' = k
  · subst h; simp; omega
  · simp [h]
/-- Nothing is below 0, nor above B. -/
def BndK (f : ByteArray → Option Int) (B : Int) : Prop := ∀ k, 0 ≤ (f k).getD 0 ∧ (f k).getD 0 ≤ B
theorem BndK.none (B : Int) (h : 0 ≤ B) : BndK (fun _ => none) B := fun _ => ⟨Int.le_refl _, h⟩
theorem BndK.add {f : ByteArray → Option Int} {B v V : Int} (h : BndK f B) (k : ByteArray) (h0 : 0 ≤ v) (h1 : v ≤ V) : BndK (addK f k v) (B + V) := by
  intro k'
  unfold addK
  have h2 := h k
  by_cases e : k' = k
  · subst e; simp; omega
  · have := h k'
    simp [e]; omega
/-- What ride i of n pays of a leg's cents. -/
def legI (cents : Int) (n i : Nat) : Int := cents / n + if (i : Int) < cents % n then 1 else 0
theorem legI_bd {cents : Int} {n i : Nat} (hn : 0 < n) (h0 : 0 ≤ cents) (h1 : cents ≤ maxCt) : 0 ≤ legI cents n i ∧ legI cents n i ≤ maxCt := by
  have e1 : 0 ≤ cents / (n : Int) := Int.ediv_nonneg h0 (by omega)
  have e2 : cents / (n : Int) * (n : Int) ≤ cents := Int.ediv_mul_le _ (by omega)
  have e3 : cents / (n : Int) * 1 ≤ cents / (n : Int) * (n : Int) := Int.mul_le_mul_of_nonneg_left (by omega) e1
  have e4 := Int.emod_nonneg cents (show (n : Int) ≠ 0 by omega)
  have e5 := Int.mul_ediv_add_emod cents n
  have e6 : (n : Int) * (cents / (n : Int)) = cents / (n : Int) * (n : Int) := Int.mul_comm _ _
  unfold legI
  unfold maxCt at *
  split <;> omega
/-- The first k rides of a leg have paid. -/
def rideK (rides : List ByteArray) (cents : Int) (f : ByteArray → Option Int) : Nat → ByteArray → Option Int
  | 0 => f
  | k + 1 => addK (rideK rides cents f k) (rides.getD k default) (legI cents rides.length k)
theorem rideK_bd {rides : List ByteArray} {cents : Int} {f : ByteArray → Option Int} {B : Int} (h : BndK f B) (hn : 0 < rides.length) (h0 : 0 ≤ cents) (h1 : cents ≤ maxCt) : ∀ k : Nat, BndK (rideK rides cents f k) (B + maxCt * k)
  | 0 => by simpa [rideK] using h
  | k + 1 => by
    have := (rideK_bd h hn h0 h1 k).add (rides.getD k default) (legI_bd (i := k) hn h0 h1).1 (legI_bd hn h0 h1).2
    have e : B + maxCt * ((k + 1 : Nat) : Int) = B + maxCt * k + maxCt := by unfold maxCt; omega
    rw [e]; exact this
theorem sumL_rep (n : Nat) (x : Int) : sumL (List.replicate n x) = n * x := by
  induction n with
  | zero => simp [sumL]
  | succ n ih => rw [List.replicate_succ, sumL, ih, Int.natCast_succ, Int.add_mul]; omega
theorem getD_rep (n : Nat) (x : Int) (i : Nat) (hi : i < n) : (List.replicate n x).getD i 0 = x := by
  rw [List.getD_eq_getElem?_getD, List.getElem?_eq_getElem (by simpa using hi)]; simp
/-- Equal parts: the first ones get one more. -/
theorem divided_ones {cents : Int} {n : Nat} (hn : 0 < n) {zs : List Int} (h : Divided cents (List.replicate n 1) zs) : zs.length = n ∧ ∀ i, i < n → zs.getD i 0 = legI cents n i := by
  have e1 : numsD cents (List.replicate n 1) = List.replicate n cents := by simp [numsD]
  have e2 : sumL (List.replicate n 1) = (n : Int) := by rw [sumL_rep]; omega
  have hm := Int.emod_nonneg cents (show (n : Int) ≠ 0 by omega)
  have hm2 := Int.emod_lt_of_pos cents (show (0 : Int) < n by omega)
  have e3 := Int.mul_ediv_add_emod cents n
  have hH : Divided cents (List.replicate n 1) (bump (List.replicate n (cents / n)) (List.range (cents % n).toNat)) := by
    unfold Divided Handed
    rw [e1, e2]
    refine ⟨List.range (cents % n).toNat, ⟨List.nodup_range, fun i hi => ?_, fun i hi j hj hn => ?_⟩, ?_, ?_⟩
    · rw [List.mem_range] at hi
      rw [rsN_len, List.length_replicate]; omega
    · rw [List.mem_range] at hi hn
      rw [rsN_len, List.length_replicate] at hj
      refine .inr ⟨?_, by omega⟩
      unfold rsN
      rw [List.map_replicate, getD_rep _ _ _ (by omega), getD_rep _ _ _ hj]
    · rw [List.length_range]
      unfold leftN qsN
      rw [List.map_replicate, sumL_rep]
      congr 1; omega
    · unfold qsN
      rw [List.map_replicate]
  have hz : zs = bump (List.replicate n (cents / n)) (List.range (cents % n).toNat) := Handed.unique h hH
  subst hz
  refine ⟨by rw [bump_len, List.length_replicate], fun i hi => ?_⟩
  rw [List.getD_eq_getElem?_getD, List.getElem?_eq_getElem (by rw [bump_len, List.length_replicate]; exact hi), Option.getD_some, bump_get]
  unfold legI
  rw [List.getElem_replicate]
  by_cases hlt : (i : Int) < cents % n
  · rw [if_pos (List.mem_range.2 (by omega)), if_pos hlt]
  · rw [if_neg (fun hc => hlt (by have := List.mem_range.1 hc; omega)), if_neg hlt]; omega
end Go.Proofs.YtfnbmcinbmbehaaGreatDoor
/- Plain: legs that are right, split by ride. -/
namespace Go.Proofs.YtfnbmcinbmbehaaGreatDoor
open Go.RowKit

structure LegOk (x : Leg) : Prop where
  pos : 0 < x.rides.length
  le : x.rides.length ≤ 10
  c0 : 0 ≤ x.cents
  c1 : x.cents ≤ maxCt
theorem legF_ok {x : Leg} (h : legF x = 0) : LegOk x := by
  unfold legF at h
  by_cases h0 : x.rides.length = 0
  · rw [if_pos h0] at h; exact absurd h (by decide)
  rw [if_neg h0] at h
  by_cases h1 : keysF x.rides = 0
  · rw [if_pos h1] at h
    have h10 : ¬ 10 < x.rides.length := fun hc => by
      unfold keysF at h1; rw [if_pos hc] at h1; exact absurd h1 (by decide)
    have hcb : centB x.cents = false := by
      cases hc : centB x.cents with
      | false => rfl
      | true => rw [hc] at h; exact absurd h (by decide)
    unfold centB outB at hcb
    simp at hcb
    exact ⟨by omega, by omega, by omega, by omega⟩
  · rw [if_neg h1] at h; exact absurd h h1
theorem legsF_ok : ∀ {ls : List Leg}, legsF ls = 0 → ∀ x ∈ ls, LegOk x
  | [], _, x, hx => by cases hx
  | y :: ls, h, x, hx => by
    have e : legsF (y :: ls) = if legF y = 0 then legsF ls else legF y := legsF_drop (y :: ls) 0 (by simp)
    rw [e] at h
    by_cases hy : legF y = 0
    · rw [if_pos hy] at h
      rcases List.mem_cons.1 hx with rfl | hx
      · exact legF_ok hy
      · exact legsF_ok h x hx
    · rw [if_neg hy] at h; exact absurd h hy
/-- The first k legs, split by ride. -/
def legsK (ls : List Leg) : Nat → ByteArray → Option Int
  | 0 => fun _ => none
  | k + 1 => rideK (ls.getD k default).rides (ls.getD k default).cents (legsK ls k) (ls.getD k default).rides.length
theorem legsK_succ (ls : List Leg) (k : Nat) (hk : k < ls.length) : legsK ls (k + 1) = rideK ls[k].rides ls[k].cents (legsK ls k) ls[k].rides.length := by
  have e : ls.getD k default = ls[k] := by rw [List.getD_eq_getElem?_getD, List.getElem?_eq_getElem hk]; rfl
  show rideK (ls.getD k default).rides (ls.getD k default).cents (legsK ls k) (ls.getD k default).rides.length = _
  rw [e]
theorem legsK_bd (ls : List Leg) (h : ∀ x ∈ ls, LegOk x) : ∀ k, k ≤ ls.length → BndK (legsK ls k) (10000000000 * k)
  | 0, _ => fun s => by simp [legsK]
  | k + 1, hk => by
    have hk' : k < ls.length := hk
    rw [legsK_succ ls k hk']
    have hx := h _ (List.getElem_mem hk')
    have h1 := rideK_bd (legsK_bd ls h k (by omega)) hx.pos hx.c0 hx.c1 ls[k].rides.length
    intro s
    have := h1 s
    have hle := hx.le
    unfold maxCt at this
    omega
theorem rideK_succ (rides : List ByteArray) (cents : Int) (f : ByteArray → Option Int) (k : Nat) (hk : k < rides.length) : rideK rides cents f (k + 1) = addK (rideK rides cents f k) rides[k] (legI cents rides.length k) := by
  have e : rides.getD k default = rides[k] := by rw [List.getD_eq_getElem?_getD, List.getElem?_eq_getElem hk]; rfl
  show addK (rideK rides cents f k) (rides.getD k default) (legI cents rides.length k) = _
  rw [e]
end Go.Proofs.YtfnbmcinbmbehaaGreatDoor
/- A map of integers in which it counts whether a key is there, said of a plain function. Of no program. -/
namespace Go.Proofs.YtfnbmcinbmbehaaGreatDoor
open Go.RowKit Go.Maps

section
variable {κ : Type} {P : Program} {K E : TypeId} {ek : κ → Value} {dom : κ → Prop}

/-- The map's datum D holds f k at key k, if it has the key at all; its keys lie in dom. -/
structure MoD (P : Program) (K : TypeId) (ek : κ → Value) (dom : κ → Prop) (D : DataW Unit) (f : κ → Option Int) : Prop where
  isMap : IsMap D
  at_ : ∀ k l, dom k → keyOf P K (ek k) = some l → ∀ z, D.atKey l z = (match f k with | some v => .lit (.int .i64 v) | none => z)
  keys : ∀ l, has D l = true → ∃ k, dom k ∧ keyOf P K (ek k) = some l
  dm : ∀ k, (f k).isSome = true → dom k

/-- Block b is such a map. -/
def MoI (P : Program) (K E : TypeId) (ek : κ → Value) (dom : κ → Prop) (w : World) (b n : Nat) (f : κ → Option Int) : Prop :=
  ∃ D : DataW Unit, w.ownsMap P K (plainElem P E) b n D ∧ MoD P K ek dom D f

theorem MoI.lt {w : World} {b n : Nat} {f : κ → Option Int} (h : MoI P K E ek dom w b n f) : b < w.heap.size := by
  obtain ⟨D, h1, _⟩ := h; exact h1.lt
theorem MoI.nx {w w' : World} {b n : Nat} {f : κ → Option Int} (h : MoI P K E ek dom w b n f) (hn : Nx w w') : MoI P K E ek dom w' b n f := by
  obtain ⟨D, h1, h2⟩ := h
  exact ⟨D, h1.kept (hn.gr none) (by simp), h2⟩
theorem MoI.gr {w w' : World} {b n s : Nat} {f : κ → Option Int} (h : MoI P K E ek dom w b n f) (hn : Gr s w w') (hs : b ≠ s) : MoI P K E ek dom w' b n f := by
  obtain ⟨D, h1, h2⟩ := h
  exact ⟨D, h1.kept (row := some s) hn (by simpa using hs), h2⟩
theorem MoI.mono {w : World} {b n n' : Nat} {f : κ → Option Int} (h : MoI P K E ek dom w b n f) (hn : n ≤ n') : MoI P K E ek dom w b n' f := by
  obtain ⟨D, h1, h2⟩ := h; exact ⟨D, h1.mono hn, h2⟩
theorem MoI.made (w : World) : MoI P K E ek dom (w.alloc (.map #[] 0)) w.heap.size 0 (fun _ => none) :=
  ⟨.map [], World.ownsMap_made w P K _, isMap_empty, fun _ _ _ _ _ => rfl, fun l h => (by simp [has_eq] at h), fun k h => by cases h⟩
theorem wf_i64o {n : Int} : (Lit.int .i64 n).wf = true ↔ -9223372036854775808 ≤ n ∧ n ≤ 9223372036854775807 := by
  simp [Lit.wf, IntKind.min, IntKind.max, IntKind.signed, IntKind.bits]
theorem MoD.has_ {D : DataW Unit} {f : κ → Option Int} (h : MoD P K ek dom D f) {k : κ} (hd : dom k) {l : Lit} (hkey : keyOf P K (ek k) = some l) : has D l = (f k).isSome := by
  have e := h.at_ k l hd hkey
  cases hf : f k with
  | none => rw [hf] at e; exact has_false_of_atKey e
  | some v => rw [hf] at e; exact has_true_of_atKey e

theorem MoI.look {w : World} {b n : Nat} {f : κ → Option Int} {t : TypeId} (h : MoI P K E ek dom w b n f) (KL : Keyed P K) (ht : P.underlying t = some (.map K E)) (he : P.underlying E = some (.int .i64)) (hz : (zeroValue E).run P w = .ok (.int .i64 0) w)
    {k : κ} (hd : dom k) {l : Lit} (hkey : keyOf P K (ek k) = some l) : (Instr.lookup t (.map (some b)) (ek k) false).run P w = .ok (.int .i64 ((f k).getD 0)) w ∧ (Lit.int .i64 ((f k).getD 0)).wf = true := by
  obtain ⟨D, h1, h2⟩ := h
  obtain ⟨c, hrun, hat, hwf⟩ := h1.lookup_int KL ht he hz hkey
  have e := h2.at_ k l hd hkey (.lit (.int .i64 0))
  rw [hat] at e
  have e' : c = (f k).getD 0 := by
    cases hf : f k with
    | none => rw [hf] at e; injection e with e; injection e
    | some v => rw [hf] at e; injection e with e; injection e
  subst e'
  exact ⟨hrun, hwf⟩

theorem MoD.put {D : DataW Unit} {f : κ → Option Int} [DecidableEq κ] (h : MoD P K ek dom D f) (KL : Keyed P K) (hinj : ∀ a b : κ, ek a = ek b → a = b) {k : κ} (hd : dom k) {l : Lit} (hkey : keyOf P K (ek k) = some l) (v : Int) :
    MoD P K ek dom (D.put l (.lit (.int .i64 v))) (fun k' => if k' = k then some v else f k') where
  isMap := h.isMap.put _ _
  at_ k' l' hd' hk' z := by
    by_cases e : k' = k
    · subst e
      rw [hkey] at hk'; injection hk' with hk'; subst hk'
      rw [if_pos rfl]
      exact atKey_put_same h.isMap (KL.key hkey) _ _
    · rw [if_neg e]
      have hne : l' ≠ l := fun e1 => by subst e1; exact e (hinj _ _ (KL.inj hk' hkey))
      rw [atKey_put_other hne]
      exact h.at_ k' l' hd' hk' z
  keys l' hl' := by
    by_cases e : l' = l
    · subst e; exact ⟨k, hd, hkey⟩
    · rw [has_put_other e] at hl'; exact h.keys l' hl'
  dm k' hk' := by
    by_cases e : k' = k
    · subst e; exact hd
    · rw [if_neg e] at hk'; exact h.dm k' hk'

/-- 'm[k] = v'. -/
theorem MoI.upd {w : World} {b n : Nat} {f : κ → Option Int} [DecidableEq κ] {t : TypeId} (h : MoI P K E ek dom w b n f) (KL : Keyed P K) (hinj : ∀ a b : κ, ek a = ek b → a = b) (ht : P.underlying t = some (.map K E)) (he : P.underlying E = some (.int .i64)) (hn : n < maxLen)
    {k : κ} (hd : dom k) {l : Lit} (hkey : keyOf P K (ek k) = some l) (v : Int) (hv : (Lit.int .i64 v).wf = true) :
    ∃ w', (Instr.mapUpdate t (.map (some b)) (ek k) (.int .i64 v)).run P w = .ok () w' ∧ MoI P K E ek dom w' b (n + 1) (fun k' => if k' = k then some v else f k') ∧ Gr b w w' := by
  obtain ⟨D, h1, h2⟩ := h
  obtain ⟨w', hr, ho, hg⟩ := h1.update KL ht hn hkey (plainElem_int (H := Unit) he hv)
  exact ⟨w', hr, ⟨_, ho, h2.put KL hinj hd hkey v⟩, hg⟩

/-- 'm[k]' at the operation. -/
theorem wpMoLook (w : World) {ops : Array Oper} {rest : List Oper} {o : Oper} {a : Act} {Q : Exit → Act → World → Prop}
    (hg : o.guard = none) (m x : Operand) (t : TypeId) (hop : o.op = Op.lookup t m x false)
    (KL : Keyed P K) (ht : P.underlying t = some (.map K E)) (he : P.underlying E = some (.int .i64)) (hz : (zeroValue E).run P w = .ok (.int .i64 0) w) (b n : Nat) (f : κ → Option Int)
    (hm : a.eval m = .map (some b)) (hown : MoI P K E ek dom w b n f) (k : κ) (hx : a.eval x = ek k) (hd : dom k) (l : Lit) (hkey : keyOf P K (ek k) = some l)
    (hK : (Lit.int .i64 ((f k).getD 0)).wf = true → wpList P ops Q rest (a.put o.dst (.int .i64 ((f k).getD 0))) w) :
    wpList P ops Q (o :: rest) a w := by
  refine wpList_plain hg fun K' hK' => ?_
  obtain ⟨hrun, hwf⟩ := hown.look KL ht he hz hd hkey
  unfold Oper.wp
  simp [execOp, hop, hm, hx, hrun, Result.andThen]
  exact hK' _ _ (hK hwf)

/-- 'm[k] = v' at the operation. -/
theorem wpMoPut [DecidableEq κ] (w : World) {ops : Array Oper} {rest : List Oper} {o : Oper} {a : Act} {Q : Exit → Act → World → Prop}
    (hg : o.guard = none) (m x v : Operand) (t : TypeId) (hop : o.op = Op.mapUpdate t m x v)
    (KL : Keyed P K) (hinj : ∀ a b : κ, ek a = ek b → a = b) (ht : P.underlying t = some (.map K E)) (he : P.underlying E = some (.int .i64)) (b n : Nat) (f : κ → Option Int)
    (hm : a.eval m = .map (some b)) (hown : MoI P K E ek dom w b n f) (hn : n < maxLen) (k : κ) (hx : a.eval x = ek k) (hd : dom k) (l : Lit) (hkey : keyOf P K (ek k) = some l)
    (z : Int) (hz : a.eval v = .int .i64 z) (hwf : (Lit.int .i64 z).wf = true)
    (hK : ∀ w', MoI P K E ek dom w' b (n + 1) (fun k' => if k' = k then some z else f k') → Gr b w w' → wpList P ops Q rest (a.put o.dst undef) w') :
    wpList P ops Q (o :: rest) a w := by
  refine wpList_plain hg fun K' hK' => ?_
  obtain ⟨w', hrun, r1, r2⟩ := hown.upd KL hinj ht he hn hd hkey z hwf
  unfold Oper.wp
  simp [execOp, hop, hm, hx, hz, hrun, Result.andThen]
  exact hK' _ _ (hK w' r1 r2)
end
end Go.Proofs.YtfnbmcinbmbehaaGreatDoor
