/- Legs split by ride: the program's sums. -/
import Derived.Test.YtfnbmcinbmbehaaGreatDoorQG14
import Derived.Test.YtfnbmcinbmbehaaGreatDoorQDivB
import Derived.Deep.RegionHeld3
namespace Go.Proofs.YtfnbmcinbmbehaaGreatDoor
open Go.RowKit Go.Sort Go.Shelf Go.Maps Go.Proofs

/-- Dues and an error. -/
def DuesE (F : Int) (f : ByteArray → Option Int) (w : World) (e : Ending) (w' : World) : Prop :=
  ∃ (A : Option Addr) (c : Nat) (ys : List Due), e = .returned (.tuple #[.slice A ys.length c, .int .i64 F]) ∧ (F = 0 → DuesOf f true ys) ∧ (F ≠ 0 → ys = []) ∧ Rd w' w.heap.size A 2 encDue ys ∧ ys.length ≤ 65536 ∧ Nx w w'
theorem w_DivideOnes (lo : Nat) (A : Option Addr) (c r : Nat) (cents : Int) (w : World) (hR : Rd w lo A 1 encI (List.replicate r 1)) (hr : 1 ≤ r ∧ r ≤ 10) (hc : 0 ≤ cents ∧ cents ≤ 1000000000) :
    Calls Tryz.prog 23 #[.int .i64 cents, .slice A r c] w fun e w' => ∃ (A' : Option Addr) (c' : Nat) (zs : List Int), e = .returned (.slice A' r c') ∧ zs.length = r ∧ (∀ i, i < r → zs.getD i 0 = legI cents r i) ∧ Rd w' w.heap.size A' 1 encI zs ∧ Nx w w' := by
  have h := w_DivideB lo A c cents (List.replicate r 1) w hR (by rw [List.length_replicate]; omega) hc (fun p hp => by obtain ⟨_, rfl⟩ := List.mem_replicate.1 hp; omega) (by rw [sumL_rep]; omega)
  rw [List.length_replicate] at h
  refine h.mono ?_
  rintro e w' ⟨A', c', zs, rfl, hD, hR', hn⟩
  obtain ⟨h1, h2⟩ := divided_ones (by omega) hD
  exact ⟨A', c', zs, by rw [h1], h1, h2, hR', hn⟩

set_option maxRecDepth 100000 in
set_option maxHeartbeats 2000000 in
theorem w_ByLegs (lo : Nat) (A : Option Addr) (c : Nat) (ls : List Leg) (w : World) (hR : RdLegs w lo A ls) (hl : ls.length ≤ 100) :
    Calls Tryz.prog 11 #[.slice A ls.length c] w (DuesE (legsF ls) (legsK ls ls.length) w) := by
  have HC := hide (w_CheckLegs lo A c ls w hR hl)
  by_cases h0 : legsF ls = 0
  · rw [h0] at HC ⊢
    have HX := hide hR.2
    have HR := hide hR.1
    have HG := hide (legsF_ok h0)
    have HB := hide (legsK_bd ls (legsF_ok h0))
    generalize hn : ls.length = n at *
    have HN := hide hn
    clear hR hn h0
    have hmm := @run_makeMap Tryz.prog
    go_enter Tryz.func11, Tryz.ntmps11
    go_wp2_with (go_at_call 25; refine HC.out.mono ?_; rintro e wc ⟨rfl, hnc⟩)
    clear hmm
    have hsc := hnc.sz
    have HM0 := hide (And.intro (MoI.made (P := Tryz.prog) (K := 9) (E := 3) (ek := Value.string) (dom := domS) wc) (hnc.alloc (.map #[] 0)))
    obtain ⟨mb, hmb⟩ : ∃ mb, mb = wc.heap.size := ⟨_, rfl⟩
    rw [← hmb] at HM0 ⊢
    have hmb1 : w.heap.size ≤ mb := by omega
    clear HC hmb
    go_loopw [18] (fun i wr => ∃ k : Nat, k ≤ n ∧ i = .int .i64 k ∧ Nx w wr ∧ MpK wr mb (40 * k) (legsK ls k)) (fun i _ => n - (intOf i).toNat)
    case atStart => exact ⟨0, Nat.zero_le _, rfl, HM0.out.2, HM0.out.1⟩
    case round =>
      clear HM0
      obtain ⟨k, hk, rfl, hbw, hM⟩ := hrel
      by_cases hlt : k < n
      · have hlt' : k < ls.length := by have := HN.out; omega
        obtain ⟨hRx, hSx, hLx⟩ := HX.out ls[k] (List.getElem_mem hlt')
        have HOK := hide (HG.out ls[k] (List.getElem_mem hlt'))
        have HS := hide (legsK_succ ls k hlt')
        have HBK := hide (HB.out k (by omega))
        obtain ⟨b, off, rfl, _, hb, hbr, hc⟩ := HR.out.open_ hbw (by omega)
        have c0 : wr.cell? ⟨b, off + k * 2, none⟩ = some (.slice ls[k].a ls[k].rides.length ls[k].cap) := hc k hlt' 0 _ rfl
        have c1 : wr.cell? ⟨b, off + k * 2 + 1, none⟩ = some (.int .i64 ls[k].cents) := hc k hlt' 1 _ rfl
        clear hc
        generalize ls[k] = x at *
        generalize x.a = xa at *
        generalize legsK ls k = f at *
        have hml := hM.lt
        generalize hr : x.rides.length = r at *
        have HRL := hide hr
        have HRX := hide hRx
        have HSX := hide hSx
        have HM := hide hM
        have HBW := hide hbw
        have hb0 : (wr.alloc (.cells #[.slice xa r x.cap, .int .i64 x.cents] 42)).cell? ⟨wr.heap.size, 0, none⟩ = some (.slice xa r x.cap) := by go_simp
        have hb1 : (wr.alloc (.cells #[.slice xa r x.cap, .int .i64 x.cents] 42)).cell? ⟨wr.heap.size, 1, none⟩ = some (.int .i64 x.cents) := by go_simp
        have HB1 := hide (And.intro hb0 hb1)
        clear hRx hSx hM hbw hr
        have hr1 : 1 ≤ r ∧ r ≤ 10 := by have h1 := HOK.out.pos; have h2 := HOK.out.le; have := HRL.out; omega
        have hc01 : 0 ≤ x.cents ∧ x.cents ≤ 1000000000 := by have h1 := HOK.out.c0; have h2 := HOK.out.c1; unfold maxCt at h2; omega
        go_wp2_with fail
        have hsz1 : (wr.alloc (.cells #[.slice xa r x.cap, .int .i64 x.cents] 42)).heap.size = wr.heap.size + 1 := by simp
        have HNB := hide ((Nx.refl wr).alloc (.cells #[.slice xa r x.cap, .int .i64 x.cents] 42))
        generalize wr.alloc (.cells #[.slice xa r x.cap, .int .i64 x.cents] 42) = wb at *
        generalize hcents : x.cents = cents at *
        have HCE := hide hcents
        have HNC := hide hnc
        obtain ⟨bx, hbx⟩ : ∃ bx, bx = wr.heap.size := ⟨_, rfl⟩
        rw [← hbx] at hb0 hb1 hsz1 ⊢
        have HBX := hide hbx
        clear c0 c1 hnc hcents hbx
        go_region_held3 (fun w' => w'.cell? ⟨bx, 0, none⟩ = some (.slice xa r x.cap) ∧ w'.cell? ⟨bx, 1, none⟩ = some (.int .i64 cents))
          (first | (go_split_ands; exact ⟨World.grownBy.cell (hn2.gr none) ‹_› (by simp), World.grownBy.cell (hn2.gr none) ‹_› (by simp)⟩) | (go_split_ands; exact ⟨World.grownBy.cell (hn1.gr none) ‹_› (by simp), World.grownBy.cell (hn1.gr none) ‹_› (by simp)⟩) | go_keep)
          (first
            | (go_at_call 26; refine (w_RepeatOne r (bx + 1) _ hr1.1 (by omega) (hnew_drew (by omega))).mono ?_; rintro e w1 ⟨g1, rfl, hR1, hn1⟩)
            | (go_at_call 23; refine (w_DivideOnes _ _ _ r _ _ hR1 hr1 hc01).mono ?_; rintro e w2 ⟨A2, c2, zs, rfl, hzl, hzv, hR2, hn2⟩))
        rename_i hH
        have hNw : Nx wr w2 := (((HNB.out.alloc _).drew).trans hn1).trans hn2
        have hsA := hn1.sz
        have hsB := hn2.sz
        have hsC := HNB.out.sz
        simp at hsA
        have HM2 := hide (HM.out.nx hNw)
        have HR2 := hide hR2
        have HZV := hide hzv
        have HZL := hide hzl
        have HH := hide hH
        have hmw : mb < w1.heap.size := by omega
        have hmx : bx ≠ mb := by have := HBX.out; omega
        have HNW := hide (HBW.out.trans hNw)
        clear hR2 hzv hzl hH hR1 hn1 hn2 hb0 hb1 HB1 HM hNw HNB
        obtain ⟨wo, hwo⟩ : ∃ wo, wo = wr := ⟨_, rfl⟩
        subst hwo
        go_wp2_with fail
        go_loopw [31] (fun i wi => ∃ j : Nat, j ≤ r ∧ i = .int .i64 j ∧ Gr mb w2 wi ∧ MpK wi mb (40 * k + 2 * j) (rideK x.rides cents f j)) (fun i _ => r - (intOf i).toNat)
        case atStart => exact ⟨0, Nat.zero_le _, rfl, Gr.refl _ _, HM2.out⟩
        case round =>
          clear HM2
          obtain ⟨j, hj, rfl, hgw, hM⟩ := hrel
          have hszi := hgw.sz
          by_cases hjl : j < r
          · have hjl' : j < x.rides.length := by have := HRL.out; omega
            have hjz : j < zs.length := by have := HZL.out; omega
            have c2 : wr.cell? ⟨bx, 0, none⟩ = some (.slice xa r x.cap) := World.grownBy.cell (row := some mb) hgw HH.out.1 (by simpa using hmx)
            have hnxi : Nx w wr := HNW.out.grown hgw (fun i hi => by injection hi with hi; omega)
            obtain ⟨b2, off2, rfl, _, hb2, hbr2, hc2⟩ := HRX.out.open_ hnxi (by omega)
            have c4 : wr.cell? ⟨b2, off2 + j, none⟩ = some (.string x.rides[j]) := by have := hc2 j hjl' 0 _ rfl; simpa using this
            obtain ⟨b3, off3, rfl, _, hb3, hbr3, hc3⟩ := (HR2.out.gr hgw (by omega)).open_ (Nx.refl _) (by omega)
            have c5 : wr.cell? ⟨b3, off3 + j, none⟩ = some (.int .i64 zs[j]) := by have := hc3 j hjz 0 _ rfl; simpa using this
            have hzj : zs[j] = legI cents r j := by rw [← HZV.out j hjl, List.getD_eq_getElem?_getD, List.getElem?_eq_getElem hjz]; rfl
            rw [hzj] at c5
            have hdk := small_dom HSX.out j hjl'
            have HD := hide (rideK_succ x.rides cents f j hjl')
            have HBD := hide (rideK_bd (cents := cents) HBK.out HOK.out.pos hc01.1 (by unfold maxCt; omega) j)
            have hlb := legI_bd (i := j) (show 0 < r by omega) hc01.1 (by unfold maxCt; omega)
            clear hc2 hc3 hzj
            generalize x.rides[j] = ky at *
            generalize rideK x.rides cents f j = g at *
            rw [HRL.out] at HD
            generalize legI cents r j = z at *
            have hkm := keyS_mk Tryz.underlying9 hdk
            have HL := hide (hM.look law_str Tryz.underlying58 Tryz.underlying3 (zeroIntK _) hdk hkm).1
            have hbk := HBD.out ky
            unfold maxCt at hbk hlb
            obtain ⟨v0, hv0⟩ : ∃ v0, v0 = (g ky).getD 0 := ⟨_, rfl⟩
            rw [← hv0] at HL hbk
            have hvb : 0 ≤ v0 ∧ v0 ≤ 1020000000000 := by omega
            have w3 : IntKind.i64.wrap (v0 + z) = v0 + z := IntWalk.i64_in _ (by omega)
            have HV := hide hv0
            have HMM := hide hM
            clear hv0 hM hbk
            have hlk := HL.out
            go_wp2_with (first
              | (at_mapUpdate; refine wpMoPut _ rfl _ _ _ _ rfl law_str strV_inj Tryz.underlying58 Tryz.underlying3 mb (40 * k + 2 * j) g rfl HMM.out (by unfold maxLen; omega) ky rfl hdk _ hkm (v0 + z) rfl (wf_i64o.2 ⟨by omega, by omega⟩) ?_; intro w5 hm5 hg5; (have HM5 := hide hm5); clear hm5))
            go_roundw
            case rel =>
              refine ⟨j + 1, by omega, by go_num, hgw.trans hg5, ?_⟩
              rw [HD.out]
              have e : (fun k' => if k' = ky then some (v0 + z) else g k') = addK g ky z := by
                funext k'
                unfold addK
                rw [← HV.out]
              rw [← e]
              exact HM5.out.mono (by omega)
            case measure => simp [intOf]; omega
          · have ej : j = r := by omega
            subst ej
            go_wp2_with fail
            go_roundw
            case rel => exact ⟨k + 1, by omega, by go_num, HNW.out.grown hgw (fun i hi => by injection hi with hi; omega), by rw [HS.out]; exact hM.mono (by omega)⟩
            case measure => simp [intOf]; omega
      · have ek : k = n := by omega
        subst ek
        go_wp2_with (go_at_call 27; refine (w_duesP _ _ _ _ hM (by omega)).mono ?_; rintro e w2 ⟨A2, c2, ys, rfl, hD, hR2, hyl, hn2⟩)
        go_ret2
        exact ⟨A2, c2, ys, rfl, fun _ => hD, fun h => absurd rfl h, hR2.low (by have := hbw.sz; omega), hyl, hbw.trans hn2⟩
  · have t1 : (legsF ls != 0) = true := by simpa using h0
    have H0 := hide h0
    clear h0
    go_enter Tryz.func11, Tryz.ntmps11
    go_wp2_with (go_at_call 25; refine HC.out.mono ?_; rintro e wc ⟨rfl, hnc⟩)
    go_ret2
    exact ⟨none, 0, [], rfl, fun h => absurd h H0.out, fun _ => rfl, Rd.nil, by simp, hnc⟩
end Go.Proofs.YtfnbmcinbmbehaaGreatDoor
