/- Arcs one after the other: the reference. -/
import Derived.Test.YtmpnilliichpfaaGreatDoorQBanQ
import Derived.Test.YtmpnilliichpfaaGreatDoorQG8
import Derived.Test.YtmpnilliichpfaaGreatDoorQG17
import Derived.Test.YtmpnilliichpfaaGreatDoorQArcT
import Derived.Deep.RegionHeld3
namespace Go.Proofs.YtmpnilliichpfaaGreatDoor
open Go.RowKit

set_option maxRecDepth 100000 in
set_option maxHeartbeats 4000000 in
theorem w_WalkFault (lo : Nat) (A B C : Option Addr) (nn ca cb cc : Nat) (rs : List Arc) (bs : List Ban) (fr : ByteArray) (lo2 : Nat) (D : Option Addr) (cd : Nat) (l : List ByteArray) (w : World)
    (hA : RdArcs w lo B rs) (hal : rs.length ≤ 400) (hB : Rd w lo C 2 encBan bs) (hbl : bs.length ≤ 400) (hR : Rd w lo2 D 1 encS l) (hl : l.length ≤ 1000) :
    Calls Tryz.prog 57 #[.agg #[.slice A nn ca, .slice B rs.length cb, .slice C bs.length cc], .string fr, .slice D l.length cd] w fun e w' => e = .returned (.int .i64 (chainF rs bs fr none l)) ∧ Nx w w' := by
  obtain ⟨wa, hwa⟩ : ∃ wa, wa = w.alloc (.cells #[.slice A nn ca, .slice B rs.length cb, .slice C bs.length cc] 30) := ⟨_, rfl⟩
  have hna : Nx w wa := hwa ▸ (Nx.refl w).alloc _
  have hgw : w.heap.size < wa.heap.size := by rw [hwa]; simp
  have b0 : wa.cell? ⟨w.heap.size, 0, none⟩ = some (.slice A nn ca) := by rw [hwa]; go_simp
  have b1 : wa.cell? ⟨w.heap.size, 1, none⟩ = some (.slice B rs.length cb) := by rw [hwa]; go_simp
  have b2 : wa.cell? ⟨w.heap.size, 2, none⟩ = some (.slice C bs.length cc) := by rw [hwa]; go_simp
  have HAR := hide (fun s W (hx : Nx wa W) => w_ArcAt lo A B C nn bs.length ca cb cc rs s W ((hA.1.nx hna).nx hx) (by omega))
  have HBN := hide (fun f t W (hx : Nx wa W) => w_bannedQ lo A B C nn rs.length ca cb cc bs f t W ((hB.nx hna).nx hx) (by omega))
  have HRA := hide (hA.nx hna).1
  have HR := hide (hR.nx hna)
  clear hA hB hR
  generalize hn : l.length = n at *
  generalize hm : rs.length = m at *
  have HN := hide hn
  have HM := hide hm
  clear hn hm
  obtain ⟨V, hV⟩ : ∃ V, V = chainF rs bs fr none l := ⟨_, rfl⟩
  rw [← hV]
  have HV := hide hV
  clear hV
  have tl : decide ((n : Int) > 2000) = false := decide_eq_false (by omega)
  have tl2 : decide ((2000 : Int) < (n : Int)) = false := decide_eq_false (by omega)
  go_enter Tryz.func57, Tryz.ntmps57
  go_wp2_with fail
  rw [← hwa]
  have HWA := hide hwa
  clear hwa
  generalize w.heap.size = g at *
  go_wp2_with fail
  go_loopw [7, 17] (fun vf i wr => ∃ (k : Nat) (f : ByteArray), k ≤ n ∧ vf = .string f ∧ i = .int .i64 k ∧ Nx wa wr ∧ V = chainF rs bs f (prevOf l k) (l.drop k)) (fun _ i _ => n - (intOf i).toNat)
  case atStart => exact ⟨0, fr, Nat.zero_le _, rfl, rfl, Nx.refl _, HV.out⟩
  case round =>
    obtain ⟨k, f, hk, rfl, rfl, hbw, hq⟩ := hrel
    have HQ := hide hq
    clear hq
    by_cases hlt : k < n
    · have hlt' : k < l.length := by have := HN.out; omega
      have HD := hide (chain_drop rs bs l f k hlt')
      obtain ⟨b, off, rfl, _, hb, hbr, hc⟩ := HR.out.open_ hbw (by have := HN.out; omega)
      have c0 : wr.cell? ⟨b, off + k, none⟩ = some (.string l[k]) := by have := hc k hlt' 0 _ rfl; simpa using this
      have HPC := hide (fun h0 : 0 < k => (show wr.cell? ⟨b, off + (k - 1), none⟩ = some (.string (l[k - 1]'(by omega))) by have := hc (k - 1) (by omega) 0 _ rfl; simpa using this))
      have HPV := hide (fun h0 : 0 < k => (show prevBan bs (prevOf l k) l[k] = bannedB bs (l[k - 1]'(by omega)) l[k] by rw [prevOf_pos _ k h0 (by omega)]; rfl))
      have HP0 := hide (fun h0 : k = 0 => (show prevBan bs (prevOf l k) l[k] = false by rw [show prevOf l k = none by subst h0; rfl]; rfl))
      have bb0 := nx_cell hbw hgw b0
      have bb1 := nx_cell hbw hgw b1
      have bb2 := nx_cell hbw hgw b2
      clear hc
      generalize l[k] = s at *
      generalize prevBan bs (prevOf l k) s = pb at *
      by_cases hf : arcI rs s < 0
      · have tf : decide (arcI rs s < 0) = true := decide_eq_true hf
        have HG := hide (HD.out.trans (if_pos hf))
        clear hf
        go_wp2_with (go_at_call 59; refine (HAR.out s _ hbw).mono ?_; rintro e w2 ⟨rfl, hn2⟩)
        go_ret
        exact ⟨ret_int (by rw [HQ.out, HG.out]), hna.trans (hbw.trans hn2)⟩
      obtain ⟨i, hi, ei, hai⟩ := arc_found (Int.not_lt.1 hf)
      have ha := hai hi
      have HG := hide (HD.out.trans (if_neg hf))
      rw [ha] at HG
      have HARs := hide (fun W hx => HAR.out s W hx)
      rw [ei] at HARs
      clear hf ei HD hai ha
      have him : i < m := by have := HM.out; omega
      have t0 : decide ((i : Int) < 0) = false := decide_eq_false (by omega)
      go_wp2_with fail
      refine (HARs.out _ hbw).mono ?_
      rintro e w2 ⟨rfl, hn2⟩
      have hnx2 := hbw.trans hn2
      have gg0 := nx_cell hnx2 hgw b0
      have gg1 := nx_cell hnx2 hgw b1
      have gg2 := nx_cell hnx2 hgw b2
      obtain ⟨ba, offa, rfl, _, hba, hbar, hca⟩ := HRA.out.open_ hnx2 (by omega)
      have a1 : w2.cell? ⟨ba, offa + i * 5 + 1, none⟩ = some (.string rs[i].from_) := hca i hi 1 _ rfl
      have a2 : w2.cell? ⟨ba, offa + i * 5 + 2, none⟩ = some (.string rs[i].to_) := hca i hi 2 _ rfl
      have HPC2 := hide (fun h0 : 0 < k => nx_cell hn2 hbr (HPC.out h0))
      have hb2 := Nat.lt_of_lt_of_le hbr hn2.sz
      have hg2 := Nat.lt_of_lt_of_le hgw hnx2.sz
      clear hca c0 HPC bb0 bb1 bb2
      generalize rs[i].from_ = xf at *
      generalize rs[i].to_ = xt at *
      have i1 : (0 : Int) ≤ (i : Int) := by omega
      have i2 : (i : Int) < (m : Int) := by omega
      go_upto_region 10 with fail
      go_cut [28] (fun v wx => ∃ bb : Bool, v = .bool bb ∧ bb = decide (f ≠ ByteArray.empty ∧ xf ≠ f) ∧ w2 = wx)
      case first =>
        by_cases hc1 : f = ByteArray.empty
        · have e1 : f.toList = [] := (emptyL f).2 hc1
          have HC := hide hc1
          clear hc1
          go_wp2_with fail
          go_meet
          exact ⟨_, rfl, by rw [decide_eq_false (fun h => h.1 HC.out)], rfl⟩
        · have e1 : ¬ f.toList = [] := fun h => hc1 ((emptyL f).1 h)
          have HC := hide hc1
          clear hc1
          by_cases hc2 : xf = f
          · have e2 : (xf.toList == f.toList) = true := by rw [eqS_iff]; exact decide_eq_true hc2
            have HC2 := hide hc2
            clear hc2
            go_wp2_with fail
            go_meet
            exact ⟨_, rfl, by rw [decide_eq_false (fun h => h.2 HC2.out)], rfl⟩
          · have e2 : (xf.toList == f.toList) = false := by rw [eqS_iff]; exact decide_eq_false hc2
            have HC2 := hide hc2
            clear hc2
            go_wp2_with fail
            go_meet
            exact ⟨_, rfl, by rw [decide_eq_true ⟨HC.out, HC2.out⟩]; first | rfl | simp [e1], rfl⟩
      case rest =>
        obtain ⟨bb, rfl, hbb, rfl⟩ := hcut
        have HBB := hide hbb
        clear hbb
        rcases Bool.eq_false_or_eq_true bb with rfl | rfl
        · have HG2 := hide (HG.out.trans (if_pos (of_decide_eq_true HBB.out.symm)))
          go_wp2_with fail
          go_ret
          exact ⟨ret_int (by rw [HQ.out, HG2.out]), hna.trans hnx2⟩
        · have HG2 := hide (HG.out.trans (if_neg (of_decide_eq_false HBB.out.symm)))
          clear HG HBB
          go_upto_region 12 with fail
          go_cut [41] (fun v wx => v = .bool pb ∧ Nx w2 wx)
          case first =>
            clear a1 a2
            by_cases hk0 : 0 < k
            · have hp := HPC2.out hk0
              have hpv := HPV.out hk0
              generalize (l[k - 1]'(by omega)) = p0 at *
              have k1 : IntKind.i64.wrap ((k : Int) - 1) = (k : Int) - 1 := IntWalk.i64_in _ (by omega)
              have k2 : (1 : Int) ≤ (k : Int) := by omega
              have k3 : ((k : Int) - 1).toNat = k - 1 := by omega
              have k4 : (k : Int) - 1 < (n : Int) := by omega
              have kp : decide ((k : Int) > 0) = true := decide_eq_true (by omega)
              have kp2 : decide ((0 : Int) < (k : Int)) = true := decide_eq_true (by omega)
              have hB2 := HBN.out p0 s _ hnx2.drew
              rw [← hpv] at hB2
              have HB2 := hide hB2
              clear hB2 hpv
              go_region_held3 (fun w' => w'.cell? ⟨g, 0, none⟩ = some (.slice A nn ca) ∧ w'.cell? ⟨g, 1, none⟩ = some (.slice (some ⟨ba, offa, none⟩) m cb) ∧ w'.cell? ⟨g, 2, none⟩ = some (.slice C bs.length cc) ∧ w'.cell? ⟨b, off + (k - 1), none⟩ = some (.string p0))
                (first | (go_split_ands; exact ⟨nx_cell hn4 hg2 ‹_›, nx_cell hn4 hg2 ‹_›, nx_cell hn4 hg2 ‹_›, nx_cell hn4 hb2 ‹_›⟩) | go_keep)
                (first | (go_at_call 129; refine HB2.out.mono ?_; rintro e w4 ⟨rfl, hn4⟩))
              go_wp2
              go_meet
              exact ⟨rfl, (Nx.refl w2).drew.trans hn4⟩
            · have kp : decide ((k : Int) > 0) = false := decide_eq_false (by omega)
              have kp2 : decide ((0 : Int) < (k : Int)) = false := decide_eq_false (by omega)
              have hb0 := HP0.out (by omega)
              go_quiet (fail)
              go_wp2
              go_meet
              exact ⟨by rw [hb0], (Nx.refl _).drewN _⟩
          case rest =>
            obtain ⟨rfl, hx⟩ := hcut
            have e2 := nx_cell hx hbar a2
            have h1 := nx_cell hx hg2 gg1
            clear a1 a2 gg0 gg1 gg2
            cases hpb : pb
            · rw [hpb, if_neg (by simp)] at HG2
              go_wp2_with fail
              go_roundw
              case rel => exact ⟨k + 1, xt, by omega, rfl, by go_num, hnx2.trans hx, by rw [HQ.out, HG2.out]⟩
              case measure => simp [intOf]; omega
            · rw [hpb, if_pos rfl] at HG2
              go_wp2_with fail
              go_ret
              exact ⟨ret_int (by rw [HQ.out, HG2.out]), hna.trans (hnx2.trans hx)⟩
    · go_wp2
      go_ret
      exact ⟨ret_int (by rw [HQ.out, List.drop_of_length_le (by have := HN.out; omega)]; rfl), hna.trans hbw⟩
end Go.Proofs.YtmpnilliichpfaaGreatDoor
