/- jitkeep1.WrittenIsFollowed returns true. -/
import Derived.Test.YtfkmbeppckelfaaGreatDoorQG39
import Derived.Test.YtfkmbeppckelfaaGreatDoorQG54
import Derived.Test.YtfkmbeppckelfaaGreatDoorQWriW
import Derived.Test.YtfkmbeppckelfaaGreatDoorQG55
import Derived.Test.YtfkmbeppckelfaaGreatDoorQG49
import Derived.Test.YtfkmbeppckelfaaGreatDoorQG4
namespace Go.Proofs.YtfkmbeppckelfaaGreatDoor
open Go.RowKit Go.Maps

set_option maxRecDepth 100000 in
set_option maxHeartbeats 8000000 in
theorem w_lawWI (A : Option Addr) (n c : Nat) (w : World) (hn : n ≤ 9223372036854775807)
    (hL : 0 < n → ∃ b off, A = some ⟨b, off, none⟩ ∧ b < w.heap.size ∧ ∀ j, j < n → ∃ z : Int, w.cell? ⟨b, off + j, none⟩ = some (.int .i64 z) ∧ -9223372036854775808 ≤ z ∧ z ≤ 9223372036854775807) :
    Calls Tryz.prog 6 #[.slice A n c] w (TrueNx w) := by
  have hS0 : Str (w.alloc (.cells #[.slice A n c, .int .i64 0] 25)) w.heap.size 0 := str_new A n c w hn hL
  clear hL
  have hsz : (w.alloc (.cells #[.slice A n c, .int .i64 0] 25)).heap.size = w.heap.size + 1 := by simp
  go_enter Tryz.func6, Tryz.ntmps6
  go_wp2_with fail
  refine (w_Range 0 14 _ _ _ hS0 (by omega) (by omega) (by omega)).mono ?_
  rintro e w1 ⟨r, hr1, hr2, rfl, hg1, hS1⟩
  obtain ⟨m, rfl⟩ : ∃ m : Nat, r = (m : Int) := ⟨r.toNat, by omega⟩
  have hz1 := hg1.sz
  rw [hsz] at hz1
  have hg01 : Gr w.heap.size w w1 := (Gr.of_nx ((Nx.refl w).alloc _)).trans hg1
  clear hg1 hS0 hsz
  go_wp2_with fail
  refine (w_RightEvents m _ _ _ (by omega) hS1 (by omega)).mono ?_
  rintro e w2 ⟨B, cB, l, rfl, hR2, hlm, hlc, hok, hev, hg2, hS2⟩
  have HR2 := hide hR2
  have HOK := hide hok
  have HEV := hide hev
  have HG2 := hide (hg01.trans hg2)
  have hl14 : l.length ≤ 14 := by omega
  have hsw1 : w.heap.size < w1.heap.size := by omega
  have HNE := hide (w_NewEvent w1.heap.size B cB l 1000 w.heap.size _ w2 hR2 hsw1 hg2.sz (by omega) hlc hok (by omega) hS2 (by omega))
  obtain ⟨nl, hnl⟩ : ∃ nl, nl = l.length := ⟨_, rfl⟩
  rw [← hnl] at HNE hl14 ⊢
  have HNL := hide hnl
  clear hR2 hok hev hS2 hg2 hg01 hS1 hlm hlc hr1 hr2 hnl
  go_wp2_with fail
  refine HNE.out.mono ?_
  rintro e w3 ⟨x, rfl, hxo, hg3, _⟩
  have HXO := hide hxo
  have HR3 := hide (HR2.out.gr hg3 hsw1)
  have HT := hide (fun W (h : Nx w3 W) => Nx.of_gr ((HG2.out.trans hg3).then_nx h) (Nat.le_refl _))
  clear hxo hg3 HNE HR2 HG2
  obtain ⟨w4, hw4⟩ : ∃ w4, w4 = w3.alloc (.cells (evA x) 31 (0, 0)) := ⟨_, rfl⟩
  have hn4 : Nx w3 w4 := hw4 ▸ (Nx.refl w3).alloc _
  have HWR := hide (w_Write w1.heap.size B cB l x w4 (HR3.out.nx hn4) (by have := HNL.out; omega) HOK.out HXO.out)
  have hb4 : w4.heap[w3.heap.size]? = some (.cells (evA x) 31 (0, 0)) := by rw [hw4]; exact heap_alloc_new w3 _
  have HN4 := hide hn4
  unfold WriteEnd at HWR
  have HWK := hide (fun h : writeF l x = 0 => writeF_ok h)
  obtain ⟨F, hF⟩ : ∃ F, F = writeF l x := ⟨_, rfl⟩
  rw [← hF] at HWR HWK
  rw [← HNL.out] at HWR
  obtain ⟨y, hy⟩ : ∃ y, y = newE l x := ⟨_, rfl⟩
  rw [← hy] at HWR HWK
  clear hn4 hF hy HXO
  obtain ⟨xso, xno, xat, xki, xri, xca, xnd, xup, xdn, xfo, xnu⟩ := x
  unfold evA at HWR hw4 hb4
  simp only at HWR hw4 hb4
  obtain ⟨d0, d1, d2, d3, d4, d5, d6, d7, d8, d9, d10⟩ := evb_cells hb4
  have hbl4 := (Array.getElem?_eq_some_iff.1 hb4).1
  clear hb4
  unfold evA
  simp only
  go_upto_region 4 with fail
  rw [← hw4]
  clear hw4
  go_wp2_with fail
  refine HWR.out.mono ?_
  rintro e w5 ⟨⟨B5, m5, c5, rfl, h5a, h5b⟩, hn5⟩
  have HN5 := hide (HN4.out.trans hn5)
  have H5a := hide h5a
  have H5b := hide h5b
  obtain ⟨w6, hw6⟩ : ∃ w6, w6 = w5.alloc (.cells #[.slice B5 m5 c5] 26 (0, 0)) := ⟨_, rfl⟩
  obtain ⟨bx, hbx⟩ : ∃ bx, bx = w5.heap.size := ⟨_, rfl⟩
  have hn6 : Nx w5 w6 := hw6 ▸ (Nx.refl w5).alloc _
  have hb6 : w6.heap[bx]? = some (.cells #[.slice B5 m5 c5] 26 (0, 0)) := by rw [hw6, hbx]; exact heap_alloc_new w5 _
  have HB6 := hide hb6
  have HN6 := hide (HN5.out.trans hn6)
  have HN56 := hide hn6
  clear hn5 h5a h5b HWR hn6 hb6 d0 d1 d2 d3 d4 d5 d6 d7 d8 d9 d10
  go_upto_region 5 with fail
  rw [← hw6, ← hbx]
  clear hw6 hbx
  have b0 : w6.cell? ⟨bx, 0, none⟩ = some (.slice B5 m5 c5) := cell_of_row w6 _ 0 _ _ _ HB6.out
  have hbl6 := (Array.getElem?_eq_some_iff.1 HB6.out).1
  have hq : F = 0 ∨ (F != 0) = true := by simp; omega
  rcases hq with hq | hq
  · obtain ⟨em5, hcap, hR5⟩ := H5b.out hq
    obtain ⟨_, hr1, hlw⟩ := HWK.out hq
    subst hq
    obtain ⟨b5, off5, eb5, hlo5, hb5, hc5⟩ := hR5 (by simp)
    have hlen : (l ++ [y]).length = nl + 1 := by rw [List.length_append, ← HNL.out]; rfl
    have HR6 := hide ((hR5.nx HN56.out).low (Nat.zero_le _))
    have HRO := hide (fun W (hn : Nx w6 W) => (show Calls Tryz.prog 36 #[.slice B5 m5 c5] W fun e w' => ∃ (B : Option Addr) (m cb : Nat), e = .returned (.tuple #[.slice B m cb, .int .i64 0]) ∧ m = (refP (l ++ [y]) endMo (l ++ [y]).length).length ∧ Rd w' 0 B 2 encRef (refP (l ++ [y]) endMo (l ++ [y]).length) ∧ Nx W w' by
      rw [em5, ← hlen]
      refine (w_RefusedOf 0 B5 c5 (l ++ [y]) W (HR6.out.nx hn) (by rw [hlen]; omega) (fun z hz => okEv_of (evs_right hr1 hz))).mono ?_
      rintro e w' ⟨⟨B, m, cb, rfl, _, h⟩, hn'⟩
      obtain ⟨h1, h2⟩ := h hr1
      exact ⟨B, m, cb, by rw [hr1], h1, h2.low (Nat.zero_le _), hn'⟩))
    have hany : (refP (l ++ [y]) endMo (l ++ [y]).length).any (atNo nl) = false := by
      rcases refP_last hr1 with ⟨_, hno⟩ | ⟨hne, _⟩
      · rw [List.any_eq_false]
        intro p hp
        have := hno p hp
        unfold atNo
        rw [decide_eq_true_eq, HNL.out]
        exact this
      · exact absurd hlw hne
    have hrl : (refP (l ++ [y]) endMo (l ++ [y]).length).length ≤ 100 := by have := refP_len (l ++ [y]) endMo (l ++ [y]).length; omega
    obtain ⟨R, hR⟩ : ∃ R, R = refP (l ++ [y]) endMo (l ++ [y]).length := ⟨_, rfl⟩
    rw [← hR] at HRO hany hrl
    have HANY := hide hany
    have HEQ := hide (fun W (hn : Nx w6 W) => (show Calls Tryz.prog 24 #[.slice B5 nl c5, .slice B nl cB] W fun e w' => e = .returned (.bool true) ∧ Nx W w' by
      have h1 : Rd W 0 B5 11 encEvt l := by
        have := (HR6.out.nx hn).take nl
        rwa [HNL.out, List.take_left'] at this
        rfl
      rw [HNL.out]
      exact w_EqualEv 0 w1.heap.size B5 B c5 cB l W h1 (HR3.out.nx (HN6.out.trans hn)) (by have := HNL.out; omega)))
    have HW1 := hide (fun (p : Int × Int) W (hn : Nx w6 W) => w_written1 nl (by omega) p bx B5 c5 W (by have := nx_cell hn hbl6 b0; rwa [em5] at this) (Nat.lt_of_lt_of_le hbl6 hn.sz))
    have HM5 := hide em5
    subst eb5
    have hcap' : nl + 1 ≤ c5 := by omega
    subst em5
    clear hR5 hc5 hr1 hlw hany hR H5a H5b HWK hcap hlo5
    go_wp2_with fail
    refine (HRO.out _ (Nx.refl _)).mono ?_
    rintro e w7 ⟨B7, m7, c7, rfl, em7, hR7, hn7⟩
    have HCF := hide (show Calls Tryz.prog 37 #[.slice B7 m7 c7, .func (.func 38) #[] #[.pointer (some ⟨bx, 0, none⟩)]] w7 fun e w' => e = .returned (.bool false) ∧ Nx w7 w' by
      rw [em7, ← HANY.out]
      exact w_ContFRef _ (atNo nl) _ eg_written 0 B7 c7 R w7 (fun p W hn => HW1.out p W (hn7.trans hn)) hR7 (by omega))
    have HN7 := hide hn7
    have b7 := nx_cell hn7 hbl6 b0
    clear hn7 hR7 em7 HRO
    go_upto_region 9 with (go_at_call 37; refine HCF.out.mono ?_; rintro e w8 ⟨rfl, hn8⟩; (have HN8 := hide (HN7.out.trans hn8)); (have b8 := nx_cell hn8 (Nat.lt_of_lt_of_le hbl6 HN7.out.sz) b7); clear hn8)
    have hbl8 : bx < w8.heap.size := Nat.lt_of_lt_of_le hbl6 HN8.out.sz
    have q1 : (0 : Int) ≤ (nl : Int) := by omega
    have q2 : (nl : Int) ≤ (c5 : Int) := by omega
    have q3 : ((nl : Int) + 1 == (nl : Int) + 1) = true := by simp
    have q4 : IntKind.i64.wrap ((nl : Int) + 1) = (nl : Int) + 1 := IntWalk.i64_in _ (by omega)
    clear HCF b7
    go_wp2_with (first
      | (go_at_call 24; refine (HEQ.out _ HN8.out).mono ?_; rintro e w9 ⟨rfl, hn9⟩; (have HN9 := hide (HN8.out.trans hn9)); clear hn9)
      | (go_at_call 30; refine (w_ready _).mono ?_; rintro e w10 ⟨rfl, hn10⟩))
    go_ret
    exact ⟨rfl, HT.out _ ((HN6.out.trans HN9.out).trans hn10)⟩
  · have em5 := H5a.out (by simpa using hq)
    subst em5
    clear H5a H5b HWK
    go_wp2_with (go_at_call 30; refine (w_ready _).mono ?_; rintro e w7 ⟨rfl, hn7⟩)
    go_ret
    exact ⟨rfl, HT.out _ (HN6.out.trans hn7)⟩
end Go.Proofs.YtfkmbeppckelfaaGreatDoor
