/- Trips written: fare.Text. -/
import Derived.Test.YthlhomcgjgfdhaaGreatDoorQBldW
import Derived.Test.YthlhomcgjgfdhaaGreatDoorQG8
import Derived.Test.YthlhomcgjgfdhaaGreatDoorQG16
import Derived.Test.YthlhomcgjgfdhaaGreatDoorQJouF
import Derived.Test.YthlhomcgjgfdhaaGreatDoorQG20
import Derived.Deep.DeepCutAuto
import Derived.Deep.RegionHeld
import Derived.Deep.RegionHeld3
namespace Go.Proofs.YthlhomcgjgfdhaaGreatDoor
open Go.RowKit

set_option maxRecDepth 100000 in
set_option maxHeartbeats 1000000 in
theorem w_TextJF (lo : Nat) (A : Option Addr) (c : Nat) (ts : List Jour) (w : World) (hR : RdJours w lo A ts) (hl : ts.length ≤ 1000) (h0 : joursF ts ≠ 0) :
    Calls Tryz.prog 28 #[.slice A ts.length c] w fun e w' => e = .returned (.tuple #[.string ⟨#[]⟩, .int .i64 (joursF ts)]) ∧ Nx w w' := by
  have HCT := hide (w_CheckTrips lo A c ts w hR hl)
  generalize joursF ts = F at *
  have t1 : (F != 0) = true := by simpa using h0
  clear hR
  generalize ts.length = n at *
  go_enter Tryz.func28, Tryz.ntmps28
  go_wp2_with (go_at_call 73; refine HCT.out.mono ?_; rintro e w1 ⟨rfl, hn1⟩)
  go_ret2
  exact ⟨rfl, hn1⟩
set_option maxRecDepth 100000 in
set_option maxHeartbeats 4000000 in
theorem w_TextJ (lo : Nat) (A : Option Addr) (c : Nat) (ts : List Jour) (w : World) (hR : RdJours w lo A ts) (hl : ts.length ≤ 1000) (h0 : joursF ts = 0) (hO : TxtOk ts) (hT : PowTab w) :
    Calls Tryz.prog 28 #[.slice A ts.length c] w fun e w' => e = .returned (.tuple #[.string ⟨(tripText (ts.map coreJ)).toArray⟩, .int .i64 0]) ∧ Nx w w' := by
  have HCT := hide (w_CheckTrips lo A c ts w hR hl)
  rw [h0] at HCT
  have HR := hide hR.1
  have HX6 := hide hR.2
  have HO := hide hO
  have HT := hide hT
  have HLK := hide (fun (k : Nat) => trip_drop (ts.map coreJ) k)
  obtain ⟨n, hn⟩ : ∃ n, n = ts.length := ⟨_, rfl⟩
  rw [← hn] at HCT hl ⊢
  have HN := hide hn
  clear hR h0 hO hT hn
  go_enter Tryz.func28, Tryz.ntmps28
  go_upto_region 4 with (go_at_call 73; refine HCT.out.mono ?_; rintro e w1 ⟨rfl, hn1⟩)
  have HN1 := hide hn1
  clear HCT hn1
  obtain ⟨b5, hb5⟩ : ∃ b5, b5 = w1.heap.size := ⟨_, rfl⟩
  obtain ⟨w2, hw2⟩ : ∃ w2, w2 = w1.alloc (.cells #[.pointer none, .slice none 0 0] 92 (0, 0)) := ⟨_, rfl⟩
  have HB2 := hide (show Bld w2 b5 b5 [] by rw [hw2, hb5]; exact Bld.new w1)
  have HN2 := hide (show Nx w1 w2 from hw2 ▸ (Nx.refl w1).alloc _)
  have HB5 := hide (show w1.heap.size ≤ b5 by omega)
  go_upto_region 6 with fail
  rw [← hw2, ← hb5]
  clear hw2 hb5
  go_loopw [7, 15] (fun _ i wr => ∃ k : Nat, k ≤ n ∧ i = .int .i64 k ∧ Bld wr b5 b5 (tripText ((ts.map coreJ).take k)) ∧ Nx w1 wr) (fun _ i _ => n - (intOf i).toNat)
  case atStart => exact ⟨0, Nat.zero_le _, rfl, HB2.out, HN2.out⟩
  case round =>
    obtain ⟨k, hk, rfl, hB, hnr⟩ := hrel
    by_cases hlt : k < n
    · have hkl : k < ts.length := by have := HN.out; omega
      have HTK := hide (core_take ts k hkl)
      have hlen : (tripText ((ts.map coreJ).take k)).length + ((tripLine (coreJ ts[k])).length + 1) ≤ 200000 := by
        have h1 := HLK.out (k + 1)
        have h2 := HO.out.short
        rw [HTK.out] at h1
        simp only [List.length_append, List.length_cons, List.length_nil] at h1
        omega
      rw [line_size] at hlen
      have hmem : ts[k] ∈ ts := List.getElem_mem hkl
      have hcp := HO.out.cap _ hmem
      have hi64 := HO.out.i64 _ hmem
      obtain ⟨hRx, _, hLx, _, _⟩ := HX6.out _ hmem
      obtain ⟨b, off, rfl, _, hb, hbr, hc⟩ := HR.out.open_ (HN1.out.trans hnr) (by omega)
      have c0 : wr.cell? ⟨b, off + k * 6, none⟩ = some (.string ts[k].ride) := hc k hkl 0 _ rfl
      have c1 : wr.cell? ⟨b, off + k * 6 + 1, none⟩ = some (.string ts[k].rider) := hc k hkl 1 _ rfl
      have c2 : wr.cell? ⟨b, off + k * 6 + 2, none⟩ = some (.slice ts[k].a ts[k].nodes.length ts[k].cap) := hc k hkl 2 _ rfl
      have c3 : wr.cell? ⟨b, off + k * 6 + 3, none⟩ = some (.int .i64 ts[k].metres) := hc k hkl 3 _ rfl
      have c4 : wr.cell? ⟨b, off + k * 6 + 4, none⟩ = some (.int .i64 ts[k].from_) := hc k hkl 4 _ rfl
      have c5 : wr.cell? ⟨b, off + k * 6 + 5, none⟩ = some (.int .i64 ts[k].to_) := hc k hkl 5 _ rfl
      have HBY := hide (trip_bytes ts[k])
      have hme := hi64 ts[k].metres (by simp)
      have hfr := hi64 ts[k].from_ (by simp)
      have hto := hi64 ts[k].to_ (by simp)
      clear hc hmem hi64
      generalize ts[k] = t at *
      obtain ⟨rd, ri, xa, cp, nds, me, fr, to_⟩ := t
      dsimp only [coreJ] at c0 c1 c2 c3 c4 c5 hlen hcp hme hfr hto hRx hLx
      dsimp only at HBY
      have ej := joinS_size 44 nds
      have ej2 : (joinC 44 (nds.map (fun s => s.data.toList))).length = (joinS 44 nds).size := ej.symm
      rw [ej2, ← itoaS_size, ← itoaS_size, ← itoaS_size] at hlen
      clear ej2 ej
      have HJN : Hid (∀ W, Nx wr W → Calls Tryz.prog 74 #[.slice xa nds.length cp, .string ⟨#[44]⟩] W fun e w' => e = .returned (.string (joinS 44 nds)) ∧ Nx W w') := hide (fun W hW => w_JoinC lo xa cp nds 44 W (hRx.nx ((HN1.out.trans hnr).trans hW)) hcp (by omega) (by have := joinS_size 44 nds; omega))
      have hq10 : ∀ s : ByteArray, (s ++ (⟨#[10]⟩ : ByteArray)).size = s.size + 1 := fun s => by rw [ByteArray.size_append]; rfl
      generalize hr : nds.length = r at *
      have HRL := hide hr
      clear hr hRx
      have z2 : ¬ 9223372036854775807 < rd.size + 1 := by omega
      have z3 : ¬ 9223372036854775807 < rd.size + 1 + ri.size := by omega
      have z4 : ¬ 9223372036854775807 < rd.size + 1 + ri.size + 1 := by omega
      have z5 : ¬ 9223372036854775807 < rd.size + 1 + ri.size + 1 + (itoaS me).size := by omega
      have z6 : ¬ 9223372036854775807 < rd.size + 1 + ri.size + 1 + (itoaS me).size + 1 := by omega
      have z7 : ¬ 9223372036854775807 < rd.size + 1 + ri.size + 1 + (itoaS me).size + 1 + (itoaS fr).size := by omega
      have z8 : ¬ 9223372036854775807 < rd.size + 1 + ri.size + 1 + (itoaS me).size + 1 + (itoaS fr).size + 1 := by omega
      have z9 : ¬ 9223372036854775807 < rd.size + 1 + ri.size + 1 + (itoaS me).size + 1 + (itoaS fr).size + 1 + (itoaS to_).size := by omega
      have z10 : ¬ 9223372036854775807 < rd.size + 1 + ri.size + 1 + (itoaS me).size + 1 + (itoaS fr).size + 1 + (itoaS to_).size + 1 := by omega
      have z11 : ¬ 9223372036854775807 < rd.size + 1 + ri.size + 1 + (itoaS me).size + 1 + (itoaS fr).size + 1 + (itoaS to_).size + 1 + (joinS 44 nds).size := by omega
      have z12 : ¬ 9223372036854775807 < rd.size + 1 + ri.size + 1 + (itoaS me).size + 1 + (itoaS fr).size + 1 + (itoaS to_).size + 1 + (joinS 44 nds).size + 1 := by omega
      have i1 : (0 : Int) ≤ (k : Int) := by omega
      have i2 : (k : Int) < (n : Int) := by omega
      obtain ⟨b7, hb7⟩ : ∃ b7, b7 = wr.heap.size := ⟨_, rfl⟩
      obtain ⟨wb, hwb⟩ : ∃ wb, wb = wr.alloc (.cells #[.string rd, .string ri, .slice xa r cp, .int .i64 me, .int .i64 fr, .int .i64 to_] 71 (0, 0)) := ⟨_, rfl⟩
      have HBB := hide (show wb.heap[b7]? = some (.cells #[.string rd, .string ri, .slice xa r cp, .int .i64 me, .int .i64 fr, .int .i64 to_] 71 (0, 0)) by rw [hwb, hb7]; exact heap_alloc_new wr _)
      have HNB := hide (show Nx wr wb from hwb ▸ (Nx.refl wr).alloc _)
      have hbn : b7 ≠ b5 := by have := hB.lt; omega
      have HBL := hide (hB.nx HNB.out)
      have HPT := hide (fun W (h : Nx wb W) => tab_nx HT.out (HN1.out.trans ((hnr.trans HNB.out).trans h)))
      have HJW := hide (fun W (h : Nx wb W) => HJN.out W (HNB.out.trans h))
      have hbsz : b5 ≤ wb.heap.size := Nat.le_trans (Nat.le_of_lt hB.lt) HNB.out.sz
      have HNR := hide (hnr.trans HNB.out)
      go_upto_region 8 with fail
      rw [← hwb, ← hb7]
      clear hwb hb7 c0 c1 c2 c3 c4 c5 hB hnr HJN
      have HS : Hid (∀ W, Nx wb W → (W.cell? ⟨b7, 0, none⟩ = some (.string rd) ∧ W.cell? ⟨b7, 1, none⟩ = some (.string ri) ∧ W.cell? ⟨b7, 2, none⟩ = some (.slice xa r cp) ∧ W.cell? ⟨b7, 3, none⟩ = some (.int .i64 me) ∧ W.cell? ⟨b7, 4, none⟩ = some (.int .i64 fr) ∧ W.cell? ⟨b7, 5, none⟩ = some (.int .i64 to_))) := hide (fun W hn => by
        have hl := (Array.getElem?_eq_some_iff.1 HBB.out).1
        exact ⟨nx_cell hn hl (cell_of_row wb b7 0 _ _ _ HBB.out), nx_cell hn hl (cell_of_row wb b7 1 _ _ _ HBB.out), nx_cell hn hl (cell_of_row wb b7 2 _ _ _ HBB.out), nx_cell hn hl (cell_of_row wb b7 3 _ _ _ HBB.out), nx_cell hn hl (cell_of_row wb b7 4 _ _ _ HBB.out), nx_cell hn hl (cell_of_row wb b7 5 _ _ _ HBB.out)⟩)
      have HSK : Hid (∀ W W', Nx wb W → KpB b5 W W' → (W'.cell? ⟨b7, 0, none⟩ = some (.string rd) ∧ W'.cell? ⟨b7, 1, none⟩ = some (.string ri) ∧ W'.cell? ⟨b7, 2, none⟩ = some (.slice xa r cp) ∧ W'.cell? ⟨b7, 3, none⟩ = some (.int .i64 me) ∧ W'.cell? ⟨b7, 4, none⟩ = some (.int .i64 fr) ∧ W'.cell? ⟨b7, 5, none⟩ = some (.int .i64 to_))) := hide (fun W W' hn hk => by
        have hl := (Array.getElem?_eq_some_iff.1 HBB.out).1
        have h1 := hk.2 b7 _ _ ((hn.block b7 hl).trans HBB.out) hbn (by decide)
        exact ⟨cell_of_row W' b7 0 _ _ _ h1, cell_of_row W' b7 1 _ _ _ h1, cell_of_row W' b7 2 _ _ _ h1, cell_of_row W' b7 3 _ _ _ h1, cell_of_row W' b7 4 _ _ _ h1, cell_of_row W' b7 5 _ _ _ h1⟩)
      have HX := hide (Nx.refl wb)
      go_region_held3 (fun w' => w'.cell? ⟨b7, 0, none⟩ = some (.string rd) ∧ w'.cell? ⟨b7, 1, none⟩ = some (.string ri) ∧ w'.cell? ⟨b7, 2, none⟩ = some (.slice xa r cp) ∧ w'.cell? ⟨b7, 3, none⟩ = some (.int .i64 me) ∧ w'.cell? ⟨b7, 4, none⟩ = some (.int .i64 fr) ∧ w'.cell? ⟨b7, 5, none⟩ = some (.int .i64 to_))
        (first
          | (refine HS.out _ ?_; (repeat (first | exact HX.out | refine Nx.drew ?_ | refine Nx.alloc ?_ _ | refine Nx.trans ?_ (by assumption))); done)
          | (refine HSK.out _ _ ?_ hkz; (repeat (first | exact HX.out | refine Nx.drew ?_ | refine Nx.alloc ?_ _ | refine Nx.trans ?_ (by assumption))); done))
        (first
          | (go_at_call 58; refine (w_ItoaN _ (by omega) (by omega) _ (HPT.out _ ?_)).mono ?_; (· (repeat (first | exact HX.out | refine Nx.drew ?_ | refine Nx.alloc ?_ _ | refine Nx.trans ?_ (by assumption)))); rintro e wi ⟨rfl, hni⟩)
          | (go_at_call 74; refine (HJW.out _ ?_).mono ?_; (· (repeat (first | exact HX.out | refine Nx.drew ?_ | refine Nx.alloc ?_ _ | refine Nx.trans ?_ (by assumption)))); rintro e wj ⟨rfl, hnj⟩)
          | (go_at_call 57; refine (w_WStr b5 b5 (tripText ((ts.map coreJ).take k)) _ _ (HBL.out.nx ?_) ?_ ?_).mono ?_; (· (repeat (first | exact HX.out | refine Nx.drew ?_ | refine Nx.alloc ?_ _ | refine Nx.trans ?_ (by assumption)))); (· (have e32 : (⟨#[32]⟩ : ByteArray).size = 1 := rfl; have e10 : (⟨#[10]⟩ : ByteArray).size = 1 := rfl; simp only [ByteArray.size_append]; omega)); (· (refine Nat.le_trans hbsz (Nx.sz ?_); (repeat (first | exact HX.out | refine Nx.drew ?_ | refine Nx.alloc ?_ _ | refine Nx.trans ?_ (by assumption))))); rintro e wz ⟨rfl, hbz, hkz, hqz⟩))
      all_goals
        (go_wp2_with fail
         go_roundw
         case rel => exact ⟨k + 1, by omega, by go_num, by rw [HTK.out, ← HBY.out]; exact hbz, by refine Nx.below (B := b5) ?_ hqz HB5.out; refine Nx.trans HNR.out ?_; (repeat (first | exact HX.out | refine Nx.drew ?_ | refine Nx.alloc ?_ _ | refine Nx.trans ?_ (by assumption)))⟩
         case measure => simp [intOf]; omega)
    · have ek : k = n := by omega
      have htk : (ts.map coreJ).take k = ts.map coreJ := List.take_of_length_le (by have := HN.out; simp; omega)
      rw [htk] at hB
      have HB := hide hB
      have HNR := hide hnr
      have hlz : ¬ (200000 : Int) < ((tripText (ts.map coreJ)).length : Int) := by have := HO.out.short; omega
      have hbz := hB.lt
      clear hB hnr htk
      go_wp2_with (first
        | (go_at_call 59; refine (w_BLen b5 b5 _ _ HB.out).mono ?_; rintro e w8 ⟨rfl, rfl⟩)
        | (go_at_call 60; refine (w_BStr b5 b5 _ _ HB.out (by omega)).mono ?_; rintro e w9 ⟨rfl, hq9⟩))
      go_ret2
      exact ⟨rfl, HN1.out.trans (Nx.below HNR.out hq9 HB5.out)⟩
end Go.Proofs.YthlhomcgjgfdhaaGreatDoor
