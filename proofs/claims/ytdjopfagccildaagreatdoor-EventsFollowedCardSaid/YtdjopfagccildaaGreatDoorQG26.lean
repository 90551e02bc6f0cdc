/- slices.Equal of refused events and of rides that are the same; '!=' on rides. -/
import Derived.Test.YtdjopfagccildaaGreatDoorQEvG
import Derived.Test.YtdjopfagccildaaGreatDoorQG23
import Derived.Test.YtdjopfagccildaaGreatDoorQG12
namespace Go.Proofs.YtdjopfagccildaaGreatDoor
open Go.RowKit

def encSta (s : St) : List Value := [.string s.ride, .string s.car, .int .i64 s.how, .int .i64 s.up, .int .i64 s.down, .int .i64 s.on, .int .i64 s.off]
theorem encSta_len (s : St) : (encSta s).length = 7 := rfl
theorem encSta_one (s : St) : ∀ v ∈ encSta s, v.oneCell' = true := by
  intro v hv; simp [encSta] at hv
  rcases hv with rfl | rfl | rfl | rfl | rfl | rfl | rfl <;> rfl
set_option maxHeartbeats 2000000 in
theorem sin_Sta (d : Nat) (a0 a1 b0 b1 : ByteArray) (a2 a3 a4 a5 a6 b2 b3 b4 b5 b6 : Int) (w : World) : (Op.equalIn (d + 2) 51 (.agg #[.string a0, .string a1, .int .i64 a2, .int .i64 a3, .int .i64 a4, .int .i64 a5, .int .i64 a6]) (.agg #[.string b0, .string b1, .int .i64 b2, .int .i64 b3, .int .i64 b4, .int .i64 b5, .int .i64 b6])).run Tryz.prog w = .ok (decide ((⟨a0, a1, a2, a3, a4, a5, a6⟩ : St) = ⟨b0, b1, b2, b3, b4, b5, b6⟩)) w := by
  have fu3 := Tryz.underlying3
  have fa3 := Tryz.isAgg3
  have fz3 := Tryz.sizeOf3
  have fu9 := Tryz.underlying9
  have fa9 := Tryz.isAgg9
  have fz9 := Tryz.sizeOf9
  have hS : Tryz.prog.underlying 51 = some (.struct (Tryz.prog.fieldsOf 51)) := by kernel_rfl
  have hp : Tryz.prog.stoodInHeld 51 = false := by kernel_rfl
  rw [run_equalIn_agg w (d + 1) 51 _ _ hS hp]
  simp only [Program.fieldsOf, Tryz.underlying51]
  go_simp
  simp only [toList_iff]
  (repeat' split) <;> simp_all
theorem neq_Sta (a0 a1 b0 b1 : ByteArray) (a2 a3 a4 a5 a6 b2 b3 b4 b5 b6 : Int) (w : World) : (binOp .neq 51 (.agg #[.string a0, .string a1, .int .i64 a2, .int .i64 a3, .int .i64 a4, .int .i64 a5, .int .i64 a6]) (.agg #[.string b0, .string b1, .int .i64 b2, .int .i64 b3, .int .i64 b4, .int .i64 b5, .int .i64 b6])).run Tryz.prog w = .ok (.bool (!decide ((⟨a0, a1, a2, a3, a4, a5, a6⟩ : St) = ⟨b0, b1, b2, b3, b4, b5, b6⟩))) w := by
  rw [run_neq_struct, show (10000 : Nat) = 9998 + 2 from rfl, sin_Sta]; rfl
attribute [local go_sem ↓] neq_Sta
theorem sin_Ref (d : Nat) (x y a b : Int) (w : World) : (Op.equalIn (d + 2) 40 (.agg #[.int .i64 x, .int .i64 y]) (.agg #[.int .i64 a, .int .i64 b])).run Tryz.prog w = .ok (x == a && y == b) w := by
  have u3 := Tryz.underlying3
  have a3 := Tryz.isAgg3
  have z3 := Tryz.sizeOf3
  have u4 := Tryz.underlying31
  have a4 := Tryz.isAgg31
  have z4 := Tryz.sizeOf31
  have hS : Tryz.prog.underlying 40 = some (.struct (Tryz.prog.fieldsOf 40)) := by kernel_rfl
  have hp : Tryz.prog.stoodInHeld 40 = false := by kernel_rfl
  rw [run_equalIn_agg w (d + 1) 40 _ _ hS hp]
  simp only [Program.fieldsOf, Tryz.underlying40]
  go_simp
  (repeat' split) <;> simp_all
theorem neq_Ref (x y a b : Int) (w : World) : (binOp .neq 40 (.agg #[.int .i64 x, .int .i64 y]) (.agg #[.int .i64 a, .int .i64 b])).run Tryz.prog w = .ok (.bool (!(x == a && y == b))) w := by
  rw [run_neq_struct, show (10000 : Nat) = 9998 + 2 from rfl, sin_Ref]; rfl
attribute [local go_sem ↓] neq_Ref

set_option maxRecDepth 100000 in
set_option maxHeartbeats 1000000 in
theorem w_EqualRef (lo lo' : Nat) (A B : Option Addr) (c d : Nat) (l : List (Int × Int)) (w : World) (hA : Rd w lo A 2 encRef l) (hB : Rd w lo' B 2 encRef l) (hl : l.length ≤ 65536) :
    Calls Tryz.prog 13 #[.slice A l.length c, .slice B l.length d] w fun e w' => e = .returned (.bool true) ∧ Nx w w' := by
  generalize hn : l.length = n at *
  have HA := hide hA
  have HB := hide hB
  have HN := hide hn
  clear hA hB hn
  go_enter Tryz.func13, Tryz.ntmps13
  go_wp2
  go_loopw [5, 13] (fun _ i wr => ∃ k : Nat, k ≤ n ∧ i = .int .i64 k ∧ Nx w wr) (fun _ i _ => n - (intOf i).toNat)
  case atStart => exact ⟨0, Nat.zero_le _, rfl, Nx.refl _⟩
  case round =>
    obtain ⟨k, hk, rfl, hbw⟩ := hrel
    by_cases hlt : k < n
    · have hlt' : k < l.length := by have := HN.out; omega
      obtain ⟨b, off, rfl, _, hb, hbr, hc⟩ := HA.out.open_ hbw (by omega)
      obtain ⟨b', off', rfl, _, hb', hbr', hc'⟩ := HB.out.open_ hbw (by omega)
      have c0 : wr.cell? ⟨b, off + k * 2, none⟩ = some (.int .i64 l[k].1) := hc k hlt' 0 _ rfl
      have c1 : wr.cell? ⟨b, off + k * 2 + 1, none⟩ = some (.int .i64 l[k].2) := hc k hlt' 1 _ rfl
      have d0 : wr.cell? ⟨b', off' + k * 2, none⟩ = some (.int .i64 l[k].1) := hc' k hlt' 0 _ rfl
      have d1 : wr.cell? ⟨b', off' + k * 2 + 1, none⟩ = some (.int .i64 l[k].2) := hc' k hlt' 1 _ rfl
      clear hc hc'
      generalize l[k].1 = s at *
      generalize l[k].2 = v at *
      have te : (s == s) = true := by simp
      have tf : (v == v) = true := by simp
      have q1 : (0 : Int) ≤ (k : Int) := by omega
      have q2 : (k : Int) < (n : Int) := by omega
      go_wp2_with fail
      go_quiet (fail)
      go_wp2
      go_roundw
      case rel => exact ⟨k + 1, by omega, by go_num, hbw.drewN _⟩
      case measure => simp [intOf]; omega
    · go_wp2
      go_ret
      exact ⟨rfl, hbw⟩
set_option maxRecDepth 100000 in
set_option maxHeartbeats 1000000 in
theorem w_EqualSta (lo lo' : Nat) (A B : Option Addr) (c d : Nat) (l : List St) (w : World) (hA : Rd w lo A 7 encSta l) (hB : Rd w lo' B 7 encSta l) (hl : l.length ≤ 65536) :
    Calls Tryz.prog 25 #[.slice A l.length c, .slice B l.length d] w fun e w' => e = .returned (.bool true) ∧ Nx w w' := by
  generalize hn : l.length = n at *
  have HA := hide hA
  have HB := hide hB
  have HN := hide hn
  clear hA hB hn
  go_enter Tryz.func25, Tryz.ntmps25
  go_wp2
  go_loopw [5, 13] (fun _ i wr => ∃ k : Nat, k ≤ n ∧ i = .int .i64 k ∧ Nx w wr) (fun _ i _ => n - (intOf i).toNat)
  case atStart => exact ⟨0, Nat.zero_le _, rfl, Nx.refl _⟩
  case round =>
    obtain ⟨k, hk, rfl, hbw⟩ := hrel
    by_cases hlt : k < n
    · have hlt' : k < l.length := by have := HN.out; omega
      obtain ⟨b, off, rfl, _, hb, hbr, hc⟩ := HA.out.open_ hbw (by omega)
      obtain ⟨b', off', rfl, _, hb', hbr', hc'⟩ := HB.out.open_ hbw (by omega)
      have c0 := hc k hlt' 0 _ rfl
      have c1 := hc k hlt' 1 _ rfl
      have c2 := hc k hlt' 2 _ rfl
      have c3 := hc k hlt' 3 _ rfl
      have c4 := hc k hlt' 4 _ rfl
      have c5 := hc k hlt' 5 _ rfl
      have c6 := hc k hlt' 6 _ rfl
      have d0 := hc' k hlt' 0 _ rfl
      have d1 := hc' k hlt' 1 _ rfl
      have d2 := hc' k hlt' 2 _ rfl
      have d3 := hc' k hlt' 3 _ rfl
      have d4 := hc' k hlt' 4 _ rfl
      have d5 := hc' k hlt' 5 _ rfl
      have d6 := hc' k hlt' 6 _ rfl
      clear hc hc'
      generalize l[k] = s at *
      obtain ⟨rid, car, how, up, dn, on, off_⟩ := s
      simp only [Nat.add_zero] at c0 c1 c2 c3 c4 c5 c6 d0 d1 d2 d3 d4 d5 d6
      have q1 : (0 : Int) ≤ (k : Int) := by omega
      have q2 : (k : Int) < (n : Int) := by omega
      go_wp2_with fail
      go_quiet (fail)
      go_wp2
      go_roundw
      case rel => exact ⟨k + 1, by omega, by go_num, hbw.drewN _⟩
      case measure => simp [intOf]; omega
    · go_wp2
      go_ret
      exact ⟨rfl, hbw⟩
end Go.Proofs.YtdjopfagccildaaGreatDoor
/- All rides, by the reference. -/
namespace Go.Proofs.YtdjopfagccildaaGreatDoor
open Go.RowKit Go.Maps

theorem el_Sta : ElemOf Tryz.prog 44 51 7 72 := ElemOf.mk' (z := .agg (staV st0)) Tryz.underlying44 (by kernel_rfl) rfl
theorem mg_dom {κ V : Type} {P : Program} {K : TypeId} {ek : κ → Value} {dom : κ → Prop} {R : Value → Option (DataW Unit × List MemPlace)} {dv : V → DataW Unit} {w : World} {b n : Nat} {f : κ → Option V} (h : MgI P K ek dom R dv w b n f) {k : κ} (hk : (f k).isSome = true) : dom k := by
  obtain ⟨D, _, h2⟩ := h
  exact h2.dm k hk
theorem stsR_len (f : ByteArray → Option St) (ks : List ByteArray) : (stsR f ks).length = ks.length := by unfold stsR; rw [List.length_map]
theorem take_snoc {α : Type} {l : List α} {k : Nat} (h : k < l.length) : l.take (k + 1) = l.take k ++ [l[k]] := by rw [List.take_add_one, List.getElem?_eq_getElem h]; rfl
/-- All rides, in order, by the reference. -/
def StatesEnd (l : List Ev) (at_ : Int) (w : World) (e : Ending) (w' : World) : Prop :=
  ∃ (A : Option Addr) (c : Nat) (ks : List ByteArray), e = .returned (.slice A ks.length c) ∧ Rd w' w.heap.size A 7 encSta (stsR (runR l at_ l.length).rides ks) ∧ KeysOf (runR l at_ l.length).rides ks ∧ ks.length ≤ 3 * l.length ∧ Nx w w'
set_option maxRecDepth 100000 in
set_option maxHeartbeats 2000000 in
theorem w_StatesAt (lo : Nat) (A : Option Addr) (c : Nat) (l : List Ev) (at_ : Int) (w : World) (hR : Rd w lo A 11 encEvt l) (hl : l.length ≤ 1000) (hc : l.length ≤ c) (hok : ∀ x ∈ l, okEv x) :
    Calls Tryz.prog 26 #[.slice A l.length c, .int .i64 at_] w (StatesEnd l at_ w) := by
  have HDA := hide (w_dayAt lo A c l at_ w hR hl hc hok)
  unfold StatesEnd
  obtain ⟨D, hD⟩ : ∃ D, D = runR l at_ l.length := ⟨_, rfl⟩
  rw [← hD]
  have HD := hide hD
  obtain ⟨n, hn⟩ : ∃ n, n = l.length := ⟨_, rfl⟩
  have hnl : n ≤ 1000 := by omega
  rw [← hn] at HDA ⊢
  have HN := hide hn
  clear hR hl hc hok hn hD
  go_enter Tryz.func26, Tryz.ntmps26
  go_wp2_with fail
  refine HDA.out.mono ?_
  rintro e w1 ⟨d, rb, cb, bb, rfl, hDR, _, hn1⟩
  rw [← HD.out, ← HN.out] at hDR
  have HS := hide (w_SortedSt rb (3 * n) D.rides w1 hDR.rides (by omega))
  obtain ⟨d0, d1, d2⟩ := dayR_cells hDR.blk
  have hdl := hDR.lts.1
  have HDR := hide hDR
  have HN1 := hide hn1
  clear hDR hn1 d1 d2
  go_wp2_with (go_at_call 78; refine (w_KeysSt _ _).mono ?_; rintro e w' ⟨rfl, rfl⟩)
  refine HS.out.mono ?_
  rintro e w3 ⟨KA, kc, ks, rfl, hRk, hK, hkl, hn3⟩
  obtain ⟨m, hm⟩ : ∃ m, m = ks.length := ⟨_, rfl⟩
  rw [← hm] at hkl
  rw [← hm]
  have HM := hide hm
  have HRK := hide hRk
  have HK := hide hK
  have HN3 := hide hn3
  have d0' := nx_cell hn3 hdl d0
  have hdl3 := Nat.lt_of_lt_of_le hdl hn3.sz
  clear hm hRk hK hn3 d0 HS
  go_wp2_with fail
  go_loopw [6, 8, 19] (fun v _ i wr => ∃ k : Nat, k ≤ m ∧ i = .int .i64 k ∧ Nx w3 wr ∧ wr.ownsRow w3.heap.size 51 7 v (stsR D.rides (ks.take k)).length ((stsR D.rides (ks.take k)).flatMap encSta)) (fun _ _ i _ => m - (intOf i).toNat)
  case atStart => exact ⟨0, Nat.zero_le _, rfl, Nx.refl _, World.ownsRow_nil _ _ _ _⟩
  case round =>
    obtain ⟨k, hk, rfl, hnx, hown⟩ := hrel
    have HNX := hide hnx
    by_cases hlt : k < m
    · have hlt' : k < ks.length := by have := HM.out; omega
      obtain ⟨b, off, eb, _, hb, hbr, hcs⟩ := HRK.out.open_ hnx (by have := HM.out; omega)
      have c0 : wr.cell? ⟨b, off + k, none⟩ = some (.string ks[k]) := by have := hcs k hlt' 0 _ rfl; simpa using this
      have hts := hide (take_snoc hlt')
      have hks := (HK.out.2 ks[k]).1 (List.getElem_mem hlt')
      have hkd := mg_dom HDR.out.rides hks
      generalize ks[k] = id at *
      have hlk := look_stR (HDR.out.rides.nx (HN3.out.trans hnx)) hkd
      have e0 := nx_cell hnx hdl3 d0'
      have hle : (stsR D.rides (ks.take k)).length ≤ k := by rw [stsR_len, List.length_take]; omega
      have HOW := hide hown
      have hst := hide (show stsR D.rides (ks.take (k + 1)) = stsR D.rides (ks.take k) ++ [(D.rides id).getD st0] by rw [hts.out]; unfold stsR; rw [List.map_append]; rfl)
      generalize stsR D.rides (ks.take k) = L at *
      generalize (D.rides id).getD st0 = s at *
      obtain ⟨rid, car, how, up, dn, on, off_⟩ := s
      unfold stV staV at hlk
      simp only at hlk
      have q1 : (0 : Int) ≤ (k : Int) := by omega
      have q2 : (k : Int) < (m : Int) := by omega
      have hz3 : w3.heap.size ≤ wr.heap.size := hnx.sz
      subst eb
      clear hnx hcs hks hown
      go_wp2_with (first
          | (at_builtin; refine wpApp rfl _ _ _ rfl el_Sta encSta encSta_len encSta_one (by omega) (by omega) w3.heap.size _ L rfl (HOW.out.alloc _) _ ⟨rid, car, how, up, dn, on, off_⟩ _ rfl (hnew (by simp)) rfl (by omega) (by simp; omega) ?_; intro v8 w8 hown8 hg8; (have HO8 := hide hown8); (have HG8 := hide hg8); clear hown8 hg8))
      go_roundw
      case rel => exact ⟨k + 1, by omega, by go_num, (HNX.out.alloc _).grown HG8.out (fun p hp => own_blk_lt HOW.out p hp), by rw [hst.out]; exact HO8.out⟩
      case measure => simp [intOf]; omega
    · obtain rfl : k = m := by omega
      rw [List.take_of_length_le (by have := HM.out; omega)] at hown
      obtain ⟨B, bc, eB, hB, _⟩ := Rd.of_own encSta_len rfl hown
      subst eB
      rw [stsR_len, ← HM.out]
      have HB := hide hB
      clear hB hnx hown
      go_wp2_with fail
      go_ret
      exact ⟨B, bc, ks, by rw [HM.out]; rfl, HB.out.low (HN1.out.trans HN3.out).sz, HK.out, by have := HM.out; omega, (HN1.out.trans HN3.out).trans HNX.out⟩
end Go.Proofs.YtdjopfagccildaaGreatDoor
