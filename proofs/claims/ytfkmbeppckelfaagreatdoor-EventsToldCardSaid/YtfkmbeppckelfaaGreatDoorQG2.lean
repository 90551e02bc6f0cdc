/- The day's cars: broken, car, was. -/
import Derived.Test.YtfkmbeppckelfaaGreatDoorQG1
import Derived.Deep.RegionHeld3
import Derived.Deep.RegionWith
import Derived.Deep.DeepCutAuto
import Derived.RegionTactic
import Derived.StillTailTactics
import Derived.Test.YtfkmbeppckelfaaGreatDoorQG0
import Derived.Test.YtfkmbeppckelfaaGreatDoorQShelfK
namespace Go.Proofs.YtfkmbeppckelfaaGreatDoor
open Go.RowKit Go.Maps

theorem zeroCrewE (w : World) : (zeroValue 109).run Tryz.prog w = .ok (ptrV none) w := by kernel_rfl
theorem zeroStateE (w : World) : (zeroValue 105).run Tryz.prog w = .ok (ptrV none) w := by kernel_rfl
theorem look_car {w : World} {cb n : Nat} {fc : ByteArray → Option (Option Nat)} (h : MpSP w cb n fc) {key : ByteArray} (hk : domS key) : (Instr.lookup 87 (.map (some cb)) (.string key) false).run Tryz.prog w = .ok (ptrV ((fc key).getD none)) w :=
  (h.look elemPtr law_strE Tryz.underlying87 trivial (zeroCrewE w) hk (keyS_mk Tryz.underlying9 hk)).1
theorem look_ride {w : World} {rb n : Nat} {fr : ByteArray → Option (Option Nat)} (h : MpSP w rb n fr) {key : ByteArray} (hk : domS key) : (Instr.lookup 86 (.map (some rb)) (.string key) false).run Tryz.prog w = .ok (ptrV ((fr key).getD none)) w :=
  (h.look elemPtr law_strE Tryz.underlying86 trivial (zeroStateE w) hk (keyS_mk Tryz.underlying9 hk)).1
theorem crw_cells {w : World} {p m : Nat} {c : Crew} (h : w.heap[p]? = some (crwO c m)) : w.cell? ⟨p, 0, none⟩ = some (.string c.node) ∧ w.cell? ⟨p, 1, none⟩ = some (.int .i64 c.at_) ∧ w.cell? ⟨p, 2, none⟩ = some (.bool c.broken) ∧ w.cell? ⟨p, 3, none⟩ = some (.map (some m)) :=
  ⟨cell_of_row w p 0 _ _ _ h, cell_of_row w p 1 _ _ _ h, cell_of_row w p 2 _ _ _ h, cell_of_row w p 3 _ _ _ h⟩
theorem sta_cells {w : World} {p : Nat} {s : St} (h : w.heap[p]? = some (staO s)) : w.cell? ⟨p, 0, none⟩ = some (.string s.ride) ∧ w.cell? ⟨p, 1, none⟩ = some (.string s.car) ∧ w.cell? ⟨p, 2, none⟩ = some (.int .i64 s.how) ∧ w.cell? ⟨p, 3, none⟩ = some (.int .i64 s.up) ∧ w.cell? ⟨p, 4, none⟩ = some (.int .i64 s.down) ∧ w.cell? ⟨p, 5, none⟩ = some (.int .i64 s.on) ∧ w.cell? ⟨p, 6, none⟩ = some (.int .i64 s.off) :=
  ⟨cell_of_row w p 0 _ _ _ h, cell_of_row w p 1 _ _ _ h, cell_of_row w p 2 _ _ _ h, cell_of_row w p 3 _ _ _ h, cell_of_row w p 4 _ _ _ h, cell_of_row w p 5 _ _ _ h, cell_of_row w p 6 _ _ _ h⟩
set_option maxRecDepth 100000 in
set_option maxHeartbeats 1000000 in
theorem w_broken (d lo rb cb N : Nat) (D : DayP) (fr fc : ByteArray → Option (Option Nat)) (fm : ByteArray → Nat) (key : ByteArray) (w : World) (h : DayW w lo rb cb N D fr fc fm) (h2 : w.cell? ⟨d, 2, none⟩ = some (.map (some cb))) (hk : domS key) :
    Calls Tryz.prog 128 #[.pointer (some ⟨d, 0, none⟩), .string key] w fun e w' => e = .returned (.bool (brokenP D key)) ∧ w = w' := by
  have hl := look_car h.cars.map hk
  cases hc : D.cars key with
  | none =>
    have hb : brokenP D key = false := by unfold brokenP carP; rw [hc]; rfl
    rw [h.cars.non key hc] at hl
    rw [hb]
    simp only [Option.getD_none, ptrV] at hl
    have H := hide h
    clear h hb hc
    go_enter Tryz.func128, Tryz.ntmps128
    go_wp2_with fail
    go_ret
    exact ⟨rfl, rfl⟩
  | some c =>
    obtain ⟨p, hp, _, hpo, _⟩ := h.cars.at_ key c hc
    have hb : brokenP D key = c.broken := by unfold brokenP carP; rw [hc]; rfl
    rw [hp] at hl
    rw [hb]
    simp only [Option.getD_some, ptrV] at hl
    have c2 := (crw_cells hpo).2.2.1
    have H := hide h
    clear h hb hc hpo hp
    go_enter Tryz.func128, Tryz.ntmps128
    go_wp2_with fail
    go_ret
    exact ⟨rfl, rfl⟩
theorem setC_same {D : DayP} {k : ByteArray} {c : Crew} (h : D.cars k = some c) : setC D k (carP D k) = D := by
  obtain ⟨r, f⟩ := D
  unfold setC carP
  simp only at h ⊢
  rw [h]
  simp only [Option.getD_some, DayP.mk.injEq, true_and]
  funext j
  unfold updF
  split
  · rename_i e; subst e; exact h.symm
  · rfl
theorem carP_none {D : DayP} {k : ByteArray} (h : D.cars k = none) : carP D k = crew0 := by unfold carP; rw [h]; rfl
/-- The car that is told of, and where it lies. -/
def CarOut (lo rb cb N : Nat) (D : DayP) (fr : ByteArray → Option (Option Nat)) (key : ByteArray) (w : World) (e : Ending) (w' : World) : Prop :=
  ∃ (p : Nat) (fc' : ByteArray → Option (Option Nat)) (fm' : ByteArray → Nat), e = .returned (.pointer (some ⟨p, 0, none⟩)) ∧ DayW w' lo rb cb (N + 1) (setC D key (carP D key)) fr fc' fm' ∧ fc' key = some (some p) ∧ lo ≤ p ∧ Gr cb w w'
set_option maxRecDepth 100000 in
set_option maxHeartbeats 2000000 in
theorem w_car (d lo rb cb N : Nat) (D : DayP) (fr fc : ByteArray → Option (Option Nat)) (fm : ByteArray → Nat) (key : ByteArray) (w : World) (h : DayW w lo rb cb N D fr fc fm) (h2 : w.cell? ⟨d, 2, none⟩ = some (.map (some cb))) (hd : d < lo) (hdc : d ≠ cb) (hk : domS key) (hN : N < 100000) :
    Calls Tryz.prog 182 #[.pointer (some ⟨d, 0, none⟩), .string key] w (CarOut lo rb cb N D fr key w) := by
  have hl := look_car h.cars.map hk
  cases hc : D.cars key with
  | some c =>
    obtain ⟨p, hp, hlp, hpo, _⟩ := h.cars.at_ key c hc
    rw [hp] at hl
    simp only [Option.getD_some, ptrV] at hl
    have H := hide h
    have HP := hide hp
    have HS := hide (setC_same hc)
    clear h hc hpo hp
    go_enter Tryz.func182, Tryz.ntmps182
    go_wp2_with fail
    go_ret
    exact ⟨p, fc, fm, rfl, by rw [HS.out]; exact H.out.mono (Nat.le_succ _), HP.out, hlp, Gr.refl _ _⟩
  | none =>
    have hnn := h.cars.non key hc
    rw [hnn] at hl
    simp only [Option.getD_none, ptrV] at hl
    have hsz := h.sz
    have hrl := h.rlo
    have hcl := h.clo
    have hM := h.cars.map
    have hkey := keyS_mk (P := Tryz.prog) Tryz.underlying9 hk
    have hmm := @run_makeMap Tryz.prog
    obtain ⟨w1, hw1⟩ : ∃ w1, w1 = (w.alloc (.map #[] 0)).alloc (.cells #[.string ⟨#[]⟩, .int .i64 0, .bool false, .map (some w.heap.size)] 111 (0, 0)) := ⟨_, rfl⟩
    have hn1 : Nx w w1 := hw1 ▸ ((Nx.refl w).alloc _).alloc _
    have hD1 := h.nx hn1
    have hM1 := hM.nx hn1
    have hp1 : w1.heap[w.heap.size + 1]? = some (crwO crew0 w.heap.size) := by
      rw [hw1]
      have := heap_alloc_new (w.alloc (.map #[] 0)) (.cells #[.string ⟨#[]⟩, .int .i64 0, .bool false, .map (some w.heap.size)] 111 (0, 0))
      simpa [crwO, crwV, crew0, eB] using this
    have hm1 : MpKB w1 w.heap.size 0 (fun _ => none) := by
      rw [hw1]; exact (MgI.made w).nx ((Nx.refl _).alloc _)
    have hd1 : w1.cell? ⟨d, 2, none⟩ = some (.map (some cb)) := nx_cell hn1 (by omega) h2
    have hpn : ∀ j q, fc j = some (some q) → q ≠ w.heap.size + 1 := by
      intro j q hj e
      cases hcj : D.cars j with
      | none => rw [h.cars.non j hcj] at hj; cases hj
      | some c =>
        obtain ⟨q', a, _, b, _⟩ := h.cars.at_ j c hcj
        rw [hj] at a; injection a with a; injection a with a; subst a
        have := (Array.getElem?_eq_some_iff.1 b).1
        omega
    have hmn : ∀ j, (D.cars j).isSome = true → fm j ≠ w.heap.size := by
      intro j hj e
      cases hcj : D.cars j with
      | none => rw [hcj] at hj; cases hj
      | some c =>
        obtain ⟨q', _, _, _, _, g⟩ := h.cars.at_ j c hcj
        have := g.lt
        omega
    have H := hide h
    have HD1 := hide hD1
    have HP1 := hide hp1
    have HM1 := hide hm1
    have HPN := hide hpn
    have HMN := hide hmn
    have HC := hide hc
    have HW1 := hide hw1
    have HN1 := hide hn1
    have HG := hide hM1
    clear h hD1 hp1 hm1 hpn hmn hc hw1 hn1 hM hM1 hnn
    go_enter Tryz.func182, Tryz.ntmps182
    go_wp2_with (at_mapUpdate; rw [show ((w.alloc (.map #[] 0)).alloc (.cells #[.string ⟨#[]⟩, .int .i64 0, .bool false, .map (some w.heap.size)] 111 (0, 0))) = w1 from HW1.out.symm]; refine wpMgPut _ rfl _ _ _ _ rfl elemPtr law_strE strV_inj Tryz.underlying87 cb N _ rfl HG.out (by unfold maxLen; omega) key rfl hk _ hkey (some (w.heap.size + 1)) rfl trivial ?_; intro w2 hM2 hg2; (have hl2 := look_car hM2 hk); (simp only [if_true, Option.getD_some, ptrV] at hl2); (have hd2 : w2.cell? ⟨d, 2, none⟩ = some (.map (some cb)) := World.grownBy.cell hg2 hd1 (by simp; omega)); (have HM2 := hide hM2); clear hM2)
    go_ret
    refine ⟨w.heap.size + 1, (fun j => if j = key then some (some (w.heap.size + 1)) else fc j), (fun j => if j = key then w.heap.size else fm j), rfl, ?_, if_pos rfl, by omega, (Gr.of_nx HN1.out).trans hg2⟩
    rw [carP_none HC.out]
    exact HD1.out.carNew HC.out (by omega) HP1.out hsz HM1.out HPN.out HMN.out hg2 HM2.out
theorem setC_setC (D : DayP) (k : ByteArray) (c c' : Crew) : setC (setC D k c) k c' = setC D k c' := by
  unfold setC
  simp only [DayP.mk.injEq, true_and]
  funext j
  unfold updF
  split <;> rfl
theorem setC_at (D : DayP) (k : ByteArray) (c : Crew) : (setC D k c).cars k = some c := updF_same _ _ _
def evA (x : Ev) : Array Value := #[.string x.source, .int .i64 x.no, .int .i64 x.at_, .int .i64 x.kind, .string x.ride, .string x.car, .string x.node, .int .i64 x.up, .int .i64 x.down, .string x.from_, .int .i64 x.number]
set_option maxRecDepth 100000 in
set_option maxHeartbeats 2000000 in
theorem w_was (d lo rb cb N : Nat) (D : DayP) (fr fc : ByteArray → Option (Option Nat)) (fm : ByteArray → Nat) (x : Ev) (w : World) (h : DayW w lo rb cb N D fr fc fm) (h2 : w.cell? ⟨d, 2, none⟩ = some (.map (some cb))) (hd : d < lo) (hdc : d ≠ cb) (hk : domS x.car) (hN : N < 100000) :
    Calls Tryz.prog 129 #[.pointer (some ⟨d, 0, none⟩), .agg (evA x)] w fun e w' => e = .returned (.tuple #[]) ∧ (∃ fc' fm', DayW w' lo rb cb (N + 1) (wasP D x) fr fc' fm') ∧ Fr2 lo rb cb w w' := by
  obtain ⟨so, no, at_, ki, ri, ca, nd, up, dn, fo, nu⟩ := x
  unfold evA
  simp only at hk
  have hsz := h.sz
  have hcl := h.clo
  have hrl := h.rlo
  obtain ⟨o, ho⟩ : ∃ o, o = (.cells #[.string so, .int .i64 no, .int .i64 at_, .int .i64 ki, .string ri, .string ca, .string nd, .int .i64 up, .int .i64 dn, .string fo, .int .i64 nu] 31 (0, 0) : Obj) := ⟨_, rfl⟩
  have hn1 : Nx w (w.alloc o) := (Nx.refl w).alloc _
  have HC := hide (w_car d lo rb cb N D fr fc fm ca (w.alloc o) (h.nx hn1) (nx_cell hn1 (by omega) h2) hd hdc hk hN)
  have hb : (w.alloc o).heap[w.heap.size]? = some o := heap_alloc_new w o
  have HN1 := hide hn1
  have HB := hide hb
  have HCM := hide (h.cars.map.nx hn1)
  subst ho
  clear h hn1 hb
  go_enter Tryz.func129, Tryz.ntmps129
  go_wp2_with fail
  refine HC.out.mono ?_
  rintro e w2 ⟨p, fc', fm', rfl, hD2, hp, hlp, hF⟩
  obtain ⟨p', a, _, hpo, _⟩ := hD2.cars.at_ ca _ (setC_at _ _ _)
  rw [hp] at a; injection a with a; injection a with a; subst a
  have hbx := gr_at hF HB.out (by omega)
  have b0 := (crw_cells hpo).1
  have b1 := (crw_cells hpo).2.1
  have e0 : w2.frozen? ⟨p, 0, none⟩ = false := by simp [World.frozen?, hpo, crwO]
  have e1 : w2.frozen? ⟨p, 1, none⟩ = false := by simp [World.frozen?, hpo, crwO]
  have a2 : w2.cell? ⟨w.heap.size, 2, none⟩ = some (.int .i64 at_) := cell_of_row w2 _ 2 _ _ _ hbx
  have a6 : w2.cell? ⟨w.heap.size, 6, none⟩ = some (.string nd) := cell_of_row w2 _ 6 _ _ _ hbx
  have hne : w.heap.size ≠ p := by
    intro e; subst e
    rw [hbx] at hpo; injection hpo with hpo; unfold crwO at hpo; injection hpo with _ hpo _; revert hpo; decide
  have HPO := hide hpo
  have HD2 := hide hD2
  have HF := hide hF
  have HBX := hide hbx
  clear hpo hD2 hF hbx
  go_wp2_with fail
  go_region
  all_goals (go_wp2; go_end0)
  have hgr : Gr p w2 ((w2.setCell ⟨p, 0, none⟩ (.string nd)).setCell ⟨p, 1, none⟩ (.int .i64 at_)).drew := (((Gr.refl p w2).setS (.inl rfl) _).setS (.inl rfl) _).drew
  have hbl : ((w2.setCell ⟨p, 0, none⟩ (.string nd)).setCell ⟨p, 1, none⟩ (.int .i64 at_)).drew.heap[p]? = some (crwO { carP D ca with node := nd, at_ := at_ } (fm' ca)) := heap_set (heap_set HPO.out)
  have hD3 := HD2.out.crPut (setC_at _ _ _) hp hgr hbl rfl
  rw [setC_setC] at hD3
  refine ⟨rfl, ⟨fc', fm', hD3⟩, ?_⟩
  obtain ⟨es, cl, hcm⟩ := mg_obj HCM.out
  exact ((Fr2.nx HN1.out hsz).trans (Fr2.grMap HF.out (.inr (.inl rfl)) (Nat.le_trans hsz HN1.out.sz) hcm)).trans (Fr2.grCrw hgr hlp HD2.out.sz HPO.out)
end Go.Proofs.YtfkmbeppckelfaaGreatDoor
/- Keys: the program's and the reference's. -/
namespace Go.Proofs.YtfkmbeppckelfaaGreatDoor
open Go.RowKit

theorem lowC_int (c : UInt8) : lowC c = true ↔ 97 ≤ (c.toNat : Int) ∧ (c.toNat : Int) ≤ 122 := by
  unfold lowC; simp; omega
theorem keyC_int (c : UInt8) : keyC c = true ↔ (97 ≤ (c.toNat : Int) ∧ (c.toNat : Int) ≤ 122) ∨ (48 ≤ (c.toNat : Int) ∧ (c.toNat : Int) ≤ 57) ∨ (c.toNat : Int) = 45 ∨ (c.toNat : Int) = 95 := by
  unfold keyC lowC digC
  have e1 : (c == 45) = true ↔ (c.toNat : Int) = 45 := by
    rw [beq_iff_eq, ← UInt8.toNat_inj]; show c.toNat = 45 ↔ _; omega
  have e2 : (c == 95) = true ↔ (c.toNat : Int) = 95 := by
    rw [beq_iff_eq, ← UInt8.toNat_inj]; show c.toNat = 95 ↔ _; omega
  simp only [Bool.or_eq_true, Bool.and_eq_true, decide_eq_true_eq, e1, e2]
  omega
theorem keyL_snoc {l : List UInt8} {p : UInt8 → Bool} {k : Nat} (hk : k < l.length) : (l.take (k + 1)).all p = ((l.take k).all p && p l[k]) := by
  rw [List.take_succ_eq_append_getElem hk, List.all_append]; simp
theorem data_len (s : ByteArray) : s.data.toList.length = s.size := by simp
theorem keyB_eq (s : ByteArray) (h0 : 0 < s.size) : keyB s = (decide (s.size ≤ 40) && lowC (s[0]'h0) && s.data.toList.all keyC) := by
  unfold keyB
  have e := data_len s
  cases hl : s.data.toList with
  | nil => rw [hl] at e; simp at e; omega
  | cons c l =>
    have e0 : s[0]'h0 = c := by
      have : s.data.toList[0]'(by rw [e]; exact h0) = c := by simp [hl]
      exact this
    unfold keyL
    rw [e0, ← e, hl]
theorem all_take_false {l : List UInt8} {p : UInt8 → Bool} {k : Nat} (hk : k < l.length) (h : p l[k] = false) : l.all p = false := by
  rw [List.all_eq_false]
  exact ⟨_, List.getElem_mem hk, by simp [h]⟩

set_option maxHeartbeats 1000000 in
theorem w_Key (s : ByteArray) (w : World) (hs : s.size ≤ 1000000) :
    Calls Tryz.prog 84 #[.string s] w fun e w' => e = .returned (.bool (keyB s)) ∧ w = w' := by
  by_cases h0 : s.size = 0
  · have he : s.toList = [] := by
      rw [Lib.toList_data]
      exact List.eq_nil_of_length_eq_zero (by rw [data_len]; exact h0)
    have hk : keyB s = false := by
      unfold keyB
      rw [← Lib.toList_data, he]; rfl
    have HK := hide hk
    clear hk
    go_enter Tryz.func84, Tryz.ntmps84
    go_wp2
    go_ret
    exact ⟨ret_bool (by rw [HK.out]), rfl⟩
  · have h1 : 0 < s.size := by omega
    have HK := hide (keyB_eq s h1)
    have he : s.toList.isEmpty = false := by
      rw [Lib.toList_data]
      cases h : s.data.toList with
      | nil => have := data_len s; rw [h] at this; simp at this; omega
      | cons _ _ => rfl
    have L0 := hide (lowC_int (s[0]'h1))
    by_cases h40 : 40 < s.size
    · go_enter Tryz.func84, Tryz.ntmps84
      go_wp2
      go_ret
      exact ⟨ret_bool (by rw [HK.out, decide_eq_false (by omega)]; rfl), rfl⟩
    · by_cases hlow : lowC (s[0]'h1) = true
      · have hlo := L0.out.1 hlow
        have HLW := hide hlow
        obtain ⟨hl1, hl2⟩ := hlo
        clear hlow
        go_enter Tryz.func84, Tryz.ntmps84
        go_wp2
        go_loop [3, 4, 24] (fun _ _ i => ∃ k : Nat, k ≤ s.size ∧ i = .int .i64 k ∧ (s.data.toList.take k).all keyC = true) (fun _ _ i => s.size - (intOf i).toNat)
        case atStart => exact ⟨0, Nat.zero_le _, rfl, by simp⟩
        case round =>
          obtain ⟨k, hk, rfl, hq⟩ := hrel
          have HQ := hide hq
          clear hq
          by_cases hlt : k < s.size
          · have KC := hide (keyC_int s[k])
            have KS := hide (keyL_snoc (p := keyC) (l := s.data.toList) (k := k) (by simpa using hlt))
            have KA := hide (fun h => all_take_false (p := keyC) (l := s.data.toList) (k := k) (by simpa using hlt) h)
            have KE := hide (show s.data.toList[k]'(by simpa using hlt) = s[k] from rfl)
            by_cases hc : keyC s[k] = true
            · have hc' := KC.out.1 hc
              have HC := hide hc
              clear hc
              go_wp2
              all_goals first
                | (go_round
                   case rel => exact ⟨k + 1, by omega, by go_num, by rw [KS.out, HQ.out, KE.out, HC.out]; rfl⟩
                   case measure => simp [intOf]; omega)
                | (exfalso; simp at *; omega)
            · have hc' : ¬ ((97 ≤ (s[k].toNat : Int) ∧ (s[k].toNat : Int) ≤ 122) ∨ (48 ≤ (s[k].toNat : Int) ∧ (s[k].toNat : Int) ≤ 57) ∨ (s[k].toNat : Int) = 45 ∨ (s[k].toNat : Int) = 95) := fun h => hc (KC.out.2 h)
              have HC := hide hc
              clear hc
              go_wp2
              all_goals first
                | (go_ret
                   exact ⟨ret_bool (by rw [HK.out, KA.out (by rw [KE.out]; simpa using HC.out)]; simp), rfl⟩)
                | (exfalso; simp at *; omega)
          · go_wp2
            go_ret
            have e : k = s.size := by omega
            exact ⟨ret_bool (by
              have h := HQ.out
              rw [e, List.take_of_length_le (by rw [data_len]; exact Nat.le_refl _)] at h
              rw [HK.out, decide_eq_true (by omega), HLW.out, h]; rfl), rfl⟩
      · have hlo : ¬ (97 ≤ ((s[0]'h1).toNat : Int) ∧ ((s[0]'h1).toNat : Int) ≤ 122) := fun h => hlow (L0.out.2 h)
        have HLW := hide hlow
        clear hlow
        by_cases hl1 : ((s[0]'h1).toNat : Int) < 97
        · clear hlo
          go_enter Tryz.func84, Tryz.ntmps84
          go_wp2
          go_ret
          exact ⟨ret_bool (by rw [HK.out, show lowC (s[0]'h1) = false by simpa using HLW.out]; simp), rfl⟩
        · have hl2 : 122 < ((s[0]'h1).toNat : Int) := by omega
          clear hlo
          go_enter Tryz.func84, Tryz.ntmps84
          go_wp2
          go_ret
          exact ⟨ret_bool (by rw [HK.out, show lowC (s[0]'h1) = false by simpa using HLW.out]; simp), rfl⟩

def csB : ByteArray := ⟨#[97, 98, 99, 100, 101, 102, 103, 104, 105, 106, 107, 108, 109, 110, 111, 112, 113, 114, 115, 116, 117, 118, 119, 120, 121, 122, 48, 49, 50, 51, 52, 53, 54, 55, 56, 57, 45, 95]⟩
def smB : ByteArray := ⟨#[97, 98, 99, 100, 101, 102, 103, 104, 105, 106, 107, 108, 109, 110, 111, 112, 113, 114, 115, 116, 117, 118, 119, 120, 121, 122]⟩
/-- The reference's trim, of keys' signs. -/
theorem w_TrimKey (s : ByteArray) (w : World) (hs : s.size ≤ 1000000) :
    Calls Tryz.prog 115 #[.string s, .string csB] w fun e w' => ∃ r : ByteArray, e = .returned (.string r) ∧ r.toList.isEmpty = s.data.toList.all keyC ∧ Nx w w' := by
  have hcon := Any.strings_Trim_laid Tryz.trimStr (by kernel_rfl) s csB w (by omega) (by decide) (ascii_of_all (by decide))
  change Calls Tryz.prog 115 _ _ _ at hcon
  refine hcon.mono ?_
  rintro e w' ⟨rfl, hb⟩
  refine ⟨_, rfl, ?_, hb⟩
  rw [Lib.toList_data]
  exact trim_key s.data.toList
theorem w_IndexSmall (c : UInt8) (w : World) :
    Calls Tryz.prog 116 #[.string smB, .int .u8 (c.toNat : Int)] w fun e w' => ∃ z : Int, e = .returned (.int .i64 z) ∧ decide (0 ≤ z) = lowC c ∧ w = w' := by
  have hcon := Any.strings_IndexByte Tryz.indexByteStr smB (c.toNat : Int) w
  change Calls Tryz.prog 116 _ _ _ at hcon
  refine hcon.mono ?_
  rintro e w' ⟨rfl, rfl⟩
  refine ⟨_, rfl, ?_, rfl⟩
  have e : smB.data.toList = smallL := rfl
  have e2 : ((c.toNat : Int)).toNat.toUInt8 = c := by simp
  rw [e, e2]
  exact small_low c

set_option maxHeartbeats 1000000 in
theorem w_KeyR (s : ByteArray) (w : World) (hs : s.size ≤ 1000000) :
    Calls Tryz.prog 77 #[.string s] w fun e w' => e = .returned (.bool (keyB s)) ∧ Nx w w' := by
  have e1 := inB_out (s.size : Int) 1 40
  by_cases h0 : s.size = 0
  · have he : s.toList = [] := by
      rw [Lib.toList_data]
      exact List.eq_nil_of_length_eq_zero (by rw [data_len]; exact h0)
    have hk : keyB s = false := by
      unfold keyB
      rw [← Lib.toList_data, he]; rfl
    have ho : outB (s.size : Int) 1 40 = true := outB_true.2 (by omega)
    rw [ho] at e1
    have HK := hide hk
    clear hk ho h0
    go_enter Tryz.func77, Tryz.ntmps77
    go_wp2_with (go_at_call 78; refine (w_in _ _ _ _).mono ?_; rintro e w' ⟨rfl, rfl⟩)
    go_ret
    exact ⟨ret_bool (by rw [HK.out]), Nx.refl _⟩
  · have h1 : 0 < s.size := by omega
    have HK := hide (keyB_eq s h1)
    have hT := fun w => w_TrimKey s w hs
    by_cases h40 : 40 < s.size
    · have ho : outB (s.size : Int) 1 40 = true := outB_true.2 (by omega)
      rw [ho] at e1
      clear ho
      go_enter Tryz.func77, Tryz.ntmps77
      go_wp2_with (go_at_call 78; refine (w_in _ _ _ _).mono ?_; rintro e w' ⟨rfl, rfl⟩)
      go_ret
      exact ⟨ret_bool (by rw [HK.out, decide_eq_false (by omega)]; rfl), Nx.refl _⟩
    · have ho : outB (s.size : Int) 1 40 = false := outB_false.2 (by omega)
      rw [ho] at e1
      clear ho
      generalize s.data.toList.all keyC = B at HK hT
      go_enter Tryz.func77, Tryz.ntmps77
      go_wp2_with (first
        | (go_at_call 78; refine (w_in _ _ _ _).mono ?_; rintro e w' ⟨rfl, rfl⟩)
        | (go_at_call 115; refine (hT _).mono ?_; rintro e w1 ⟨r, rfl, hr, hn1⟩)
        | (go_at_call 116; refine (w_IndexSmall _ _).mono ?_; rintro e w2 ⟨z, rfl, hz, rfl⟩))
      · go_ret
        exact ⟨ret_bool (by rw [HK.out, decide_eq_true (by omega), show B = true from ‹B = true›]; simp), hn1⟩
      · go_ret
        have hB : B = false := by simpa using ‹¬B = true›
        exact ⟨ret_bool (by rw [HK.out, hB]; simp), hn1⟩
end Go.Proofs.YtfkmbeppckelfaaGreatDoor
/- cmp.Or of errors. -/
namespace Go.Proofs.YtfkmbeppckelfaaGreatDoor
open Go.RowKit

def encI (n : Int) : List Value := [.int .i64 n]
theorem orI_drop (zs : List Int) (k : Nat) (hk : k < zs.length) : orI (zs.drop k) = if zs[k] = 0 then orI (zs.drop (k + 1)) else zs[k] := by
  rw [List.drop_eq_getElem_cons hk]; rfl
set_option maxHeartbeats 400000 in
theorem w_OrE (lo : Nat) (A : Option Addr) (c : Nat) (zs : List Int) (w : World) (hR : Rd w lo A 1 encI zs) (hl : zs.length ≤ 65536) :
    Calls Tryz.prog 18 #[.slice A zs.length c] w fun e w' => e = .returned (.int .i64 (orI zs)) ∧ w = w' := by
  generalize hn : zs.length = n at *
  have HR := hide hR
  have HN := hide hn
  clear hR hn
  go_enter Tryz.func18, Tryz.ntmps18
  go_wp2
  go_loop [2, 5, 8] (fun _ _ i => ∃ k : Nat, k ≤ n ∧ i = .int .i64 k ∧ orI zs = orI (zs.drop k)) (fun _ _ i => n - (intOf i).toNat)
  case atStart => exact ⟨0, Nat.zero_le _, rfl, rfl⟩
  case round =>
    obtain ⟨k, hk, rfl, hq⟩ := hrel
    have HQ := hide hq
    clear hq
    by_cases hlt : k < n
    · have hlt' : k < zs.length := by have := HN.out; omega
      obtain ⟨b, off, rfl, _, hb, _, hc⟩ := HR.out.open_ (Nx.refl w) (by omega)
      have c0 : w.cell? ⟨b, off + k, none⟩ = some (.int .i64 zs[k]) := by have := hc k hlt' 0 _ rfl; simpa using this
      clear hc
      have HD := hide (orI_drop zs k hlt')
      by_cases hz : zs[k] = 0
      · have hz' : (zs[k] != 0) = false := by simpa using hz
        generalize zs[k] = z at *
        go_wp2
        go_round
        case rel => exact ⟨k + 1, by omega, by go_num, by rw [HQ.out, HD.out, if_pos hz]⟩
        case measure => simp [intOf]; omega
      · have hz' : (zs[k] != 0) = true := by simpa using hz
        generalize zs[k] = z at *
        go_wp2
        go_ret
        exact ⟨ret_int (by rw [HQ.out, HD.out, if_neg hz]), rfl⟩
    · go_wp2
      go_ret
      exact ⟨ret_int (by rw [HQ.out, List.drop_of_length_le (by have := HN.out; omega)]; rfl), rfl⟩

end Go.Proofs.YtfkmbeppckelfaaGreatDoor
/- slices.ContainsFunc over numbers and dues, slices.EqualFunc of keys and dues: each for every function value that answers plainly. -/
namespace Go.Proofs.YtfkmbeppckelfaaGreatDoor
open Go.RowKit

def Enters (g : Nat) : Prop := ∀ args w, (callFunc g args).run Tryz.prog w = .ok (.enter g args) w

theorem eqS_iff (s t : ByteArray) : (s.toList == t.toList) = decide (s = t) := by
  rw [Bool.eq_iff_iff, beq_iff_eq, decide_eq_true_eq, Lib.toList_data, Lib.toList_data]
  constructor
  · intro h
    rcases s with ⟨⟨s⟩⟩
    rcases t with ⟨⟨t⟩⟩
    simp at h
    rw [h]
  · rintro rfl; rfl

end Go.Proofs.YtfkmbeppckelfaaGreatDoor
/- 'delete(m, k)' on a map said of a plain function. Of no program. -/
namespace Go.Proofs.YtfkmbeppckelfaaGreatDoor
open Go.RowKit Go.Maps

section
variable {κ V : Type} {P : Program} {K : TypeId} {ek : κ → Value} {dom : κ → Prop} {R : Value → Option (DataW Unit × List MemPlace)} {dv : V → DataW Unit}
theorem MgD.del [DecidableEq κ] {D : DataW Unit} {f : κ → Option V} (h : MgD P K ek dom dv D f) (KL : Keyed P K) (hinj : ∀ a b : κ, ek a = ek b → a = b) {k : κ} {l : Lit} (hkey : keyOf P K (ek k) = some l) :
    MgD P K ek dom dv (D.del l) (fun k' => if k' = k then none else f k') where
  isMap := h.isMap.del _
  at_ k' l' hd' hk' z := by
    by_cases e : k' = k
    · subst e
      rw [hkey] at hk'; injection hk' with hk'; subst hk'
      rw [if_pos rfl]
      exact atKey_del_same _
    · rw [if_neg e]
      have hne : l' ≠ l := fun e1 => by subst e1; exact e (hinj _ _ (KL.inj hk' hkey))
      rw [atKey_del_other hne]
      exact h.at_ k' l' hd' hk' z
  keys l' hl' := by
    by_cases e : l' = l
    · subst e; rw [has_del_same] at hl'; cases hl'
    · rw [has_del_other e] at hl'; exact h.keys l' hl'
  dm k' hk' := by
    by_cases e : k' = k
    · subst e; rw [if_pos rfl] at hk'; cases hk'
    · rw [if_neg e] at hk'; exact h.dm k' hk'
/-- 'delete(m, k)' at the operation. -/
theorem wpMgDel [DecidableEq κ] (w : World) {ops : Array Oper} {rest : List Oper} {o : Oper} {a : Act} {Q : Exit → Act → World → Prop}
    (hg : o.guard = none) (m x : Operand) (t k0 : TypeId) (hop : o.op = Op.call { callee := Callee.builtin Builtin.delete, args := #[m, x], argTypes := #[t, k0] }) {E : TypeId}
    (KL : Keyed P k0) (hinj : ∀ a b : κ, ek a = ek b → a = b) (ht : P.underlying t = some (.map k0 E)) (b n : Nat) (f : κ → Option V)
    (hm : a.eval m = .map (some b)) (hown : MgI P k0 ek dom R dv w b n f) (k : κ) (hx : a.eval x = ek k) (l : Lit) (hkey : keyOf P k0 (ek k) = some l)
    (hK : ∀ w', MgI P k0 ek dom R dv w' b n (fun k' => if k' = k then none else f k') → Gr b w w' → wpList P ops Q rest (a.put o.dst (.tuple #[])) w') :
    wpList P ops Q (o :: rest) a w := by
  obtain ⟨D, h1, h2⟩ := hown
  exact wpList_delete_own w hg m x t k0 hop E KL ht R b n D hm h1 (ek k) l hx hkey fun w' r1 r2 => hK w' ⟨_, r1, h2.del KL hinj hkey⟩ r2.grown
end
end Go.Proofs.YtfkmbeppckelfaaGreatDoor
