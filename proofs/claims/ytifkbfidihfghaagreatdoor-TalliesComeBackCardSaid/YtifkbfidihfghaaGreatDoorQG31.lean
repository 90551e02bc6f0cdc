/- The rides behind one booking. -/
import Derived.Test.YtifkbfidihfghaaGreatDoorQReadyG
import Derived.Test.YtifkbfidihfghaaGreatDoorQG25
import Derived.Test.YtifkbfidihfghaaGreatDoorQG7
import Derived.Test.YtifkbfidihfghaaGreatDoorQDivB
import Derived.Test.YtifkbfidihfghaaGreatDoorQG3
import Derived.Test.YtifkbfidihfghaaGreatDoorQStr
import Derived.Below
namespace Go.Proofs.YtifkbfidihfghaaGreatDoor
open Go.RowKit Go.Maps

theorem hMD_has {P : Program} {K : TypeId} {κ V : Type} {ek : κ → Value} {dom : κ → Prop} {dv : V → DataW Unit} {D : DataW Unit} {f : κ → Option V} (h : MgD P K ek dom dv D f) {k : κ} (hd : dom k) {l : Lit} (hkey : keyOf P K (ek k) = some l) : Maps.has D l = (f k).isSome := h.has_ hd hkey
theorem hA5' {w : World} {base : Nat} {e : TypeId} {c : Nat} (A : Option Addr) (h : ∀ a, A = some a → ∃ g, a = ⟨g, 0, none⟩ ∧ base ≤ g ∧ g < w.heap.size) {L : List Value} (ho : w.ownsRow base e 7 (.slice A 1 c) 1 L) : ∃ g, A = some ⟨g, 0, none⟩ ∧ base ≤ g ∧ g < w.heap.size := by
  rcases ho.2 with ⟨hv, h0⟩ | ⟨g, cap, cur, hv, _⟩
  · cases h0
  · injection hv with h1 _ _
    obtain ⟨g', e1, e2⟩ := h _ h1
    exact ⟨g', by rw [h1, e1], e2⟩
theorem el_State : ElemOf Tryz.prog 74 122 7 72 := ElemOf.mk' (z := .agg #[.string ByteArray.empty, .string ByteArray.empty, .int .i64 0, .int .i64 0, .int .i64 0, .int .i64 0, .int .i64 0]) Tryz.underlying74 (by kernel_rfl) rfl
def encSt (_ : Unit) : List Value := exSt.toList
theorem encSt_len (x : Unit) : (encSt x).length = 7 := rfl
theorem encSt_one (x : Unit) : ∀ v ∈ encSt x, v.oneCell' = true := by
  intro v hv; simp [encSt, exSt] at hv; rcases hv with rfl | rfl | rfl | rfl | rfl | rfl <;> rfl
set_option maxRecDepth 100000 in
set_option maxHeartbeats 1000000 in
theorem w_insSt (g c : Nat) (fv : Value) (w : World) :
    Calls Tryz.prog 131 #[.slice (some ⟨g, 0, none⟩) 1 c, .int .i64 0, .int .i64 1, fv] w fun e w' => e = .returned (.tuple #[]) ∧ w = w' := by
  go_enter Tryz.func131, Tryz.ntmps131
  go_wp2_with fail
  refine wp_loop_rounds 1 ?_
  rw [rounds_succ]
  go_wp2_with fail
  go_end0
  exact ⟨rfl, rfl⟩
set_option maxRecDepth 100000 in
set_option maxHeartbeats 1000000 in
theorem w_pdqSt (g c : Nat) (z : Int) (fv : Value) (w : World) :
    Calls Tryz.prog 89 #[.slice (some ⟨g, 0, none⟩) 1 c, .int .i64 0, .int .i64 1, .int .i64 z, fv] w fun e w' => e = .returned (.tuple #[]) ∧ w = w' := by
  go_enter Tryz.func89, Tryz.ntmps89
  go_wp2_with fail
  refine wp_loop_rounds 1 ?_
  rw [rounds_succ]
  go_wp2_with (go_at_call 131; refine (w_insSt g c fv w).mono ?_; rintro e w1 ⟨rfl, rfl⟩)
  exact bodyPost_ret (results_none (by rfl) _ _ _) rfl ⟨rfl, rfl⟩
theorem w_SortSt (g c : Nat) (fv : Value) (w : World) :
    Calls Tryz.prog 51 #[.slice (some ⟨g, 0, none⟩) 1 c, fv] w fun e w' => e = .returned (.tuple #[]) ∧ w = w' := by
  go_enter Tryz.func51, Tryz.ntmps51
  go_wp2_with (first
    | (go_at_call 71; refine (w_Len _ _ (by omega) (by omega)).mono ?_; rintro e w' ⟨z, rfl, rfl⟩)
    | (go_at_call 89; refine (w_pdqSt g c _ fv _).mono ?_; rintro e w1 ⟨rfl, rfl⟩))
  go_end0
  exact ⟨rfl, rfl⟩

set_option maxRecDepth 100000 in
set_option maxHeartbeats 4000000 in
theorem w_RidesEx (hEF : EvRight) (g c : Nat) (w : World) (hg : w.heap[g]? = some (.cells exEv 78 (0, 0))) :
    Calls Tryz.prog 26 #[.slice (some ⟨g, 0, none⟩) 1 c, .int .i64 3] w fun e w' => ∃ (A : Option Addr) (cc : Nat), e = .returned (.tuple #[.slice A 1 cc, .int .i64 0]) ∧ Nx w w' := by
  have HMF := hide (w_momentFaultEx hEF g c w hg)
  have HG := hide hg
  clear hg
  go_enter Tryz.func26, Tryz.ntmps26
  go_wp2_with fail
  refine HMF.out.mono ?_
  rintro e w1 ⟨rfl, hn1⟩
  have HFO := hide (w_followEx g c w1 (nx_heap hn1 HG.out))
  go_wp2_with fail
  refine HFO.out.mono ?_
  rintro e w2 ⟨d, rb, p, rfl, hd, hp1, hp2, hrb, hp3, hM, hn2⟩
  obtain ⟨D, hown, hMD⟩ := hM
  have hds : domS sR := by unfold domS; decide
  have hkl := keyS_mk (P := Tryz.prog) Tryz.underlying9 hds
  have hhas : Maps.has D (litS sR) = true := by rw [hMD.has_ hds hkl]; simp
  have hHAS := hide hhas
  have HMD := hide hMD
  clear hhas hMD
  go_wp2_with (at_range; refine wpList_range_own _ rfl _ _ rfl 9 120 law_strE Tryz.underlying110 _ rb 1 _ rfl hown ?_; intro w3 hrg3 hg3 hs3)
  go_frame
  have hx3 : Nx w2 w3 := (Nx.refl w2).grown hg3 (fun j hj => by cases hj)
  have hown0 : ∀ W : World, W.ownsRow (w2.heap.size + 1) 122 7 (.slice none 0 0) ([] : List Unit).length (([] : List Unit).flatMap encSt) := fun W => World.ownsRow_nil _ _ _ _
  have HO0 := hide hown0
  have HS3 := hide hs3
  clear hs3 hown0
  refine wp_loop_rounds 2 ?_
  rw [rounds_succ]
  go_wp2_with (at_next; refine wpList_next_ranges _ rfl _ rfl 9 law_strE ptrElem Value.string ptrV (fun key kl hkey => (by obtain ⟨x, rfl, _⟩ := keyS_inv Tryz.underlying9 hkey; exact ⟨x, rfl⟩)) (fun v y hv => (by obtain ⟨q, _, h, _⟩ := elemPtr.inv v y.1 y.2 hv; exact ⟨q, h⟩)) rb w2.heap.size 1 _ _ _ rfl hrg3 ?_ ?_)
  · intro _ hl0
    exact absurd (hl0 (litS sR)) (by rw [hHAS.out]; simp)
  · intro k c kl y ps w4 cnt4 hkey hlk hRv hat hrg4 hlt4 hg4 hs4 hen
    obtain ⟨k0, ek, hdk, rfl⟩ := keyS_inv Tryz.underlying9 hkey
    obtain rfl := strV_inj _ _ ek
    have hfs : (if k = sR then some (some p) else none : Option (Option Nat)).isSome = true := by
      rw [← hMD_has HMD.out hdk (keyS_mk Tryz.underlying9 hdk)]; exact hlk
    have hk : k = sR := by
      by_cases e : k = sR
      · exact e
      · rw [if_neg e] at hfs; cases hfs
    subst hk
    have hc : c = some p := by
      obtain ⟨q, _, e1, e2⟩ := elemPtr.inv _ _ _ hRv
      have e3 := HMD.out.at_ sR (litS sR) hds hkl (.lit (.bool true))
      rw [hat] at e3
      simp at e3
      rw [e2] at e3
      have e4 := elemPtr.inj _ _ e3
      subst e4
      cases c with
      | none => cases e1
      | some q2 => simp [ptrV] at e1; rw [e1]
    subst hc
    have hpl : p < w2.heap.size := (Array.getElem?_eq_some_iff.1 hp3).1
    have hrl : rb < w2.heap.size := hown.lt
    have hp4 : w4.heap[p]? = some (.cells exSt 122 (0, 0)) := (hg4.block p (Nat.lt_of_lt_of_le hpl hx3.sz) (by intro e; injection e with e; omega)).trans (nx_heap hx3 hp3)
    have b0 := cell_of_row w4 p 0 _ _ _ hp4
    have b1 := cell_of_row w4 p 1 _ _ _ hp4
    have b2 := cell_of_row w4 p 2 _ _ _ hp4
    have b3 := cell_of_row w4 p 3 _ _ _ hp4
    have b4 := cell_of_row w4 p 4 _ _ _ hp4
    have b5 := cell_of_row w4 p 5 _ _ _ hp4
    have b6 := cell_of_row w4 p 6 _ _ _ hp4
    simp [exSt] at b0 b1 b2 b3 b4 b5 b6
    have hsz4 : w2.heap.size < w4.heap.size := by rw [hs4, HS3.out]; omega
    have hen' : (Instr.entry (.pointer (some ⟨w2.heap.size, 0, none⟩))).run Tryz.prog w4 = .ok (.tuple #[.string sR, .pointer (some ⟨p, 0, none⟩)]) w4 := hen
    have hx4 : Nx w2 w4 := hx3.grown hg4 (fun j hj => by injection hj with hj; omega)
    clear hen hp4 hs4 hRv hat
    go_wp2_with (at_builtin; refine wpApp rfl _ _ _ rfl el_State encSt encSt_len encSt_one (by omega) (by omega) (w2.heap.size + 1) _ [] rfl (HO0.out _) _ () _ rfl (hnew rfl) rfl (by simp) (by simp; omega) ?_; intro v5 w5 hown5 hg5)
    have hrg5 := (hrg4.alloc (.cells exSt 122)).kept hg5 (fun e => by cases e) (fun e => by cases e)
    have hx5 : Nx w2 w5 := (hx4.alloc _).grown hg5 (fun j hj => by cases hj)
    obtain ⟨A5, c5, ev, _, hA5⟩ := Rd.of_own encSt_len rfl hown5
    obtain rfl := ev
    have HL := hide hlk
    clear hlk hlt4 b0 b1 b2 b3 b4 b5 b6
    rw [rounds_succ]
    go_wp2_with (at_next; refine wpList_next_ranges _ rfl _ rfl 9 law_strE ptrElem Value.string ptrV (fun key kl hkey => (by obtain ⟨x, rfl, _⟩ := keyS_inv Tryz.underlying9 hkey; exact ⟨x, rfl⟩)) (fun v y hv => (by obtain ⟨q, _, h, _⟩ := elemPtr.inv v y.1 y.2 hv; exact ⟨q, h⟩)) rb w2.heap.size 1 _ _ _ rfl hrg5 ?_ ?_)
    · intro _ hl0
      obtain ⟨g5, hg5e, _, _⟩ := hA5' A5 hA5 hown5
      subst hg5e
      go_wp2_with (go_at_call 51; refine (w_SortSt g5 c5 _ _).mono ?_; rintro e w6 ⟨rfl, rfl⟩)
      go_ret2
      exact ⟨_, _, rfl, (hn1.trans hn2).trans hx5⟩
    · intro k c kl y' ps' w6 cnt6 hkey6 hlk6 hsk6 _ _ _ _ _ _ _
      exfalso
      obtain ⟨k0, ek, hdk6, rfl⟩ := keyS_inv Tryz.underlying9 hkey6
      obtain rfl := strV_inj _ _ ek
      have hfs : (if k = sR then some (some p) else none : Option (Option Nat)).isSome = true := by
        rw [← hMD_has HMD.out hdk6 (keyS_mk Tryz.underlying9 hdk6)]; exact hlk6
      have hk : k = sR := by
        by_cases e : k = sR
        · exact e
        · rw [if_neg e] at hfs; cases hfs
      rw [hk, sameS_self] at hsk6
      cases hsk6
end Go.Proofs.YtifkbfidihfghaaGreatDoor
/- What is wrong with costs and dues: the program's and the reference's words. -/
namespace Go.Proofs.YtifkbfidihfghaaGreatDoor
open Go.RowKit

theorem centB_bd {n : Int} (h : centB n = false) : 0 ≤ n ∧ n ≤ 1000000000 := by have := outB_false.1 h; unfold maxCt at this; exact this
end Go.Proofs.YtifkbfidihfghaaGreatDoor
/- fare.Divide, whatever it is handed; what is wrong with parts; 'priced' answers true. -/
namespace Go.Proofs.YtifkbfidihfghaaGreatDoor
open Go.RowKit Go.Sort Go.Proofs Go.Shelf

theorem partsF_cents {cents : Int} {parts : List Int} (h : centB cents = true) : partsF cents parts = 1 := by unfold partsF; rw [h]; rfl
theorem partsF_any {cents : Int} {parts : List Int} (h : centB cents = false) (h2 : parts.length < 20) (h3 : parts.any centB = true) : partsF cents parts = 1 := by
  unfold partsF; rw [h, h3]; simp; omega
theorem partsF_sum {cents : Int} {parts : List Int} (h : centB cents = false) (h2 : parts.length < 20) (h3 : parts.any centB = false) : partsF cents parts = if sumL parts = 0 then 8 else 0 := by
  unfold partsF; rw [h, h3]; simp; omega
theorem any_at {l : List Int} {p : Int → Bool} {k : Nat} (hk : k < l.length) (h : p l[k] = true) : l.any p = true := List.any_eq_true.2 ⟨_, List.getElem_mem hk, h⟩
theorem any_step {l : List Int} {p : Int → Bool} {k : Nat} (hk : k < l.length) (h : (l.take k).any p = false) (h2 : p l[k] = false) : (l.take (k + 1)).any p = false := by
  rw [List.take_succ_eq_append_getElem hk, List.any_append, h]; simp [h2]
theorem sum_right {l : List Int} (h : l.any centB = false) : 0 ≤ sumL l ∧ sumL l ≤ l.length * 1000000000 := by
  have := sumL_bd l 0 1000000000 (fun x hx => centB_bd (by
    cases h1 : centB x
    · rfl
    · exact absurd (List.any_eq_true.2 ⟨x, hx, h1⟩) (by rw [h]; simp)))
  omega
/-- Cents given out, or a fault. -/
def DivU (F cents : Int) (parts : List Int) (w : World) (e : Ending) (w' : World) : Prop :=
  ∃ (A : Option Addr) (c : Nat) (zs : List Int), e = .returned (.tuple #[.slice A zs.length c, .int .i64 F]) ∧ (F = 0 → Divided cents parts zs) ∧ (F ≠ 0 → zs = []) ∧ Rd w' w.heap.size A 1 encI zs ∧ Nx w w'
theorem DivU.no {F cents : Int} {parts : List Int} {w w' : World} (h : F ≠ 0) (hn : Nx w w') : DivU F cents parts w (.returned (.tuple #[.slice none 0 0, .int .i64 F])) w' := ⟨none, 0, [], rfl, fun h0 => absurd h0 h, fun _ => rfl, Rd.nil, hn⟩

set_option maxRecDepth 100000 in
set_option maxHeartbeats 1000000 in
theorem w_Divide (lo : Nat) (A : Option Addr) (c : Nat) (cents : Int) (parts : List Int) (w : World) (hR : Rd w lo A 1 encI parts) (hl : parts.length < 20) :
    Calls Tryz.prog 25 #[.int .i64 cents, .slice A parts.length c] w (DivU (partsF cents parts) cents parts w) := by
  cases hd : centB cents
  · have HD := hide hd
    have hcb := centB_bd hd
    have HPO := hide (fun h3 => partsF_sum (parts := parts) hd hl h3)
    have HPA := hide (fun h3 => partsF_any (parts := parts) hd hl h3)
    have HDB := hide (fun h3 h4 => w_DivideB lo A c cents parts w hR hl hcb h3 h4)
    generalize hn : parts.length = n at *
    have HR := hide hR
    have HN := hide hn
    unfold centB at hd
    clear hR hn
    go_enter Tryz.func25, Tryz.ntmps25
    go_wp2_with (go_at_call 31; first | (rw [show (1000000000 : Int) = maxCt from rfl]; refine (w_Out _ _ _ _).mono ?_; rintro e w' ⟨rfl, rfl⟩))
    go_loop [4, 5, 6, 8, 16] (fun _ _ s _ i => ∃ k : Nat, k ≤ n ∧ i = .int .i64 k ∧ s = .int .i64 (sumL (parts.take k)) ∧ (parts.take k).any centB = false) (fun _ _ _ _ i => n - (intOf i).toNat)
    case atStart => exact ⟨0, Nat.zero_le _, rfl, rfl, rfl⟩
    case round =>
      obtain ⟨k, hk, rfl, rfl, hq⟩ := hrel
      have hsb := sum_right hq
      have hkl : (parts.take k).length ≤ k := List.length_take_le _ _
      have HQ := hide hq
      clear hq
      by_cases hlt : k < n
      · have hlt' : k < parts.length := by have := HN.out; omega
        have HT := hide (sumL_take parts k hlt')
        obtain ⟨b, off, rfl, _, hb, _, hc⟩ := HR.out.open_ (Nx.refl w) (by omega)
        have c0 : w.cell? ⟨b, off + k, none⟩ = some (.int .i64 parts[k]) := by have := hc k hlt' 0 _ rfl; simpa using this
        clear hc
        cases hx : centB parts[k]
        · have HX := hide (any_step hlt' HQ.out hx)
          have hxb := centB_bd hx
          unfold centB at hx
          generalize sumL (parts.take k) = s at *
          go_wp2_with (go_at_call 31; first | (rw [show (1000000000 : Int) = maxCt from rfl]; refine (w_Out _ _ _ _).mono ?_; rintro e w' ⟨rfl, rfl⟩))
          go_round
          case rel => exact ⟨k + 1, by omega, by go_num, by rw [HT.out], HX.out⟩
          case measure => simp [intOf]; omega
        · have HF := hide (HPA.out (any_at hlt' hx))
          unfold centB at hx
          go_wp2_with (go_at_call 31; first | (rw [show (1000000000 : Int) = maxCt from rfl]; refine (w_Out _ _ _ _).mono ?_; rintro e w' ⟨rfl, rfl⟩))
          go_ret2
          rw [HF.out]
          exact DivU.no (by omega) (Nx.refl _)
      · have HK := hide (show parts.take k = parts from List.take_of_length_le (by have := HN.out; omega))
        rw [HK.out] at hsb HQ ⊢
        have HF := hide (HPO.out HQ.out)
        by_cases hz : sumL parts = 0
        · have t1 : (sumL parts == 0) = true := by simpa using hz
          have HZ := hide hz
          clear hz
          go_wp2_with fail
          go_ret2
          rw [HF.out, if_pos HZ.out]
          exact DivU.no (by omega) (Nx.refl _)
        · have t1 : (sumL parts == 0) = false := by simpa using hz
          have HZ := hide hz
          clear hz
          go_wp2_with (go_at_call 48; refine (HDB.out (fun p hp => centB_bd (by cases h1 : centB p; rfl; exact absurd (List.any_eq_true.2 ⟨p, hp, h1⟩) (by rw [HQ.out]; simp))) (by have := HZ.out; omega)).mono ?_; rintro e w2 ⟨A', c', zs, rfl, hdv, hR2, hn2⟩)
          go_ret2
          rw [HF.out, if_neg HZ.out]
          exact ⟨A', c', zs, rfl, fun _ => hdv, fun h => absurd rfl h, hR2, hn2⟩
  · have HF := hide (partsF_cents (parts := parts) hd)
    clear hR
    generalize parts.length = n at *
    unfold centB at hd
    go_enter Tryz.func25, Tryz.ntmps25
    go_wp2_with (go_at_call 31; first | (rw [show (1000000000 : Int) = maxCt from rfl]; refine (w_Out _ _ _ _).mono ?_; rintro e w' ⟨rfl, rfl⟩))
    go_ret2
    rw [HF.out]
    exact DivU.no (by omega) (Nx.refl _)

set_option maxRecDepth 100000 in
set_option maxHeartbeats 1000000 in
theorem w_EqualI (lo lo' : Nat) (A B : Option Addr) (c d : Nat) (l : List Int) (w : World) (hA : Rd w lo A 1 encI l) (hB : Rd w lo' B 1 encI l) (hl : l.length ≤ 65536) :
    Calls Tryz.prog 28 #[.slice A l.length c, .slice B l.length d] w fun e w' => e = .returned (.bool true) ∧ Nx w w' := by
  generalize hn : l.length = n at *
  have HA := hide hA
  have HB := hide hB
  have HN := hide hn
  clear hA hB hn
  go_enter Tryz.func28, Tryz.ntmps28
  go_wp2
  go_loopw [5, 13] (fun _ i wr => ∃ k : Nat, k ≤ n ∧ i = .int .i64 k ∧ Nx w wr) (fun _ i _ => n - (intOf i).toNat)
  case atStart => exact ⟨0, Nat.zero_le _, rfl, Nx.refl _⟩
  case round =>
    obtain ⟨k, hk, rfl, hbw⟩ := hrel
    by_cases hlt : k < n
    · have hlt' : k < l.length := by have := HN.out; omega
      obtain ⟨b, off, rfl, _, hb, hbr, hc⟩ := HA.out.open_ hbw (by omega)
      obtain ⟨b', off', rfl, _, hb', hbr', hc'⟩ := HB.out.open_ hbw (by omega)
      have c0 : wr.cell? ⟨b, off + k, none⟩ = some (.int .i64 l[k]) := by have := hc k hlt' 0 _ rfl; simpa using this
      have d0 : wr.cell? ⟨b', off' + k, none⟩ = some (.int .i64 l[k]) := by have := hc' k hlt' 0 _ rfl; simpa using this
      clear hc hc'
      have q1 : (0 : Int) ≤ (k : Int) := by omega
      have q2 : (k : Int) < (n : Int) := by omega
      go_wp2_with fail
      go_quiet (fail)
      go_wp2
      go_roundw
      case rel => exact ⟨k + 1, by omega, by go_num, hbw.drewN _⟩
      case measure => simp [intOf]; omega
    · go_wp2
      go_ret
      exact ⟨rfl, hbw⟩

end Go.Proofs.YtifkbfidihfghaaGreatDoor
/- What the laws share: the end, the stream, cmp.Or of two or three. -/
namespace Go.Proofs.YtifkbfidihfghaaGreatDoor
open Go.RowKit

/-- The law's world: what was there stays. -/
def TrueNx (w : World) (e : Ending) (w' : World) : Prop := e = .returned (.bool true) ∧ Nx w w'

theorem str_new (A : Option Addr) (n c : Nat) (w : World) (hn : n ≤ 9223372036854775807)
    (hL : 0 < n → ∃ b off, A = some ⟨b, off, none⟩ ∧ b < w.heap.size ∧ ∀ j, j < n → ∃ z : Int, w.cell? ⟨b, off + j, none⟩ = some (.int .i64 z) ∧ -9223372036854775808 ≤ z ∧ z ≤ 9223372036854775807) :
    Str (w.alloc (.cells #[.slice A n c, .int .i64 0] 25)) w.heap.size 0 := by
  refine ⟨A, n, c, 0, Nat.le_refl _, hn, hnew rfl, fun hp => ?_⟩
  obtain ⟨b, off, e, hb, hz⟩ := hL hp
  refine ⟨b, off, e, hb, fun j hj => ?_⟩
  obtain ⟨z, h1, h2⟩ := hz j hj
  exact ⟨z, (Below.cell ((Nx.refl w).alloc _) (p := ⟨b, _, none⟩) hb).trans h1, h2⟩
end Go.Proofs.YtifkbfidihfghaaGreatDoor
