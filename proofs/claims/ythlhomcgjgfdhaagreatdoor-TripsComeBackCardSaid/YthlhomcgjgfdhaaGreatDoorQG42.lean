/- The rides behind one booking. -/
import Derived.Test.YthlhomcgjgfdhaaGreatDoorQReadyG
import Derived.Test.YthlhomcgjgfdhaaGreatDoorQG36
import Derived.Test.YthlhomcgjgfdhaaGreatDoorQG19
import Derived.Test.YthlhomcgjgfdhaaGreatDoorQG3
import Derived.StillTailTactics
import Derived.Laws.StructEq
namespace Go.Proofs.YthlhomcgjgfdhaaGreatDoor
open Go.RowKit Go.Maps

theorem hMD_has {P : Program} {K : TypeId} {κ V : Type} {ek : κ → Value} {dom : κ → Prop} {dv : V → DataW Unit} {D : DataW Unit} {f : κ → Option V} (h : MgD P K ek dom dv D f) {k : κ} (hd : dom k) {l : Lit} (hkey : keyOf P K (ek k) = some l) : Maps.has D l = (f k).isSome := h.has_ hd hkey
theorem hA5' {w : World} {base : Nat} {e : TypeId} {c : Nat} (A : Option Addr) (h : ∀ a, A = some a → ∃ g, a = ⟨g, 0, none⟩ ∧ base ≤ g ∧ g < w.heap.size) {L : List Value} (ho : w.ownsRow base e 7 (.slice A 1 c) 1 L) : ∃ g, A = some ⟨g, 0, none⟩ ∧ base ≤ g ∧ g < w.heap.size := by
  rcases ho.2 with ⟨hv, h0⟩ | ⟨g, cap, cur, hv, _⟩
  · cases h0
  · injection hv with h1 _ _
    obtain ⟨g', e1, e2⟩ := h _ h1
    exact ⟨g', by rw [h1, e1], e2⟩
theorem el_State : ElemOf Tryz.prog 126 177 7 72 := ElemOf.mk' (z := .agg #[.string ByteArray.empty, .string ByteArray.empty, .int .i64 0, .int .i64 0, .int .i64 0, .int .i64 0, .int .i64 0]) Tryz.underlying126 (by kernel_rfl) rfl
def encSt (_ : Unit) : List Value := exSt.toList
theorem encSt_len (x : Unit) : (encSt x).length = 7 := rfl
theorem encSt_one (x : Unit) : ∀ v ∈ encSt x, v.oneCell' = true := by
  intro v hv; simp [encSt, exSt] at hv; rcases hv with rfl | rfl | rfl | rfl | rfl | rfl <;> rfl
set_option maxRecDepth 100000 in
set_option maxHeartbeats 1000000 in
theorem w_insSt (g c : Nat) (fv : Value) (w : World) :
    Calls Tryz.prog 209 #[.slice (some ⟨g, 0, none⟩) 1 c, .int .i64 0, .int .i64 1, fv] w fun e w' => e = .returned (.tuple #[]) ∧ w = w' := by
  go_enter Tryz.func209, Tryz.ntmps209
  go_wp2_with fail
  refine wp_loop_rounds 1 ?_
  rw [rounds_succ]
  go_wp2_with fail
  go_end0
  exact ⟨rfl, rfl⟩
set_option maxRecDepth 100000 in
set_option maxHeartbeats 1000000 in
theorem w_pdqSt (g c : Nat) (z : Int) (fv : Value) (w : World) :
    Calls Tryz.prog 165 #[.slice (some ⟨g, 0, none⟩) 1 c, .int .i64 0, .int .i64 1, .int .i64 z, fv] w fun e w' => e = .returned (.tuple #[]) ∧ w = w' := by
  go_enter Tryz.func165, Tryz.ntmps165
  go_wp2_with fail
  refine wp_loop_rounds 1 ?_
  rw [rounds_succ]
  go_wp2_with (go_at_call 209; refine (w_insSt g c fv w).mono ?_; rintro e w1 ⟨rfl, rfl⟩)
  exact bodyPost_ret (results_none (by rfl) _ _ _) rfl ⟨rfl, rfl⟩
theorem w_SortSt (g c : Nat) (fv : Value) (w : World) :
    Calls Tryz.prog 119 #[.slice (some ⟨g, 0, none⟩) 1 c, fv] w fun e w' => e = .returned (.tuple #[]) ∧ w = w' := by
  go_enter Tryz.func119, Tryz.ntmps119
  go_wp2_with (first
    | (go_at_call 153; refine (w_Len _ _ (by omega) (by omega)).mono ?_; rintro e w' ⟨z, rfl, rfl⟩)
    | (go_at_call 165; refine (w_pdqSt g c _ fv _).mono ?_; rintro e w1 ⟨rfl, rfl⟩))
  go_end0
  exact ⟨rfl, rfl⟩

set_option maxRecDepth 100000 in
set_option maxHeartbeats 4000000 in
theorem w_RidesEx (hEF : EvRight) (g c : Nat) (w : World) (hg : w.heap[g]? = some (.cells exEv 130 (0, 0))) :
    Calls Tryz.prog 84 #[.slice (some ⟨g, 0, none⟩) 1 c, .int .i64 3] w fun e w' => ∃ (A : Option Addr) (cc : Nat), e = .returned (.tuple #[.slice A 1 cc, .int .i64 0]) ∧ Nx w w' := by
  have HMF := hide (w_momentFaultEx hEF g c w hg)
  have HG := hide hg
  clear hg
  go_enter Tryz.func84, Tryz.ntmps84
  go_wp2_with fail
  refine HMF.out.mono ?_
  rintro e w1 ⟨rfl, hn1⟩
  have HFO := hide (w_followEx g c w1 (nx_heap hn1 HG.out))
  go_wp2_with fail
  refine HFO.out.mono ?_
  rintro e w2 ⟨d, rb, p, rfl, hd, hp1, hp2, hrb, hp3, hM, hn2⟩
  obtain ⟨D, hown, hMD⟩ := hM
  have hds : domS sR := by unfold domS; decide
  have hkl := keyS_mk (P := Tryz.prog) Tryz.underlying9 hds
  have hhas : Maps.has D (litS sR) = true := by rw [hMD.has_ hds hkl]; simp
  have hHAS := hide hhas
  have HMD := hide hMD
  clear hhas hMD
  go_wp2_with (at_range; refine wpList_range_own _ rfl _ _ rfl 9 175 law_strE Tryz.underlying165 _ rb 1 _ rfl hown ?_; intro w3 hrg3 hg3 hs3)
  go_frame
  have hx3 : Nx w2 w3 := (Nx.refl w2).grown hg3 (fun j hj => by cases hj)
  have hown0 : ∀ W : World, W.ownsRow (w2.heap.size + 1) 177 7 (.slice none 0 0) ([] : List Unit).length (([] : List Unit).flatMap encSt) := fun W => World.ownsRow_nil _ _ _ _
  have HO0 := hide hown0
  have HS3 := hide hs3
  clear hs3 hown0
  refine wp_loop_rounds 2 ?_
  rw [rounds_succ]
  go_wp2_with (at_next; refine wpList_next_ranges _ rfl _ rfl 9 law_strE ptrElem Value.string ptrV (fun key kl hkey => (by obtain ⟨x, rfl, _⟩ := keyS_inv Tryz.underlying9 hkey; exact ⟨x, rfl⟩)) (fun v y hv => (by obtain ⟨q, _, h, _⟩ := elemPtr.inv v y.1 y.2 hv; exact ⟨q, h⟩)) rb w2.heap.size 1 _ _ _ rfl hrg3 ?_ ?_)
  · intro _ hl0
    exact absurd (hl0 (litS sR)) (by rw [hHAS.out]; simp)
  · intro k c kl y ps w4 cnt4 hkey hlk hRv hat hrg4 hlt4 hg4 hs4 hen
    obtain ⟨k0, ek, hdk, rfl⟩ := keyS_inv Tryz.underlying9 hkey
    obtain rfl := strV_inj _ _ ek
    have hfs : (if k = sR then some (some p) else none : Option (Option Nat)).isSome = true := by
      rw [← hMD_has HMD.out hdk (keyS_mk Tryz.underlying9 hdk)]; exact hlk
    have hk : k = sR := by
      by_cases e : k = sR
      · exact e
      · rw [if_neg e] at hfs; cases hfs
    subst hk
    have hc : c = some p := by
      obtain ⟨q, _, e1, e2⟩ := elemPtr.inv _ _ _ hRv
      have e3 := HMD.out.at_ sR (litS sR) hds hkl (.lit (.bool true))
      rw [hat] at e3
      simp at e3
      rw [e2] at e3
      have e4 := elemPtr.inj _ _ e3
      subst e4
      cases c with
      | none => cases e1
      | some q2 => simp [ptrV] at e1; rw [e1]
    subst hc
    have hpl : p < w2.heap.size := (Array.getElem?_eq_some_iff.1 hp3).1
    have hrl : rb < w2.heap.size := hown.lt
    have hp4 : w4.heap[p]? = some (.cells exSt 177 (0, 0)) := (hg4.block p (Nat.lt_of_lt_of_le hpl hx3.sz) (by intro e; injection e with e; omega)).trans (nx_heap hx3 hp3)
    have b0 := cell_of_row w4 p 0 _ _ _ hp4
    have b1 := cell_of_row w4 p 1 _ _ _ hp4
    have b2 := cell_of_row w4 p 2 _ _ _ hp4
    have b3 := cell_of_row w4 p 3 _ _ _ hp4
    have b4 := cell_of_row w4 p 4 _ _ _ hp4
    have b5 := cell_of_row w4 p 5 _ _ _ hp4
    have b6 := cell_of_row w4 p 6 _ _ _ hp4
    simp [exSt] at b0 b1 b2 b3 b4 b5 b6
    have hsz4 : w2.heap.size < w4.heap.size := by rw [hs4, HS3.out]; omega
    have hen' : (Instr.entry (.pointer (some ⟨w2.heap.size, 0, none⟩))).run Tryz.prog w4 = .ok (.tuple #[.string sR, .pointer (some ⟨p, 0, none⟩)]) w4 := hen
    have hx4 : Nx w2 w4 := hx3.grown hg4 (fun j hj => by injection hj with hj; omega)
    clear hen hp4 hs4 hRv hat
    go_wp2_with (at_builtin; refine wpApp rfl _ _ _ rfl el_State encSt encSt_len encSt_one (by omega) (by omega) (w2.heap.size + 1) _ [] rfl (HO0.out _) _ () _ rfl (hnew rfl) rfl (by simp) (by simp; omega) ?_; intro v5 w5 hown5 hg5)
    have hrg5 := (hrg4.alloc (.cells exSt 177)).kept hg5 (fun e => by cases e) (fun e => by cases e)
    have hx5 : Nx w2 w5 := (hx4.alloc _).grown hg5 (fun j hj => by cases hj)
    obtain ⟨A5, c5, ev, _, hA5⟩ := Rd.of_own encSt_len rfl hown5
    obtain rfl := ev
    have HL := hide hlk
    clear hlk hlt4 b0 b1 b2 b3 b4 b5 b6
    rw [rounds_succ]
    go_wp2_with (at_next; refine wpList_next_ranges _ rfl _ rfl 9 law_strE ptrElem Value.string ptrV (fun key kl hkey => (by obtain ⟨x, rfl, _⟩ := keyS_inv Tryz.underlying9 hkey; exact ⟨x, rfl⟩)) (fun v y hv => (by obtain ⟨q, _, h, _⟩ := elemPtr.inv v y.1 y.2 hv; exact ⟨q, h⟩)) rb w2.heap.size 1 _ _ _ rfl hrg5 ?_ ?_)
    · intro _ hl0
      obtain ⟨g5, hg5e, _, _⟩ := hA5' A5 hA5 hown5
      subst hg5e
      go_wp2_with (go_at_call 119; refine (w_SortSt g5 c5 _ _).mono ?_; rintro e w6 ⟨rfl, rfl⟩)
      go_ret2
      exact ⟨_, _, rfl, (hn1.trans hn2).trans hx5⟩
    · intro k c kl y' ps' w6 cnt6 hkey6 hlk6 hsk6 _ _ _ _ _ _ _
      exfalso
      obtain ⟨k0, ek, hdk6, rfl⟩ := keyS_inv Tryz.underlying9 hkey6
      obtain rfl := strV_inj _ _ ek
      have hfs : (if k = sR then some (some p) else none : Option (Option Nat)).isSome = true := by
        rw [← hMD_has HMD.out hdk6 (keyS_mk Tryz.underlying9 hdk6)]; exact hlk6
      have hk : k = sR := by
        by_cases e : k = sR
        · exact e
        · rw [if_neg e] at hfs; cases hfs
      rw [hk, sameS_self] at hsk6
      cases hsk6
end Go.Proofs.YthlhomcgjgfdhaaGreatDoor
/- Structs by value, small loops over lists. -/
namespace Go.Proofs.YthlhomcgjgfdhaaGreatDoor
open Go.RowKit

theorem w_CellOf_yes (x y size : Int) (w : World) (h1 : isPtB x y = true) (h2 : outB size 1 10000 = false) :
    Calls Tryz.prog 71 #[.int .i64 x, .int .i64 y, .int .i64 size] w fun e w' => e = .returned (.tuple #[.agg #[.int .i64 (x / size), .int .i64 (y / size)], .int .i64 0]) ∧ Nx w w' := by
  have g1 := isPtB_true.1 h1
  have g2 := outB_false.1 h2
  go_enter Tryz.func71, Tryz.ntmps71
  go_wp2_with (first | (go_at_call 87; refine (w_isPoint _ _ _).mono ?_; rintro e w' ⟨rfl, rfl⟩) | (go_at_call 49; refine (w_Out _ _ _ _).mono ?_; rintro e w' ⟨rfl, rfl⟩) | (go_at_call 103; refine (w_Down _ _ _ (by omega) (by omega)).mono ?_; rintro e w' ⟨rfl, rfl⟩))
  exact bodyPost_ret (v := .tuple #[.agg #[.int .i64 (x / size), .int .i64 (y / size)], .int .i64 0]) (by simp [results, Tryz.results71, go_sem]) rfl ⟨rfl, (Nx.refl _).alloc _⟩

end Go.Proofs.YthlhomcgjgfdhaaGreatDoor
/- '==' and '!=' on structs. -/
namespace Go.Proofs.YthlhomcgjgfdhaaGreatDoor
open Go.RowKit

theorem sin_Cell (d : Nat) (x y a b : Int) (w : World) : (Op.equalIn (d + 2) 39 (.agg #[.int .i64 x, .int .i64 y]) (.agg #[.int .i64 a, .int .i64 b])).run Tryz.prog w = .ok (x == a && y == b) w := by
  have u3 := Tryz.underlying3
  have a3 := Tryz.isAgg3
  have z3 := Tryz.sizeOf3
  have hS : Tryz.prog.underlying 39 = some (.struct (Tryz.prog.fieldsOf 39)) := by kernel_rfl
  have hp : Tryz.prog.stoodInHeld 39 = false := by kernel_rfl
  rw [run_equalIn_agg w (d + 1) 39 _ _ hS hp]
  simp only [Program.fieldsOf, Tryz.underlying39]
  go_simp
  by_cases h1 : x = a <;> by_cases h2 : y = b <;> simp [h1, h2]
theorem neq_Cell (x y a b : Int) (w : World) : (binOp .neq 39 (.agg #[.int .i64 x, .int .i64 y]) (.agg #[.int .i64 a, .int .i64 b])).run Tryz.prog w = .ok (.bool (!(x == a && y == b))) w := by
  rw [run_neq_struct, show (10000 : Nat) = 9998 + 2 from rfl, sin_Cell]; rfl
theorem eql_Cell (x y a b : Int) (w : World) : (binOp .eql 39 (.agg #[.int .i64 x, .int .i64 y]) (.agg #[.int .i64 a, .int .i64 b])).run Tryz.prog w = .ok (.bool (x == a && y == b)) w := by
  rw [run_eql_struct, show (10000 : Nat) = 9998 + 2 from rfl, sin_Cell]; rfl
end Go.Proofs.YthlhomcgjgfdhaaGreatDoor
