/- One event followed: the day. -/
import Derived.Test.YtfnbmcinbmbehaaGreatQG23
import Derived.Test.YtfnbmcinbmbehaaGreatQG21
import Derived.Sort.WalkA
namespace Go.Proofs.YtfnbmcinbmbehaaGreat
open Go.RowKit Go.Maps

/-- The day behind one booking. -/
def DayEx (w : World) (e : Ending) (w' : World) : Prop :=
  ∃ (d rb p : Nat), e = .returned (.pointer (some ⟨d, 0, none⟩)) ∧ w'.cell? ⟨d, 1, none⟩ = some (.map (some rb)) ∧ w.heap.size ≤ p ∧ p ≠ rb ∧ w.heap.size ≤ rb ∧ w'.heap[p]? = some (.cells exSt 115 (0, 0)) ∧ MpSP w' rb 1 (fun k => if k = sR then some (some p) else none) ∧ Nx w w'
set_option maxRecDepth 100000 in
set_option maxHeartbeats 4000000 in
theorem w_followEx (g c : Nat) (w : World) (hg : w.heap[g]? = some (.cells exEv 65 (0, 0))) :
    Calls Tryz.prog 51 #[.slice (some ⟨g, 0, none⟩) 1 c, .int .i64 3, .nilFunc] w (DayEx w) := by
  have hgl : g < w.heap.size := (Array.getElem?_eq_some_iff.1 hg).1
  have hmm := @run_makeMap Tryz.prog
  have hnf : ∀ w, (binOp .neq 108 .nilFunc .nilFunc).run Tryz.prog w = .ok (.bool false) w := fun w => by kernel_rfl
  have hne : ¬ (⟨⟨#[]⟩, 0⟩ : EvName) = exName := by decide
  have HG := hide hg
  clear hg
  go_enter Tryz.func51, Tryz.ntmps51
  go_wp2_with fail
  obtain ⟨w5, hw5⟩ : ∃ w5, w5 = ((((w.alloc (.map #[] 0)).alloc (.map #[] 0)).alloc (.map #[] 0)).alloc (.map #[] 0)).alloc (.cells #[.slice (some ⟨g, 0, none⟩) 1 c, .map (some w.heap.size), .map (some (w.heap.size + 1)), .slice none 0 0, .map (some (w.heap.size + 1 + 1)), .map (some (w.heap.size + 1 + 1 + 1)), .nilFunc] 110) := ⟨_, rfl⟩
  have hx5 : Nx w w5 := hw5 ▸ (((((Nx.refl w).alloc _).alloc _).alloc _).alloc _).alloc _
  have hM5 : MpSP w5 w.heap.size 0 (fun _ => none) := by
    rw [hw5]; exact (MgI.made w).nx (((((Nx.refl _).alloc _).alloc _).alloc _).alloc _)
  have hG5 : MpII w5 (w.heap.size + 1 + 1) 0 (fun _ => none) := by
    have h : MpII (((w.alloc (.map #[] 0)).alloc (.map #[] 0)).alloc (.map #[] 0)) ((w.alloc (.map #[] 0)).alloc (.map #[] 0)).heap.size 0 (fun _ => none) := MgI.made ((w.alloc (.map #[] 0)).alloc (.map #[] 0))
    rw [show ((w.alloc (.map #[] 0)).alloc (.map #[] 0)).heap.size = w.heap.size + 1 + 1 by simp] at h
    rw [hw5]; exact h.nx (((Nx.refl _).alloc _).alloc _)
  have hd5 : w.heap.size + 1 + 1 + 1 + 1 < w5.heap.size := by rw [hw5]; simp
  have y1 : w5.cell? ⟨w.heap.size + 1 + 1 + 1 + 1, 1, none⟩ = some (.map (some w.heap.size)) := by rw [hw5]; go_simp
  have y4 : w5.cell? ⟨w.heap.size + 1 + 1 + 1 + 1, 4, none⟩ = some (.map (some (w.heap.size + 1 + 1))) := by rw [hw5]; go_simp
  have y6 : w5.cell? ⟨w.heap.size + 1 + 1 + 1 + 1, 6, none⟩ = some .nilFunc := by rw [hw5]; go_simp
  have hg5 := nx_heap hx5 HG.out
  rw [← hw5]
  clear hw5
  obtain ⟨rb, hrb⟩ : ∃ rb, rb = w.heap.size := ⟨_, rfl⟩
  rw [← hrb] at hM5 hG5 hd5 y1 y4 y6 ⊢
  refine (w_byNameEx g c w5 hg5).mono ?_
  rintro e w6 ⟨nb, rfl, hnb, hN6, hn6⟩
  have hM6 := hM5.nx hn6
  have hG6 := hG5.nx hn6
  have z1 := nx_cell hn6 hd5 y1
  have z4 := nx_cell hn6 hd5 y4
  have z6 := nx_cell hn6 hd5 y6
  have hd6 := Nat.lt_of_lt_of_le hd5 hn6.sz
  have hg6 := nx_heap hn6 hg5
  have hgl6 : g < w6.heap.size := (Array.getElem?_eq_some_iff.1 hg6).1
  have a0 := cell_of_row w6 g 0 _ _ _ hg6
  have a1 := cell_of_row w6 g 1 _ _ _ hg6
  have a2 := cell_of_row w6 g 2 _ _ _ hg6
  have a3 := cell_of_row w6 g 3 _ _ _ hg6
  have a4 := cell_of_row w6 g 4 _ _ _ hg6
  have a5 := cell_of_row w6 g 5 _ _ _ hg6
  have a6 := cell_of_row w6 g 6 _ _ _ hg6
  have a7 := cell_of_row w6 g 7 _ _ _ hg6
  have a8 := cell_of_row w6 g 8 _ _ _ hg6
  have a9 := cell_of_row w6 g 9 _ _ _ hg6
  have a10 := cell_of_row w6 g 10 _ _ _ hg6
  simp [exEv] at a0 a1 a2 a3 a4 a5 a6 a7 a8 a9 a10
  have HRB := hide hrb
  have HG5 := hide hg5
  have HG6 := hide hg6
  have hdn : domName ⟨⟨#[]⟩, 0⟩ := ⟨by decide, by decide⟩
  obtain ⟨kl, hkey⟩ := key_name ⟨⟨#[]⟩, 0⟩ hdn
  clear hmm hrb hM5 hG5 y1 y4 y6 hg5 hg6
  go_wp2_with fail
  refine wp_loop_rounds 2 ?_
  rw [rounds_succ]
  go_wp2_with (at_lookup; refine wpMgLookOk _ rfl _ _ _ rfl intE law_name Tryz.underlying156 (z := (0 : Int)) (by decide) (zeroIntE _) nb 1 _ rfl (hN6.nx ((Nx.refl _).alloc _)) ⟨⟨#[]⟩, 0⟩ rfl hdn _ hkey ?_)
  rw [rounds_succ]
  go_wp2_with fail
  refine wp_loop_rounds 2 ?_
  rw [rounds_succ]
  have hn8 : Nx w6 ((w6.alloc (.cells #[.string sS, .int .i64 1, .int .i64 0, .int .i64 1, .string sR, .string ⟨#[]⟩, .string ⟨#[]⟩, .int .i64 5, .int .i64 9, .string ⟨#[]⟩, .int .i64 0] 65)).alloc (.cells #[.string sS, .int .i64 1, .int .i64 0, .int .i64 1, .string sR, .string ⟨#[]⟩, .string ⟨#[]⟩, .int .i64 5, .int .i64 9, .string ⟨#[]⟩, .int .i64 0] 65)) := ((Nx.refl w6).alloc _).alloc _
  have k1 := nx_cell hn8 hd6 z1
  have k4 := nx_cell hn8 hd6 z4
  have k6 := nx_cell hn8 hd6 z6
  have hst := w_stepEx (rb + 1 + 1 + 1 + 1) rb nb _ (by omega) k1 (hM6.nx hn8)
  have HST := hide hst
  have HK6 := hide k6
  clear k1 k6 hst
  have hdi : domI 0 := by unfold domI; decide
  go_wp2_with (at_lookup; refine wpMgLookOk _ rfl _ _ _ rfl intE law_intE Tryz.underlying106 (z := (0 : Int)) (by decide) (zeroIntE _) (rb + 1 + 1) 0 _ rfl (hG6.nx (((Nx.refl _).alloc _).alloc _)) 0 rfl hdi _ (key_int hdi) ?_)
  have hst := HST.out
  unfold exEv at hst
  refine hst.mono ?_
  rintro e w9 ⟨A9, c9, p, rfl, hp1, hp2, hp3, hM9, hg9⟩
  have m6 : w9.cell? ⟨rb + 1 + 1 + 1 + 1, 6, none⟩ = some .nilFunc := World.grownBy.cell hg9 HK6.out (by simp; omega)
  have m1 : w9.cell? ⟨rb + 1 + 1 + 1 + 1, 1, none⟩ = some (.map (some rb)) := World.grownBy.cell hg9 (nx_cell hn8 hd6 z1) (by simp; omega)
  have hend : Nx w w9 := Nx.of_gr (((Gr.of_nx ((hx5.trans hn6).trans hn8))).trans hg9) (by rw [HRB.out]; exact Nat.le_refl _)
  have hpw : w.heap.size ≤ p := Nat.le_trans ((hx5.trans hn6).trans hn8).sz hp1
  clear hst HST HK6 k4 a0 a1 a2 a3 a4 a5 a6 a7 a8 a9 a10 z1 z4 z6
  go_wp2_with fail
  rw [rounds_succ]
  go_wp2_with fail
  go_ret
  exact ⟨_, rb, p, rfl, m1, hpw, hp2, by rw [HRB.out]; exact Nat.le_refl _, hp3, hM9, hend⟩
end Go.Proofs.YtfnbmcinbmbehaaGreat
/- The rides behind one booking. -/
namespace Go.Proofs.YtfnbmcinbmbehaaGreat
open Go.RowKit Go.Maps

theorem hMD_has {P : Program} {K : TypeId} {κ V : Type} {ek : κ → Value} {dom : κ → Prop} {dv : V → DataW Unit} {D : DataW Unit} {f : κ → Option V} (h : MgD P K ek dom dv D f) {k : κ} (hd : dom k) {l : Lit} (hkey : keyOf P K (ek k) = some l) : Maps.has D l = (f k).isSome := h.has_ hd hkey
theorem hA5' {w : World} {base : Nat} {e : TypeId} {c : Nat} (A : Option Addr) (h : ∀ a, A = some a → ∃ g, a = ⟨g, 0, none⟩ ∧ base ≤ g ∧ g < w.heap.size) {L : List Value} (ho : w.ownsRow base e 7 (.slice A 1 c) 1 L) : ∃ g, A = some ⟨g, 0, none⟩ ∧ base ≤ g ∧ g < w.heap.size := by
  rcases ho.2 with ⟨hv, h0⟩ | ⟨g, cap, cur, hv, _⟩
  · cases h0
  · injection hv with h1 _ _
    obtain ⟨g', e1, e2⟩ := h _ h1
    exact ⟨g', by rw [h1, e1], e2⟩
theorem el_State : ElemOf Tryz.prog 61 115 7 72 := ElemOf.mk' (z := .agg #[.string ByteArray.empty, .string ByteArray.empty, .int .i64 0, .int .i64 0, .int .i64 0, .int .i64 0, .int .i64 0]) Tryz.underlying61 (by kernel_rfl) rfl
def encSt (_ : Unit) : List Value := exSt.toList
theorem encSt_len (x : Unit) : (encSt x).length = 7 := rfl
theorem encSt_one (x : Unit) : ∀ v ∈ encSt x, v.oneCell' = true := by
  intro v hv; simp [encSt, exSt] at hv; rcases hv with rfl | rfl | rfl | rfl | rfl | rfl <;> rfl
set_option maxRecDepth 100000 in
set_option maxHeartbeats 1000000 in
theorem w_insSt (g c : Nat) (fv : Value) (w : World) :
    Calls Tryz.prog 117 #[.slice (some ⟨g, 0, none⟩) 1 c, .int .i64 0, .int .i64 1, fv] w fun e w' => e = .returned (.tuple #[]) ∧ w = w' := by
  go_enter Tryz.func117, Tryz.ntmps117
  go_wp2_with fail
  refine wp_loop_rounds 1 ?_
  rw [rounds_succ]
  go_wp2_with fail
  go_end0
  exact ⟨rfl, rfl⟩
set_option maxRecDepth 100000 in
set_option maxHeartbeats 1000000 in
theorem w_pdqSt (g c : Nat) (z : Int) (fv : Value) (w : World) :
    Calls Tryz.prog 85 #[.slice (some ⟨g, 0, none⟩) 1 c, .int .i64 0, .int .i64 1, .int .i64 z, fv] w fun e w' => e = .returned (.tuple #[]) ∧ w = w' := by
  go_enter Tryz.func85, Tryz.ntmps85
  go_wp2_with fail
  refine wp_loop_rounds 1 ?_
  rw [rounds_succ]
  go_wp2_with (go_at_call 117; refine (w_insSt g c fv w).mono ?_; rintro e w1 ⟨rfl, rfl⟩)
  exact bodyPost_ret (results_none (by rfl) _ _ _) rfl ⟨rfl, rfl⟩
theorem w_SortSt (g c : Nat) (fv : Value) (w : World) :
    Calls Tryz.prog 52 #[.slice (some ⟨g, 0, none⟩) 1 c, fv] w fun e w' => e = .returned (.tuple #[]) ∧ w = w' := by
  go_enter Tryz.func52, Tryz.ntmps52
  go_wp2_with (first
    | (go_at_call 68; refine (w_Len _ _ (by omega) (by omega)).mono ?_; rintro e w' ⟨z, rfl, rfl⟩)
    | (go_at_call 85; refine (w_pdqSt g c _ fv _).mono ?_; rintro e w1 ⟨rfl, rfl⟩))
  go_end0
  exact ⟨rfl, rfl⟩

set_option maxRecDepth 100000 in
set_option maxHeartbeats 4000000 in
theorem w_RidesEx (hEF : EvRight) (g c : Nat) (w : World) (hg : w.heap[g]? = some (.cells exEv 65 (0, 0))) :
    Calls Tryz.prog 22 #[.slice (some ⟨g, 0, none⟩) 1 c, .int .i64 3] w fun e w' => ∃ (A : Option Addr) (cc : Nat), e = .returned (.tuple #[.slice A 1 cc, .int .i64 0]) ∧ Nx w w' := by
  have HMF := hide (w_momentFaultEx hEF g c w hg)
  have HG := hide hg
  clear hg
  go_enter Tryz.func22, Tryz.ntmps22
  go_wp2_with fail
  refine HMF.out.mono ?_
  rintro e w1 ⟨rfl, hn1⟩
  have HFO := hide (w_followEx g c w1 (nx_heap hn1 HG.out))
  go_wp2_with fail
  refine HFO.out.mono ?_
  rintro e w2 ⟨d, rb, p, rfl, hd, hp1, hp2, hrb, hp3, hM, hn2⟩
  obtain ⟨D, hown, hMD⟩ := hM
  have hds : domS sR := by unfold domS; decide
  have hkl := keyS_mk (P := Tryz.prog) Tryz.underlying9 hds
  have hhas : Maps.has D (litS sR) = true := by rw [hMD.has_ hds hkl]; simp
  have hHAS := hide hhas
  have HMD := hide hMD
  clear hhas hMD
  go_wp2_with (at_range; refine wpList_range_own _ rfl _ _ rfl 9 113 law_strE Tryz.underlying103 _ rb 1 _ rfl hown ?_; intro w3 hrg3 hg3 hs3)
  go_frame
  have hx3 : Nx w2 w3 := (Nx.refl w2).grown hg3 (fun j hj => by cases hj)
  have hown0 : ∀ W : World, W.ownsRow (w2.heap.size + 1) 115 7 (.slice none 0 0) ([] : List Unit).length (([] : List Unit).flatMap encSt) := fun W => World.ownsRow_nil _ _ _ _
  have HO0 := hide hown0
  have HS3 := hide hs3
  clear hs3 hown0
  refine wp_loop_rounds 2 ?_
  rw [rounds_succ]
  go_wp2_with (at_next; refine wpList_next_ranges _ rfl _ rfl 9 law_strE ptrElem Value.string ptrV (fun key kl hkey => (by obtain ⟨x, rfl, _⟩ := keyS_inv Tryz.underlying9 hkey; exact ⟨x, rfl⟩)) (fun v y hv => (by obtain ⟨q, _, h, _⟩ := elemPtr.inv v y.1 y.2 hv; exact ⟨q, h⟩)) rb w2.heap.size 1 _ _ _ rfl hrg3 ?_ ?_)
  · intro _ hl0
    exact absurd (hl0 (litS sR)) (by rw [hHAS.out]; simp)
  · intro k c kl y ps w4 cnt4 hkey hlk hRv hat hrg4 hlt4 hg4 hs4 hen
    obtain ⟨k0, ek, hdk, rfl⟩ := keyS_inv Tryz.underlying9 hkey
    obtain rfl := strV_inj _ _ ek
    have hfs : (if k = sR then some (some p) else none : Option (Option Nat)).isSome = true := by
      rw [← hMD_has HMD.out hdk (keyS_mk Tryz.underlying9 hdk)]; exact hlk
    have hk : k = sR := by
      by_cases e : k = sR
      · exact e
      · rw [if_neg e] at hfs; cases hfs
    subst hk
    have hc : c = some p := by
      obtain ⟨q, _, e1, e2⟩ := elemPtr.inv _ _ _ hRv
      have e3 := HMD.out.at_ sR (litS sR) hds hkl (.lit (.bool true))
      rw [hat] at e3
      simp at e3
      rw [e2] at e3
      have e4 := elemPtr.inj _ _ e3
      subst e4
      cases c with
      | none => cases e1
      | some q2 => simp [ptrV] at e1; rw [e1]
    subst hc
    have hpl : p < w2.heap.size := (Array.getElem?_eq_some_iff.1 hp3).1
    have hrl : rb < w2.heap.size := hown.lt
    have hp4 : w4.heap[p]? = some (.cells exSt 115 (0, 0)) := (hg4.block p (Nat.lt_of_lt_of_le hpl hx3.sz) (by intro e; injection e with e; omega)).trans (nx_heap hx3 hp3)
    have b0 := cell_of_row w4 p 0 _ _ _ hp4
    have b1 := cell_of_row w4 p 1 _ _ _ hp4
    have b2 := cell_of_row w4 p 2 _ _ _ hp4
    have b3 := cell_of_row w4 p 3 _ _ _ hp4
    have b4 := cell_of_row w4 p 4 _ _ _ hp4
    have b5 := cell_of_row w4 p 5 _ _ _ hp4
    have b6 := cell_of_row w4 p 6 _ _ _ hp4
    simp [exSt] at b0 b1 b2 b3 b4 b5 b6
    have hsz4 : w2.heap.size < w4.heap.size := by rw [hs4, HS3.out]; omega
    have hen' : (Instr.entry (.pointer (some ⟨w2.heap.size, 0, none⟩))).run Tryz.prog w4 = .ok (.tuple #[.string sR, .pointer (some ⟨p, 0, none⟩)]) w4 := hen
    have hx4 : Nx w2 w4 := hx3.grown hg4 (fun j hj => by injection hj with hj; omega)
    clear hen hp4 hs4 hRv hat
    go_wp2_with (at_builtin; refine wpApp rfl _ _ _ rfl el_State encSt encSt_len encSt_one (by omega) (by omega) (w2.heap.size + 1) _ [] rfl (HO0.out _) _ () _ rfl (hnew rfl) rfl (by simp) (by simp; omega) ?_; intro v5 w5 hown5 hg5)
    have hrg5 := (hrg4.alloc (.cells exSt 115)).kept hg5 (fun e => by cases e) (fun e => by cases e)
    have hx5 : Nx w2 w5 := (hx4.alloc _).grown hg5 (fun j hj => by cases hj)
    obtain ⟨A5, c5, ev, _, hA5⟩ := Rd.of_own encSt_len rfl hown5
    obtain rfl := ev
    have HL := hide hlk
    clear hlk hlt4 b0 b1 b2 b3 b4 b5 b6
    rw [rounds_succ]
    go_wp2_with (at_next; refine wpList_next_ranges _ rfl _ rfl 9 law_strE ptrElem Value.string ptrV (fun key kl hkey => (by obtain ⟨x, rfl, _⟩ := keyS_inv Tryz.underlying9 hkey; exact ⟨x, rfl⟩)) (fun v y hv => (by obtain ⟨q, _, h, _⟩ := elemPtr.inv v y.1 y.2 hv; exact ⟨q, h⟩)) rb w2.heap.size 1 _ _ _ rfl hrg5 ?_ ?_)
    · intro _ hl0
      obtain ⟨g5, hg5e, _, _⟩ := hA5' A5 hA5 hown5
      subst hg5e
      go_wp2_with (go_at_call 52; refine (w_SortSt g5 c5 _ _).mono ?_; rintro e w6 ⟨rfl, rfl⟩)
      go_ret2
      exact ⟨_, _, rfl, (hn1.trans hn2).trans hx5⟩
    · intro k c kl y' ps' w6 cnt6 hkey6 hlk6 hsk6 _ _ _ _ _ _ _
      exfalso
      obtain ⟨k0, ek, hdk6, rfl⟩ := keyS_inv Tryz.underlying9 hkey6
      obtain rfl := strV_inj _ _ ek
      have hfs : (if k = sR then some (some p) else none : Option (Option Nat)).isSome = true := by
        rw [← hMD_has HMD.out hdk6 (keyS_mk Tryz.underlying9 hdk6)]; exact hlk6
      have hk : k = sR := by
        by_cases e : k = sR
        · exact e
        · rw [if_neg e] at hfs; cases hfs
      rw [hk, sameS_self] at hsk6
      cases hsk6
end Go.Proofs.YtfnbmcinbmbehaaGreat
/- Plain: sorting by insertion is stable. -/
namespace Go.Proofs.YtfnbmcinbmbehaaGreat
open Go.Sort Go.Proofs
variable {α : Type} [Inhabited α]
theorem get_bang {d : Array α} {pre suf : List α} {x : α} (h : d.toList = pre ++ x :: suf) : d[pre.length]! = x := by
  have h1 : d[pre.length]? = some x := by rw [← Array.getElem?_toList, h, List.getElem?_append_right (Nat.le_refl _)]; simp
  rw [getElem!_def, h1]
theorem swp_list {d : Array α} {q suf : List α} {x y : α} (h : d.toList = q ++ y :: x :: suf) : (swp d (q.length + 1) q.length).toList = q ++ x :: y :: suf := by
  have h1 : d[q.length]! = y := get_bang h
  have h2 : d[q.length + 1]! = x := by
    have : d.toList = (q ++ [y]) ++ x :: suf := by rw [h]; simp
    have := get_bang this
    simpa using this
  unfold swp
  rw [h1, h2]
  simp only [Array.toList_setIfInBounds, h]
  rw [List.set_append_right _ _ (by omega), show q.length + 1 - q.length = 1 by omega, List.set_cons_succ, List.set_cons_zero, List.set_append_right _ _ (by omega), Nat.sub_self, List.set_cons_zero]
theorem inner_list (lt : α → α → Bool) : ∀ (n : Nat) (pre suf : List α) (x : α) (d : Array α), pre.length = n → d.toList = pre ++ x :: suf → ∃ p1 p2, pre = p1 ++ p2 ∧ (insInner lt 0 n d).toList = p1 ++ x :: (p2 ++ suf) ∧ (∀ y ∈ p2, lt x y = true) ∧ (∀ q y, p1 = q ++ [y] → lt x y = false)
  | 0, pre, suf, x, d, hn, hd => by
    have : pre = [] := List.eq_nil_of_length_eq_zero hn
    subst this
    exact ⟨[], [], rfl, by simpa [insInner] using hd, by simp, by simp⟩
  | n + 1, pre, suf, x, d, hn, hd => by
    have hne : pre ≠ [] := by intro e; subst e; simp at hn
    obtain ⟨q, y, rfl⟩ : ∃ q y, pre = q ++ [y] := ⟨pre.dropLast, pre.getLast hne, (List.dropLast_concat_getLast hne).symm⟩
    have hq : q.length = n := by simpa using hn
    have hx : d[n + 1]! = x := by rw [← hn]; exact get_bang hd
    have hy : d[n]! = y := by rw [← hq]; exact get_bang (suf := x :: suf) (by rw [hd]; simp)
    unfold insInner
    rw [hx, hy]
    by_cases hl : lt x y = true
    · rw [if_pos (by simp [hl])]
      obtain ⟨p1, p2, e1, e2, e3, e4⟩ := inner_list lt n q (y :: suf) x (swp d (n + 1) n) hq (by rw [← hq]; exact swp_list (by rw [hd]; simp))
      refine ⟨p1, p2 ++ [y], by rw [e1]; simp, by rw [e2]; simp, fun z hz => ?_, e4⟩
      rcases List.mem_append.1 hz with hz | hz
      · exact e3 z hz
      · simp at hz; subst hz; exact hl
    · rw [if_neg (by simp [hl])]
      refine ⟨q ++ [y], [], by simp, by simpa using hd, by simp, fun q' y' e => ?_⟩
      have := List.append_inj' e rfl
      simp at this
      rw [← this.2]
      simpa using hl
/-- Sorting by insertion is stable: S is the order at first, R the order behind it. -/
theorem outer_list (lt : α → α → Bool) {R S : α → α → Prop} (h1 : ∀ x y, lt x y = true → R x y) (h2 : ∀ x y, S y x → lt x y = false → R y x) (htr : ∀ x y z, R x y → R y z → R x z) :
    ∀ (m : Nat) (b i : Nat) (d : Array α) (pre suf : List α), b - i = m → i ≤ b → pre.length = i → d.toList = pre ++ suf → b = (pre ++ suf).length → pre.Pairwise R → (∀ y ∈ pre, ∀ x ∈ suf, S y x) → suf.Pairwise S → ((insOuter lt 0 b i d).toList.Perm (pre ++ suf) ∧ (insOuter lt 0 b i d).toList.Pairwise R)
  | 0, b, i, d, pre, suf, hm, hib, hp, hd, hb, hR, hS, hs => by
    have : suf = [] := List.eq_nil_of_length_eq_zero (by simp at hb; omega)
    subst this
    rw [insOuter_stop lt 0 b i d (by omega), hd]
    exact ⟨List.Perm.refl _, by simpa using hR⟩
  | m + 1, b, i, d, pre, suf, hm, hib, hp, hd, hb, hR, hS, hs => by
    cases suf with
    | nil => simp at hb; omega
    | cons x suf =>
      rw [insOuter_go lt 0 b i d (by omega)]
      obtain ⟨p1, p2, e1, e2, e3, e4⟩ := inner_list lt i pre suf x d hp hd
      have hsx := List.pairwise_cons.1 hs
      have hR' : (p1 ++ x :: p2).Pairwise R := by
        subst e1
        rw [List.pairwise_append] at hR ⊢
        have hlast : ∀ y ∈ p1, R y x := by
          intro y hy
          have hne : p1 ≠ [] := List.ne_nil_of_mem hy
          obtain ⟨q, z, e⟩ : ∃ q z, p1 = q ++ [z] := ⟨p1.dropLast, p1.getLast hne, (List.dropLast_concat_getLast hne).symm⟩
          have hz : R z x := h2 x z (hS z (by simp [e]) x (by simp)) (e4 q z e)
          rw [e] at hy
          rcases List.mem_append.1 hy with hy | hy
          · have hp := hR.1
            rw [e, List.pairwise_append] at hp
            exact htr y z x (hp.2.2 y hy z (by simp)) hz
          · simp at hy; subst hy; exact hz
        refine ⟨hR.1, List.pairwise_cons.2 ⟨fun y hy => h1 x y (e3 y hy), hR.2.1⟩, fun y hy z hz => ?_⟩
        rcases List.mem_cons.1 hz with rfl | hz
        · exact hlast y hy
        · exact hR.2.2 y hy z hz
      have hperm : (p1 ++ x :: p2).Perm (pre ++ [x]) := by
        subst e1
        exact (List.perm_middle).trans (List.perm_append_singleton x (p1 ++ p2)).symm
      have hl : (p1 ++ x :: p2).length = i + 1 := by have := hperm.length_eq; simp at this ⊢; omega
      have ih := outer_list lt h1 h2 htr m b (i + 1) (insInner lt 0 i d) (p1 ++ x :: p2) suf (by omega) (by simp at hb; omega) hl (by rw [e2]; simp) (by simp at hb hl ⊢; omega) hR'
        (fun y hy z hz => by
          have hy' := hperm.mem_iff.1 hy
          rcases List.mem_append.1 hy' with hy' | hy'
          · exact hS y hy' z (by simp [hz])
          · simp at hy'; subst hy'; exact hsx.1 z hz) hsx.2
      refine ⟨ih.1.trans ?_, ih.2⟩
      have := hperm.append_right suf
      simpa using this
theorem ins_stable (lt : α → α → Bool) {R S : α → α → Prop} (h1 : ∀ x y, lt x y = true → R x y) (h2 : ∀ x y, S y x → lt x y = false → R y x) (htr : ∀ x y z, R x y → R y z → R x z) (d : Array α) (hS : d.toList.Pairwise S) :
    (insertionSort lt d 0 d.size).toList.Perm d.toList ∧ (insertionSort lt d 0 d.size).toList.Pairwise R := by
  unfold insertionSort
  cases hd : d.toList with
  | nil =>
    have : d.size = 0 := by rw [← Array.length_toList, hd]; rfl
    rw [insOuter_stop lt 0 _ _ d (by omega), hd]
    exact ⟨List.Perm.refl _, List.Pairwise.nil⟩
  | cons x l =>
    rw [hd] at hS
    have hx := List.pairwise_cons.1 hS
    have hsz : d.size = l.length + 1 := by rw [← Array.length_toList, hd]; rfl
    exact outer_list lt h1 h2 htr _ d.size 1 d [x] l rfl (by omega) rfl hd (by rw [hsz]; simp) (by simp) (fun y hy z hz => by simp at hy; subst hy; exact hx.1 z hz) hx.2
end Go.Proofs.YtfnbmcinbmbehaaGreat
