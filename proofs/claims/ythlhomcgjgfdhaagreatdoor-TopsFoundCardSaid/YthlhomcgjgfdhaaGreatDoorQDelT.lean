/- slices.IndexFunc and slices.DeleteFunc of tallies, on a row of one's own. -/
import Derived.Test.YthlhomcgjgfdhaaGreatDoorQG6
import Derived.Test.YthlhomcgjgfdhaaGreatDoorQG3
import Derived.Lib.SliceRun
import Derived.Laws.IdiomCopy
import Derived.Deep.RegionHeld
namespace Go.Proofs.YthlhomcgjgfdhaaGreatDoor
open Go.RowKit

def idxT (p : Tally → Bool) : List Tally → Nat → Int
  | [], _ => -1
  | y :: l, k => if p y = true then (k : Int) else idxT p l (k + 1)
theorem idxT_drop (p : Tally → Bool) (l : List Tally) (k : Nat) (h : k < l.length) : idxT p (l.drop k) k = if p l[k] = true then (k : Int) else idxT p (l.drop (k + 1)) (k + 1) := by
  rw [List.drop_eq_getElem_cons h]; rfl
theorem idxT_find (p : Tally → Bool) : ∀ (l : List Tally) (k : Nat), idxT p l k = match l.findIdx? p with | some i => ((k + i : Nat) : Int) | none => -1
  | [], _ => rfl
  | y :: l, k => by
    unfold idxT
    rw [List.findIdx?_cons, idxT_find p l (k + 1)]
    cases hp : p y with
    | true => simp
    | false =>
      simp only [Bool.false_eq_true, if_false]
      cases l.findIdx? p with
      | none => rfl
      | some i => simp only [Option.map_some]; congr 1; omega
set_option maxRecDepth 100000 in
set_option maxHeartbeats 2000000 in
theorem w_IndexFT (g : Nat) (p : Tally → Bool) (cap0 : Value) (eg : Enters g) (lo : Nat) (A : Option Addr) (c : Nat) (l : List Tally) (w : World) (hcl : ∀ (y : Tally) W, Nx w W → Calls Tryz.prog g #[.agg #[.int .i64 y.x, .int .i64 y.y, .int .i64 y.hour, .int .i64 y.many], cap0] W fun e w' => e = .returned (.bool (p y)) ∧ Nx W w')
    (hR : Rd w lo A 4 encTally l) (hl : l.length ≤ 65536) :
    Calls Tryz.prog 90 #[.slice A l.length c, .func (.func g) #[] #[cap0]] w fun e w' => e = .returned (.int .i64 (idxT p l 0)) ∧ Nx w w' := by
  generalize hn : l.length = n at *
  have HR := hide hR
  have HN := hide hn
  have HC0 := hide hcl
  clear hR hn hcl
  unfold Enters at eg
  go_enter Tryz.func90, Tryz.ntmps90
  go_wp2
  go_loopw [5, 8] (fun _ i wr => ∃ k : Nat, k ≤ n ∧ i = .int .i64 k ∧ Nx w wr ∧ idxT p l 0 = idxT p (l.drop k) k) (fun _ i _ => n - (intOf i).toNat)
  case atStart => exact ⟨0, Nat.zero_le _, rfl, Nx.refl _, rfl⟩
  case round =>
    obtain ⟨k, hk, rfl, hbw, hq⟩ := hrel
    have HQ := hide hq
    clear hq
    by_cases hlt : k < n
    · have hlt' : k < l.length := by have := HN.out; omega
      obtain ⟨b, off, rfl, _, hb, hbr, hc⟩ := HR.out.open_ hbw (by omega)
      have c0 : wr.cell? ⟨b, off + k * 4, none⟩ = some (.int .i64 l[k].x) := hc k hlt' 0 _ rfl
      have c1 : wr.cell? ⟨b, off + k * 4 + 1, none⟩ = some (.int .i64 l[k].y) := hc k hlt' 1 _ rfl
      have c2 : wr.cell? ⟨b, off + k * 4 + 2, none⟩ = some (.int .i64 l[k].hour) := hc k hlt' 2 _ rfl
      have c3 : wr.cell? ⟨b, off + k * 4 + 3, none⟩ = some (.int .i64 l[k].many) := hc k hlt' 3 _ rfl
      clear hc
      have HD := hide (idxT_drop p l k hlt')
      have hcl := fun W (h : Nx w W) => HC0.out l[k] W h
      generalize l[k] = y at *
      cases hbig : p y
      all_goals
        have HB := hide hbig
        rw [hbig] at hcl
        have HCL := hide hcl
        clear hbig hcl
        go_wp2_with (go_at_fn g; refine (HCL.out _ hbw).mono ?_; rintro e w2 ⟨rfl, hn2⟩)
      · go_roundw
        case rel => exact ⟨k + 1, by omega, by go_num, hbw.trans hn2, by rw [HQ.out, HD.out, HB.out, if_neg (by simp)]⟩
        case measure => simp [intOf]; omega
      · go_ret
        exact ⟨by rw [HQ.out, HD.out, HB.out, if_pos rfl] <;> rfl, hbw.trans hn2⟩
    · go_wp2
      go_ret
      exact ⟨by rw [HQ.out, List.drop_of_length_le (by have := HN.out; omega)] <;> rfl, hbw⟩

/-! DeleteFunc. -/
/-- An element of a row is stored whole. -/
theorem tal_put {w : World} {base g cap n o i : Nat} {ys : List Tally} (hn : ys.length = n) (h : w.ownsRow base 55 4 (.slice (some ⟨g, 0, none⟩) n cap) n (ys.flatMap encTally)) (hi : i < ys.length) (x : Tally) (ho : o = i * 4) :
    ((((w.setCell ⟨g, o, none⟩ (.int .i64 x.x)).setCell ⟨g, o + 1, none⟩ (.int .i64 x.y)).setCell ⟨g, o + 2, none⟩ (.int .i64 x.hour)).setCell ⟨g, o + 3, none⟩ (.int .i64 x.many)).ownsRow base 55 4 (.slice (some ⟨g, 0, none⟩) n cap) n ((ys.set i x).flatMap encTally) := by
  obtain ⟨y, hy⟩ : ∃ y, y = ys[i] := ⟨_, rfl⟩
  have stp : ∀ {W : World} {a b : Tally} {j : Nat} {u : Value}, W.ownsRow base 55 4 (.slice (some ⟨g, 0, none⟩) n cap) n ((ys.set i a).flatMap encTally) → j < 4 → encTally b = (encTally a).set j u → (W.setCell ⟨g, o + j, none⟩ u).ownsRow base 55 4 (.slice (some ⟨g, 0, none⟩) n cap) n ((ys.set i b).flatMap encTally) := by
    intro W a b j u hW hj he
    have hl : (ys.set i a).length = n := by rw [List.length_set]; exact hn
    have hi' : i < (ys.set i a).length := by rw [List.length_set]; exact hi
    have := own_set encTally_len hl hW i hi' j hj u b (by rw [List.getElem_set_self]; exact he) (o + j) (by rw [ho])
    rw [List.set_set] at this
    exact this
  have h0 : w.ownsRow base 55 4 (.slice (some ⟨g, 0, none⟩) n cap) n ((ys.set i y).flatMap encTally) := by
    rw [hy, List.set_getElem_self]; exact h
  have h1 := stp (b := { y with x := x.x }) (j := 0) (u := .int .i64 x.x) h0 (by omega) rfl
  have h2 := stp (b := { x with hour := y.hour, many := y.many }) (j := 1) (u := .int .i64 x.y) h1 (by omega) rfl
  have h3 := stp (b := { x with many := y.many }) (j := 2) (u := .int .i64 x.hour) h2 (by omega) rfl
  exact stp (b := x) (j := 3) (u := .int .i64 x.many) h3 (by omega) rfl
theorem tal_gr {w : World} {g o : Nat} (u0 u1 u2 u3 : Value) : Gr g w ((((w.setCell ⟨g, o, none⟩ u0).setCell ⟨g, o + 1, none⟩ u1).setCell ⟨g, o + 2, none⟩ u2).setCell ⟨g, o + 3, none⟩ u3) :=
  (((((Gr.refl g w).setS (p := ⟨g, o, none⟩) (.inl rfl) u0).setS (p := ⟨g, o + 1, none⟩) (.inl rfl) u1).setS (p := ⟨g, o + 2, none⟩) (.inl rfl) u2).setS (p := ⟨g, o + 3, none⟩) (.inl rfl) u3)
/-- 'clear(s)', elements of K cells. -/
theorem run_clear_T {P : Program} (n : Nat) (w : World) (t e ty : TypeId) (z : Value) (ht : P.underlying t = some (.slice e)) (hv : (zeroValue e).run P w = .ok z w) (h1 : ∀ v ∈ (Builtin.zeroCells z.cells n).toList, v.oneCell' = true) (b o c : Nat) (hn : 0 < n)
    (hc : ∀ j, j < (Builtin.zeroCells z.cells n).toList.length → (w.cell? ⟨b, o + j, none⟩).isSome = true) (hf : ∀ j, j < (Builtin.zeroCells z.cells n).toList.length → w.frozen? ⟨b, o + j, none⟩ = false) :
    (Builtin.clear_ #[t] ty #[.slice (some ⟨b, o, none⟩) n c]).run P w = .ok (.tuple #[]) (w.setCells b o (Builtin.zeroCells z.cells n).toList) := by
  have hst := run_storeCells_cells (P := P) b o (Builtin.zeroCells z.cells n).toList 0 w (by simpa using hc) (by simpa using hf) h1
  simp only [Nat.add_zero] at hst
  obtain ⟨m, rfl⟩ : ∃ m, n = m + 1 := ⟨n - 1, by omega⟩
  simp [Builtin.clear_, run_underlying ht, hv, hst]
/-- What is left while the loop runs. -/
structure DelT (p : Tally → Bool) (xs ys : List Tally) (i j : Nat) : Prop where
  ij : i < j
  len : ys.length = xs.length
  left : ys.take i = (xs.take j).filter (fun x => !p x)
  rest : ∀ q, j ≤ q → ys[q]? = xs[q]?
theorem DelT.keep {p : Tally → Bool} {xs ys : List Tally} {i j : Nat} (h : DelT p xs ys i j) (hj : j < xs.length) (hp : p xs[j] = true) : DelT p xs ys i (j + 1) := by
  refine ⟨by have := h.ij; omega, h.len, ?_, fun q hq => h.rest q (by omega)⟩
  rw [List.take_add_one, List.getElem?_eq_getElem hj, Option.toList_some, List.filter_append, h.left, List.filter_cons_of_neg (by simp [hp]), List.filter_nil, List.append_nil]
theorem DelT.put {p : Tally → Bool} {xs ys : List Tally} {i j : Nat} (h : DelT p xs ys i j) (hj : j < xs.length) (hp : p xs[j] = false) : DelT p xs (ys.set i xs[j]) (i + 1) (j + 1) := by
  have hij := h.ij
  have hi : i < ys.length := by rw [h.len]; omega
  refine ⟨by omega, by rw [List.length_set]; exact h.len, ?_, fun q hq => ?_⟩
  · rw [List.take_add_one (l := xs), List.getElem?_eq_getElem hj, Option.toList_some, List.filter_append, ← h.left, List.filter_cons_of_pos (by simp [hp]), List.filter_nil, List.take_add_one, List.getElem?_set_self hi, Option.toList_some, List.take_set_of_le (Nat.le_refl i)]
  · rw [List.getElem?_set_ne (by omega)]; exact h.rest q (by omega)
theorem DelT.start {p : Tally → Bool} {xs : List Tally} {i : Nat} (h : xs.findIdx? p = some i) : DelT p xs xs i (i + 1) := by
  rw [List.findIdx?_eq_some_iff_getElem] at h
  obtain ⟨hi, hp, hlt⟩ := h
  refine ⟨by omega, rfl, ?_, fun _ _ => rfl⟩
  rw [List.take_add_one, List.getElem?_eq_getElem hi, Option.toList_some, List.filter_append, List.filter_cons_of_neg (by simp [hp]), List.filter_nil, List.append_nil]
  symm
  rw [List.filter_eq_self]
  intro x hx
  obtain ⟨j, hj, rfl⟩ := List.mem_iff_getElem.1 hx
  rw [List.length_take] at hj
  rw [List.getElem_take]
  simpa using hlt j (by omega)
theorem delT_none {p : Tally → Bool} {xs : List Tally} (h : xs.findIdx? p = none) : xs.filter (fun x => !p x) = xs := by
  rw [List.findIdx?_eq_none_iff] at h
  rw [List.filter_eq_self]
  intro x hx
  simpa using h x hx
theorem gr_setCellsT (b : Nat) : ∀ (vs : List Value) (o : Nat) (w : World), Gr b w (w.setCells b o vs)
  | [], _, w => Gr.refl b w
  | v :: vs, o, w => ((Gr.refl b w).setS (p := ⟨b, o, none⟩) (.inl rfl) v).trans (gr_setCellsT b vs (o + 1) _)
/-- Cells behind an own row's elements may change. -/
theorem own_past {e : TypeId} {K n cap g base : Nat} {xs : List Value} : ∀ (vs : List Value) (o : Nat) (w : World), w.ownsRow base e K (.slice (some ⟨g, 0, none⟩) n cap) n xs → n * K ≤ o → (w.setCells g o vs).ownsRow base e K (.slice (some ⟨g, 0, none⟩) n cap) n xs
  | [], _, _, h, _ => h
  | v :: vs, o, w, h, ho => by
    have h1 := (h.stored o v).1
    rw [List.set_eq_of_length_le (by rw [h.1]; exact ho)] at h1
    exact own_past vs (o + 1) (w.setCell ⟨g, o, none⟩ v) h1 (by omega)
theorem zeroTE (w : World) : (zeroValue 55).run Tryz.prog w = .ok (.agg #[.int .i64 0, .int .i64 0, .int .i64 0, .int .i64 0]) w := by kernel_rfl
theorem zeroT_one (n : Nat) : ∀ v ∈ (Builtin.zeroCells (Value.agg #[.int .i64 0, .int .i64 0, .int .i64 0, .int .i64 0]).cells n).toList, v.oneCell' = true := by
  intro v hv
  have h : ∀ v ∈ (#[.int .i64 0, .int .i64 0, .int .i64 0, .int .i64 0] : Array Value), v.oneCell' = true := by
    intro v hv
    simp at hv
    subst hv
    rfl
  unfold Builtin.zeroCells at hv
  rw [Array.toList_map, List.mem_map] at hv
  obtain ⟨i, hi, rfl⟩ := hv
  have hs : (Value.agg #[.int .i64 0, .int .i64 0, .int .i64 0, .int .i64 0]).cells.size = 4 := rfl
  have hlt : i % (Value.agg #[.int .i64 0, .int .i64 0, .int .i64 0, .int .i64 0]).cells.size < (Value.agg #[.int .i64 0, .int .i64 0, .int .i64 0, .int .i64 0]).cells.size := by rw [hs]; omega
  rw [getElem!_pos (Value.agg #[.int .i64 0, .int .i64 0, .int .i64 0, .int .i64 0]).cells _ hlt]
  exact h _ (Array.getElem_mem hlt)
theorem own_cellsT {w : World} {base : Nat} {e : TypeId} {size : Nat} {v : Value} {n : Nat} {xs : List Value} (h : w.ownsRow base e size v n xs) {g : Nat} (hg : v.ownBlock = some g) : ∃ cur, w.heap[g]? = some (.cells cur e (0, 0)) := by
  rcases h.2 with ⟨rfl, _⟩ | ⟨g', cap, cur, rfl, _, hh, _⟩
  · cases hg
  · injection hg with hg; subst hg; exact ⟨cur, hh⟩
theorem own_takeT {e : TypeId} {K n cap g k base : Nat} {w : World} {xs : List Value} (h : w.ownsRow base e K (.slice (some ⟨g, 0, none⟩) n cap) n xs) (hk : k ≤ n) : w.ownsRow base e K (.slice (some ⟨g, 0, none⟩) k cap) k (xs.take (k * K)) := by
  obtain ⟨h1, h2⟩ := h
  have hkK : k * K ≤ n * K := Nat.mul_le_mul_right K hk
  refine ⟨by rw [List.length_take]; omega, .inr ?_⟩
  rcases h2 with ⟨h2, _⟩ | ⟨g', cap', cur, h2, hb, hg, hn, hm, hs, ht⟩
  · cases h2
  · injection h2 with a1 a2 a3
    injection a1 with a1
    injection a1 with a1
    subst a1 a3
    exact ⟨g, cap, cur, rfl, hb, hg, by omega, hm, hs, by rw [← ht, List.take_take, Nat.min_eq_left hkK]⟩
theorem flat_takeT {α : Type} {enc : α → List Value} {K : Nat} (hk : ∀ x, (enc x).length = K) : ∀ (l : List α) (k : Nat), (l.flatMap enc).take (k * K) = (l.take k).flatMap enc
  | [], k => by simp
  | x :: l, 0 => by simp
  | x :: l, k + 1 => by
    rw [List.take_succ_cons, List.flatMap_cons, List.flatMap_cons, List.take_append, hk, List.take_of_length_le (by rw [hk, Nat.add_mul]; omega), show (k + 1) * K - K = k * K by rw [Nat.add_mul]; omega, flat_takeT hk l k]
set_option maxRecDepth 100000 in
set_option maxHeartbeats 1000000 in
theorem w_DeleteFT (gp : Nat) (p : Tally → Bool) (cap0 : Value) (eg : Enters gp) {base g cap n : Nat} (xs : List Tally) (w : World) (hn : xs.length = n) (hl : n ≤ 1000) (hcap : n ≤ cap)
    (hcl : ∀ (y : Tally) W, Gr g w W → Calls Tryz.prog gp #[.agg #[.int .i64 y.x, .int .i64 y.y, .int .i64 y.hour, .int .i64 y.many], cap0] W fun e w' => e = .returned (.bool (p y)) ∧ Nx W w')
    (hown : w.ownsRow base 55 4 (.slice (some ⟨g, 0, none⟩) n cap) n (xs.flatMap encTally)) :
    Calls Tryz.prog 50 #[.slice (some ⟨g, 0, none⟩) n cap, .func (.func gp) #[] #[cap0]] w fun e w' => ∃ m, e = .returned (.slice (some ⟨g, 0, none⟩) m cap) ∧ m = (xs.filter (fun x => !p x)).length ∧ w'.ownsRow base 55 4 (.slice (some ⟨g, 0, none⟩) m cap) m ((xs.filter (fun x => !p x)).flatMap encTally) ∧ Gr g w w' := by
  obtain ⟨A0, c0', e0, hR, -⟩ := Rd.of_own encTally_len hn.symm hown
  injection e0 with e1 e2 e3
  subst e1 e3
  clear e2
  have HIX := hide (w_IndexFT gp p cap0 eg base _ cap xs w (fun y W hn => hcl y W (Gr.of_nx hn)) hR (by omega))
  rw [hn] at HIX
  have hgw := (hown.lt g rfl).2
  have HOW := hide hown
  have HCL0 := hide hcl
  have HN := hide hn
  cases hfi : xs.findIdx? p with
  | none =>
    have hix : idxT p xs 0 = -1 := by rw [idxT_find, hfi]
    have hf := delT_none hfi
    rw [hix] at HIX
    have HF := hide hf
    clear hfi hix hf hR hown hcl hn
    go_enter Tryz.func50, Tryz.ntmps50
    go_wp2_with (go_at_call 90; refine HIX.out.mono ?_; rintro e w2 ⟨rfl, hn2⟩)
    go_ret
    exact ⟨n, rfl, by rw [HF.out]; exact HN.out.symm, by rw [HF.out]; exact own_nx HOW.out hn2, Gr.of_nx hn2⟩
  | some i0 =>
    have hix : idxT p xs 0 = (i0 : Int) := by rw [idxT_find, hfi]; simp
    have hst := DelT.start hfi
    have hi0 : i0 < n := by rw [← hn]; rw [List.findIdx?_eq_some_iff_getElem] at hfi; exact hfi.1
    rw [hix] at HIX
    have HST := hide hst
    have wi : IntKind.i64.wrap ((i0 : Int) + 1) = (i0 : Int) + 1 := IntWalk.i64_in _ (by omega)
    have t0 : ((i0 : Int) == -1) = false := by simp <;> omega
    clear hfi hix hst hR hown hcl hn
    unfold Enters at eg
    go_enter Tryz.func50, Tryz.ntmps50
    go_wp2_with fail
    refine HIX.out.mono ?_
    rintro e w2 ⟨rfl, hn2⟩
    have HN2 := hide hn2
    clear hn2 HIX
    go_upto_region 5 with fail
    go_loopw [5, 6] (fun a b wr => ∃ (i j : Nat) (ys : List Tally), a = .int .i64 i ∧ b = .int .i64 j ∧ j ≤ n ∧ DelT p xs ys i j ∧ wr.ownsRow base 55 4 (.slice (some ⟨g, 0, none⟩) n cap) n (ys.flatMap encTally) ∧ Gr g w wr) (fun _ b _ => n - (intOf b).toNat)
    case atStart => exact ⟨i0, i0 + 1, xs, rfl, by go_num, by omega, HST.out, own_nx HOW.out HN2.out, Gr.of_nx HN2.out⟩
    case round =>
      obtain ⟨i, j, ys, rfl, rfl, hj, hD, how, hg⟩ := hrel
      have HD := hide hD
      have HO := hide how
      have HG := hide hg
      have hyl : ys.length = n := by rw [hD.len, HN.out]
      have hij := hD.ij
      obtain ⟨A1, c1', e1, hR1, -⟩ := Rd.of_own encTally_len hyl.symm how
      injection e1 with f1 f2 f3
      subst f1
      clear hD how hg f2 f3
      by_cases hlt : j < n
      · have hjy : j < ys.length := by omega
        have hiy : i < ys.length := by omega
        have hjx : j < xs.length := by rw [HN.out]; exact hlt
        obtain ⟨b, off, eb, _, hb, hbr, hc⟩ := hR1.open_ (Nx.refl wr) (by omega)
        injection eb with eb
        injection eb with eb1 eb2
        subst eb1
        subst eb2
        have hyx : ys[j] = xs[j] := by
          have := HD.out.rest j (Nat.le_refl _)
          rw [List.getElem?_eq_getElem hjy, List.getElem?_eq_getElem hjx] at this
          injection this
        have c0 : wr.cell? ⟨g, j * 4, none⟩ = some (.int .i64 ys[j].x) := by have h := hc j hjy 0 _ rfl; simpa using h
        have c1 : wr.cell? ⟨g, j * 4 + 1, none⟩ = some (.int .i64 ys[j].y) := by have h := hc j hjy 1 _ rfl; simpa using h
        have c2 : wr.cell? ⟨g, j * 4 + 2, none⟩ = some (.int .i64 ys[j].hour) := by have h := hc j hjy 2 _ rfl; simpa using h
        have c3 : wr.cell? ⟨g, j * 4 + 3, none⟩ = some (.int .i64 ys[j].many) := by have h := hc j hjy 3 _ rfl; simpa using h
        have d0 : wr.cell? ⟨g, i * 4, none⟩ = some (.int .i64 ys[i].x) := by have h := hc i hiy 0 _ rfl; simpa using h
        have d1 : wr.cell? ⟨g, i * 4 + 1, none⟩ = some (.int .i64 ys[i].y) := by have h := hc i hiy 1 _ rfl; simpa using h
        have d2 : wr.cell? ⟨g, i * 4 + 2, none⟩ = some (.int .i64 ys[i].hour) := by have h := hc i hiy 2 _ rfl; simpa using h
        have d3 : wr.cell? ⟨g, i * 4 + 3, none⟩ = some (.int .i64 ys[i].many) := by have h := hc i hiy 3 _ rfl; simpa using h
        rw [hyx] at c0 c1 c2 c3
        have HK := hide (fun hp => HD.out.keep hjx hp)
        have HP := hide (fun hp => HD.out.put hjx hp)
        have hcl2 := fun W (h : Gr g w W) => HCL0.out xs[j] W h
        clear hc hyx
        generalize xs[j] = x at *
        generalize ys[i] = y0 at *
        have HRP := hide (fun (W : World) (h : W.ownsRow base 55 4 (.slice (some ⟨g, 0, none⟩) n cap) n (ys.flatMap encTally)) => tal_put (o := i * 4) hyl h hiy x rfl)
        obtain ⟨x0, x1, x2, x3⟩ := x
        obtain ⟨y0, y1, y2, y3⟩ := y0
        simp only at c0 c1 c2 c3 d0 d1 d2 d3 hcl2 HRP
        have q1 : (0 : Int) ≤ (j : Int) := by omega
        have q2 : (j : Int) < (n : Int) := by omega
        have q3 : (0 : Int) ≤ (i : Int) := by omega
        have q4 : (i : Int) < (n : Int) := by omega
        have wj : IntKind.i64.wrap ((j : Int) + 1) = (j : Int) + 1 := IntWalk.i64_in _ (by omega)
        have wi2 : IntKind.i64.wrap ((i : Int) + 1) = (i : Int) + 1 := IntWalk.i64_in _ (by omega)
        obtain ⟨wb, hwb⟩ : ∃ wb, wb = wr.alloc (.cells #[.int .i64 x0, .int .i64 x1, .int .i64 x2, .int .i64 x3] 55 (0, 0)) := ⟨_, rfl⟩
        obtain ⟨bx, hbx⟩ : ∃ bx, bx = wr.heap.size := ⟨_, rfl⟩
        have hnb : Nx wr wb := hwb ▸ (Nx.refl wr).alloc _
        have hbb : wb.heap[bx]? = some (.cells #[.int .i64 x0, .int .i64 x1, .int .i64 x2, .int .i64 x3] 55 (0, 0)) := by rw [hwb, hbx]; exact heap_alloc_new wr _
        have HCL := hide (hcl2 wb (HG.out.then_nx hnb))
        have HGB := hide (HG.out.then_nx hnb)
        have HBB := hide hbb
        have HNB := hide hnb
        have hgb : g ≠ bx := by omega
        clear hcl2 hnb hbb
        go_upto_region 8 with fail
        rw [← hwb, ← hbx]
        clear hwb hbx c0 c1 c2 c3
        have k0 : wb.cell? ⟨bx, 0, none⟩ = some (.int .i64 x0) := cell_of_row wb bx 0 _ _ _ HBB.out
        have k1 : wb.cell? ⟨bx, 1, none⟩ = some (.int .i64 x1) := cell_of_row wb bx 1 _ _ _ HBB.out
        have k2 : wb.cell? ⟨bx, 2, none⟩ = some (.int .i64 x2) := cell_of_row wb bx 2 _ _ _ HBB.out
        have k3 : wb.cell? ⟨bx, 3, none⟩ = some (.int .i64 x3) := cell_of_row wb bx 3 _ _ _ HBB.out
        have hbl := (Array.getElem?_eq_some_iff.1 HBB.out).1
        cases hbig : p ⟨x0, x1, x2, x3⟩
        · rw [hbig] at HCL
          have HP2 := hide (HP.out hbig)
          clear hbig HP HK
          go_upto_region 9 with (go_at_fn gp; refine HCL.out.mono ?_; rintro e w8 ⟨rfl, hn8⟩; (have HN8 := hide (HNB.out.trans hn8)); (have HB8 := hide ((hn8.block _ hbl).trans HBB.out)); clear hn8)
          clear k0 k1 k2 k3
          have k0 : w8.cell? ⟨bx, 0, none⟩ = some (.int .i64 x0) := cell_of_row w8 bx 0 _ _ _ HB8.out
          have k1 : w8.cell? ⟨bx, 1, none⟩ = some (.int .i64 x1) := cell_of_row w8 bx 1 _ _ _ HB8.out
          have k2 : w8.cell? ⟨bx, 2, none⟩ = some (.int .i64 x2) := cell_of_row w8 bx 2 _ _ _ HB8.out
          have k3 : w8.cell? ⟨bx, 3, none⟩ = some (.int .i64 x3) := cell_of_row w8 bx 3 _ _ _ HB8.out
          have hbl8 := (Array.getElem?_eq_some_iff.1 HB8.out).1
          have v0 := nx_cell HN8.out hbr d0
          have v1 := nx_cell HN8.out hbr d1
          have v2 := nx_cell HN8.out hbr d2
          have v3 := nx_cell HN8.out hbr d3
          have hgl8 := Nat.lt_of_lt_of_le hbr HN8.out.sz
          have hfz : ∀ q, w8.frozen? ⟨g, q, none⟩ = false := fun q => by
            obtain ⟨cur, hcur⟩ := own_cellsT (own_nx HO.out HN8.out) rfl
            simp [World.frozen?, hcur]
          have HO9 := hide (HRP.out w8 (own_nx HO.out HN8.out))
          have HG9 := hide ((HG.out.then_nx HN8.out).trans (tal_gr (g := g) (o := i * 4) (.int .i64 x0) (.int .i64 x1) (.int .i64 x2) (.int .i64 x3)))
          obtain ⟨w9, hw9⟩ : ∃ w9, w9 = (((w8.setCell ⟨g, i * 4, none⟩ (.int .i64 x0)).setCell ⟨g, i * 4 + 1, none⟩ (.int .i64 x1)).setCell ⟨g, i * 4 + 2, none⟩ (.int .i64 x2)).setCell ⟨g, i * 4 + 3, none⟩ (.int .i64 x3) := ⟨_, rfl⟩
          rw [← hw9] at HO9 HG9
          clear d0 d1 d2 d3 hR1 HRP
          go_upto_region 10 with fail
          rw [← hw9]
          clear hw9 v0 v1 v2 v3 k0 k1 k2 k3 hfz
          go_wp2_with fail
          go_roundw
          case rel => exact ⟨i + 1, j + 1, _, by go_num, by go_num, by omega, HP2.out, HO9.out, HG9.out⟩
          case measure => simp [intOf]; omega
        · rw [hbig] at HCL
          have HK2 := hide (HK.out hbig)
          clear hbig HP HK d0 d1 d2 d3 hR1 HRP
          go_wp2_with (go_at_fn gp; refine HCL.out.mono ?_; rintro e w8 ⟨rfl, hn8⟩)
          go_roundw
          case rel => exact ⟨i, j + 1, ys, by go_num, by go_num, by omega, HK2.out, own_nx HO.out (HNB.out.trans hn8), HGB.out.then_nx hn8⟩
          case measure => simp [intOf]; omega
      · obtain rfl : j = n := by omega
        have hiz : (i : Int) < (j : Int) := by omega
        have hi0 : (0 : Int) ≤ (i : Int) := by omega
        have hij2 : (i : Int) ≤ (j : Int) := by omega
        have hic : (i : Int) ≤ (cap : Int) := by omega
        have hic2 : i ≤ cap := by omega
        have hij3 : i ≤ j := by omega
        have ht : xs.take j = xs := List.take_of_length_le (by rw [HN.out]; exact Nat.le_refl _)
        have hfil : xs.filter (fun x => !p x) = ys.take i := by rw [HD.out.left, ht]
        have HFI := hide hfil
        have HBG := hide (HO.out.lt g rfl)
        obtain ⟨Z, hZ⟩ : ∃ Z, Z = (Builtin.zeroCells (Value.agg #[.int .i64 0, .int .i64 0, .int .i64 0, .int .i64 0]).cells (j - i)).toList := ⟨_, rfl⟩
        have hZl : Z.length = (j - i) * 4 := by rw [hZ, Array.length_toList, size_zeroCells]; rfl
        have hclr : (Builtin.clear_ #[26] 0 #[.slice (some ⟨g, i * 4, none⟩) (j - i) (cap - i)]).run Tryz.prog wr = .ok (.tuple #[]) (wr.setCells g (i * 4) Z) := by
          rw [hZ]
          refine run_clear_T (j - i) wr 26 55 0 (.agg #[.int .i64 0, .int .i64 0, .int .i64 0, .int .i64 0]) Tryz.underlying26 (zeroTE wr) (zeroT_one _) g (i * 4) (cap - i) (by omega) (fun q hq => ?_) (fun q _ => ?_)
          · rw [← hZ, hZl] at hq
            have hlt2 : i * 4 + q < j * 4 := by omega
            rw [HO.out.cellAt (i * 4 + q) (by simpa using hlt2)]
            rw [List.getElem?_eq_getElem (by rw [flat_len encTally_len, hyl]; exact hlt2)]
            rfl
          · obtain ⟨cur, hcur⟩ := own_cellsT HO.out rfl
            simp [World.frozen?, hcur]
        have HZL := hide hZl
        have HOT := hide (own_takeT HO.out hij3)
        clear hR1 ht hfil hZ hZl
        go_wp2_with fail
        go_ret
        have hG9 : Gr g w (wr.setCells g (i * 4) Z) := HG.out.trans (gr_setCellsT g Z (i * 4) wr)
        refine ⟨i, rfl, ?_, ?_, hG9⟩
        · rw [HFI.out, List.length_take]; omega
        · rw [HFI.out, ← flat_takeT encTally_len]
          exact own_past Z (i * 4) wr HOT.out (Nat.le_refl _)
end Go.Proofs.YthlhomcgjgfdhaaGreatDoor
