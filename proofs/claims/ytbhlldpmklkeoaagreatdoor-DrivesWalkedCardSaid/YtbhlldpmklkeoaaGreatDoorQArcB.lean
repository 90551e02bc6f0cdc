/- An arc's number: the program's search. -/
import Derived.Test.YtbhlldpmklkeoaaGreatDoorQG10
namespace Go.Proofs.YtbhlldpmklkeoaaGreatDoor
open Go.RowKit

theorem w_arc1 (x : Arc) (s : ByteArray) (w : World) : Calls Tryz.prog 62 #[.agg #[.string x.key, .string x.from_, .string x.to_, .int .i64 x.long, .slice x.ka x.knots.length x.kc], .string s] w fun e w' => e = .returned (.int .i64 (cmpS x.key s)) ∧ Nx w w' := by
  go_enter Tryz.func62, Tryz.ntmps62
  go_wp2_with (go_at_call 59; refine (w_CompareS _ _ _).mono ?_; rintro e w' ⟨rfl, rfl⟩)
  go_ret
  exact ⟨rfl, (Nx.refl _).alloc _⟩

set_option maxRecDepth 100000 in
set_option maxHeartbeats 2000000 in
theorem w_BsfArc (g : Nat) (f : Arc → Int) (x : ByteArray) (eg : Enters g) (hcl : ∀ (y : Arc) W, Calls Tryz.prog g #[.agg #[.string y.key, .string y.from_, .string y.to_, .int .i64 y.long, .slice y.ka y.knots.length y.kc], .string x] W fun e w' => e = .returned (.int .i64 (f y)) ∧ Nx W w')
    (lo : Nat) (A : Option Addr) (c : Nat) (l : List Arc) (w : World) (hR : Rd w lo A 5 encArc l) (hl : l.length ≤ 65536)
    (hm : ∀ i j, i ≤ j → j < l.length → f (l.getD j default) < 0 → f (l.getD i default) < 0) :
    Calls Tryz.prog 61 #[.slice A l.length c, .string x, .func (.func g) #[] #[]] w fun e w' => ∃ (r : Nat) (is : Bool), e = .returned (.tuple #[.int .i64 (r : Int), .bool is]) ∧ Found (fun i => f (l.getD i default)) l.length r is ∧ Nx w w' := by
  generalize hn : l.length = n at *
  have HR := hide hR
  have HN := hide hn
  have HC0 := hide hcl
  have HM := hide hm
  clear hR hn hcl hm
  unfold Enters at eg
  have HG := hide (fun i (hi : i < l.length) => (show l.getD i default = l[i] by rw [List.getD_eq_getElem?_getD, List.getElem?_eq_getElem hi]; rfl))
  go_enter Tryz.func61, Tryz.ntmps61
  go_wp2
  go_loopw [9, 10, 11] (fun vi vj _ wr => ∃ i j : Nat, i ≤ j ∧ j ≤ n ∧ vi = .int .i64 i ∧ vj = .int .i64 j ∧ Nx w wr ∧ (∀ m, m < i → f (l.getD m default) < 0) ∧ (∀ m, j ≤ m → m < n → 0 ≤ f (l.getD m default))) (fun vi vj _ _ => (intOf vj).toNat - (intOf vi).toNat)
  case atStart => exact ⟨0, n, Nat.zero_le _, Nat.le_refl _, rfl, rfl, Nx.refl _, fun m hm => by omega, fun m h1 h2 => by omega⟩
  case round =>
    obtain ⟨i, j, hij, hj, rfl, rfl, hbw, hlo, hhi⟩ := hrel
    have HLO := hide hlo
    have HHI := hide hhi
    clear hlo hhi
    by_cases hlt : i < j
    · obtain ⟨h, hh⟩ : ∃ h, h = (i + j) / 2 := ⟨_, rfl⟩
      have qh : ((i : Int) + (j : Int)) / 2 = (h : Int) := by omega
      have hih : i ≤ h := by omega
      have hhj : h < j := by omega
      have hh' : h < l.length := by have := HN.out; omega
      clear hh
      obtain ⟨b, off, rfl, _, hb, hbr, hc⟩ := HR.out.open_ hbw (by omega)
      have c0 : wr.cell? ⟨b, off + h * 5, none⟩ = some (.string l[h].key) := hc h hh' 0 _ rfl
      have c1 : wr.cell? ⟨b, off + h * 5 + 1, none⟩ = some (.string l[h].from_) := hc h hh' 1 _ rfl
      have c2 : wr.cell? ⟨b, off + h * 5 + 2, none⟩ = some (.string l[h].to_) := hc h hh' 2 _ rfl
      have c3 : wr.cell? ⟨b, off + h * 5 + 3, none⟩ = some (.int .i64 l[h].long) := hc h hh' 3 _ rfl
      have c4 : wr.cell? ⟨b, off + h * 5 + 4, none⟩ = some (.slice l[h].ka l[h].knots.length l[h].kc) := hc h hh' 4 _ rfl
      clear hc
      have HE := hide (HG.out h hh')
      have HCY := hide (HC0.out l[h])
      by_cases hneg : f l[h] < 0
      · have t1 : decide (f l[h] < 0) = true := by simpa using hneg
        have HNG := hide hneg
        clear hneg
        generalize l[h] = y at *
        go_wp2_with (go_at_fn g; refine (HCY.out _).mono ?_; rintro e w2 ⟨rfl, hn2⟩)
        go_roundw
        case rel => exact ⟨h + 1, j, by omega, by omega, by go_num, rfl, hbw.trans hn2, fun m hm => HM.out m h (by omega) (by omega) (by rw [HE.out]; exact HNG.out), HHI.out⟩
        case measure => simp [intOf]; omega
      · have t1 : decide (f l[h] < 0) = false := by simpa using hneg
        have HNG := hide hneg
        clear hneg
        generalize l[h] = y at *
        go_wp2_with (go_at_fn g; refine (HCY.out _).mono ?_; rintro e w2 ⟨rfl, hn2⟩)
        go_roundw
        case rel => exact ⟨i, h, by omega, by omega, rfl, rfl, hbw.trans hn2, HLO.out, fun m h1 h2 => by
          refine Int.not_lt.1 fun hc => ?_
          have h3 := HM.out h m h1 h2 hc
          rw [HE.out] at h3
          have := HNG.out
          omega⟩
        case measure => simp [intOf]; omega
    · have hij' : i = j := by omega
      subst hij'
      clear hlt hij
      by_cases hin : i < n
      · have hi' : i < l.length := by have := HN.out; omega
        obtain ⟨b, off, rfl, _, hb, hbr, hc⟩ := HR.out.open_ hbw (by omega)
        have c0 : wr.cell? ⟨b, off + i * 5, none⟩ = some (.string l[i].key) := hc i hi' 0 _ rfl
        have c1 : wr.cell? ⟨b, off + i * 5 + 1, none⟩ = some (.string l[i].from_) := hc i hi' 1 _ rfl
        have c2 : wr.cell? ⟨b, off + i * 5 + 2, none⟩ = some (.string l[i].to_) := hc i hi' 2 _ rfl
        have c3 : wr.cell? ⟨b, off + i * 5 + 3, none⟩ = some (.int .i64 l[i].long) := hc i hi' 3 _ rfl
        have c4 : wr.cell? ⟨b, off + i * 5 + 4, none⟩ = some (.slice l[i].ka l[i].knots.length l[i].kc) := hc i hi' 4 _ rfl
        clear hc
        have HE := hide (HG.out i hi')
        have HCY := hide (HC0.out l[i])
        generalize l[i] = y at *
        go_wp2_with (go_at_fn g; refine (HCY.out _).mono ?_; rintro e w2 ⟨rfl, hn2⟩)
        go_ret2
        exact ⟨i, _, rfl, ⟨hj, HLO.out, HHI.out, by show _ = (decide (i < n) && decide (f (l.getD i default) = 0)); rw [HE.out, decide_eq_true hin]; rfl⟩, hbw.trans hn2⟩
      · go_wp2
        go_ret2
        exact ⟨i, _, rfl, ⟨hj, HLO.out, HHI.out, by rw [decide_eq_false hin]; rfl⟩, hbw⟩

theorem SortA.at {l : List Arc} (h : SortA l) {i j : Nat} (hij : i < j) (hj : j < l.length) : ltS (l.getD i default).key (l.getD j default).key := by
  unfold SortA at h
  rw [List.pairwise_iff_getElem] at h
  have := h i j (by omega) hj hij
  rw [List.getD_eq_getElem?_getD, List.getD_eq_getElem?_getD, List.getElem?_eq_getElem (by omega), List.getElem?_eq_getElem hj]
  exact this
theorem SortA.mono {l : List Arc} (h : SortA l) (s : ByteArray) (i j : Nat) (hij : i ≤ j) (hj : j < l.length) (hn : cmpS (l.getD j default).key s < 0) : cmpS (l.getD i default).key s < 0 := by
  rcases Nat.lt_or_ge i j with h1 | h1
  · exact cmpS_neg.2 (ltS_trans (h.at h1 hj) (cmpS_neg.1 hn))
  · have : i = j := by omega
    subst this; exact hn
set_option maxRecDepth 100000 in
set_option maxHeartbeats 1000000 in
theorem w_arcR (g lo : Nat) (A : Option Addr) (c : Nat) (l : List Arc) (s : ByteArray) (w : World) (hg : w.cell? ⟨g, 1, none⟩ = some (.slice A l.length c)) (hR : Rd w lo A 5 encArc l) (hl : l.length ≤ 65536) (hs : SortA l) :
    Calls Tryz.prog 37 #[.pointer (some ⟨g, 0, none⟩), .string s] w fun e w' => e = .returned (.int .i64 (arcI l s)) ∧ Nx w w' := by
  have hB := w_BsfArc 62 (fun n => cmpS n.key s) s (enters_of Tryz.func62 (by kernel_rfl) rfl) (fun y W => w_arc1 y s W) lo A c l w hR hl (fun i j => hs.mono s i j)
  by_cases hex : ∃ k, k < l.length ∧ (l.getD k default).key = s
  · obtain ⟨k, hk, hks⟩ := hex
    have hlo : ∀ i, i < k → cmpS (l.getD i default).key s < 0 := fun i hi => cmpS_neg.2 (by rw [← hks]; exact hs.at hi hk)
    have HI := hide (show arcI l s = (k : Int) by
      have := idxP_at (fun n : Arc => decide (n.key = s)) l 0 k hk (decide_eq_true hks) (fun i hi => decide_eq_false (fun e => by have := hlo i hi; rw [cmpS_zero.2 e] at this; omega))
      rw [Nat.zero_add] at this; exact this)
    have hB2 : Calls Tryz.prog 61 #[.slice A l.length c, .string s, .func (.func 62) #[] #[]] w fun e w' => e = .returned (.tuple #[.int .i64 (k : Int), .bool true]) ∧ Nx w w' := by
      refine hB.mono ?_
      rintro e w' ⟨r, is, rfl, hF, hn⟩
      obtain ⟨rfl, rfl⟩ := found_at hF k hk (cmpS_zero.2 hks) hlo
      exact ⟨rfl, hn⟩
    have HB := hide hB2
    clear hB hB2 hR hs hlo hks hk
    generalize l.length = n at *
    generalize arcI l s = z at *
    go_enter Tryz.func37, Tryz.ntmps37
    go_wp2_with (go_at_call 61; refine HB.out.mono ?_; rintro e w2 ⟨rfl, hn2⟩)
    go_ret
    exact ⟨ret_int HI.out.symm, hn2⟩
  · have hno : ∀ k, k < l.length → (l.getD k default).key ≠ s := fun k hk e => hex ⟨k, hk, e⟩
    have HI := hide (show arcI l s = -1 from idxP_no _ l 0 (fun k hk => decide_eq_false (hno k hk)))
    have hB2 : Calls Tryz.prog 61 #[.slice A l.length c, .string s, .func (.func 62) #[] #[]] w fun e w' => ∃ r : Nat, e = .returned (.tuple #[.int .i64 (r : Int), .bool false]) ∧ Nx w w' := by
      refine hB.mono ?_
      rintro e w' ⟨r, is, rfl, hF, hn⟩
      obtain rfl := found_no hF (fun k hk e => hno k hk (cmpS_zero.1 e))
      exact ⟨r, rfl, hn⟩
    have HB := hide hB2
    clear hB hB2 hR hs hno hex
    generalize l.length = n at *
    generalize arcI l s = z at *
    go_enter Tryz.func37, Tryz.ntmps37
    go_wp2_with (go_at_call 61; refine HB.out.mono ?_; rintro e w2 ⟨r, rfl, hn2⟩)
    go_ret
    exact ⟨ret_int HI.out.symm, hn2⟩
end Go.Proofs.YtbhlldpmklkeoaaGreatDoor
