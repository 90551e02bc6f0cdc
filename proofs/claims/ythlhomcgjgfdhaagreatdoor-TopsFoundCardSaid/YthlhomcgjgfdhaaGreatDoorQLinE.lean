/- base.Lines, base.Each. -/
import Derived.Test.YthlhomcgjgfdhaaGreatDoorQG6
import Derived.Deep.DeepCutAuto
namespace Go.Proofs.YthlhomcgjgfdhaaGreatDoor
open Go.RowKit

def bodyS (s : ByteArray) : ByteArray := ⟨(Lib.trimSuffix s.data.toList [10]).toArray⟩
theorem w_CutS (s : ByteArray) (hs : s.size ≤ 1000000) (w : World) : Calls Tryz.prog 132 #[.string s, .string ⟨#[10]⟩] w fun e w' => e = .returned (.tuple #[.string (bodyS s), .bool (Lib.hasSuffix s.data.toList [10])]) ∧ w = w' := by
  have hcon := Any.strings_CutSuffix Tryz.cutSuffix s ⟨#[10]⟩ w (by omega)
  change Calls Tryz.prog 132 _ _ _ at hcon
  refine hcon.mono ?_
  rintro e w' ⟨rfl, rfl⟩
  exact ⟨rfl, rfl⟩
/-- base.Lines of a string. -/
def LinesR (s : ByteArray) (w : World) (e : Ending) (w' : World) : Prop :=
  ∃ (ls : List ByteArray) (B : Option Addr) (ends : Bool), linesL s.data.toList = (dataL ls, ends) ∧ (ends = false → ls ≠ []) ∧ e = .returned (.tuple #[.slice B ls.length ls.length, .bool ends]) ∧ Rd w' w.heap.size B 1 encS ls ∧ ls.length ≤ s.size + 1 ∧ (∀ x ∈ ls, x.size ≤ s.size) ∧ Nx w w'
set_option maxRecDepth 100000 in
set_option maxHeartbeats 2000000 in
theorem w_Lines (s : ByteArray) (hs : s.size ≤ 1000000) (w : World) (hM : MaxI w) : Calls Tryz.prog 98 #[.string s] w (LinesR s w) := by
  by_cases h0 : s.data.toList = []
  · have te : s.toList = [] := by rw [Lib.toList_data]; exact h0
    have teb : s.toList.isEmpty = true := by rw [te]; rfl
    have HF := hide (show linesL s.data.toList = (dataL [], true) by rw [h0]; rfl)
    clear h0 hM
    go_enter Tryz.func98, Tryz.ntmps98
    go_wp2_with fail
    go_ret2
    exact ⟨[], none, true, HF.out, by simp, rfl, Rd.nil, Nat.zero_le _, fun x hx => (by cases hx), Nx.refl _⟩
  · have te : ¬ s.toList = [] := by rw [Lib.toList_data]; exact h0
    have teb : s.toList.isEmpty = false := by
      cases h : s.toList with
      | nil => exact absurd h te
      | cons _ _ => rfl
    have hbs : (bodyS s).size ≤ s.size := by
      have e : (bodyS s).data.toList = Lib.trimSuffix s.data.toList [10] := by simp [bodyS]
      rw [← len_data, e, ← len_data]
      unfold Lib.trimSuffix
      split <;> simp
    have HC := hide (w_CutS s hs w)
    have HS := hide (w_Split (bodyS s) 10 (by omega) w hM)
    obtain ⟨en, hen⟩ : ∃ en, en = Lib.hasSuffix s.data.toList [10] := ⟨_, rfl⟩
    have HF := hide (fun (ws : List ByteArray) (h : dataL ws = Lib.split (bodyS s).data.toList [10]) => (show linesL s.data.toList = (dataL ws, en) by
      unfold linesL
      rw [if_neg h0, h, hen]
      simp [bodyS]))
    have HNE := hide (fun (ws : List ByteArray) (h : dataL ws = Lib.split (bodyS s).data.toList [10]) => (show ws ≠ [] by
      intro e
      rw [e] at h
      exact split_ne 10 _ _ (Nat.le_refl _) h.symm))
    rw [← hen] at HC
    clear h0 hM hen
    go_enter Tryz.func98, Tryz.ntmps98
    go_wp2_with (first
      | (go_at_call 132; refine HC.out.mono ?_; rintro e w1 ⟨rfl, rfl⟩)
      | (go_at_call 70; refine HS.out.mono ?_; rintro e w2 ⟨ws, B, hd, rfl, hR, hle, hsz, hn1⟩))
    go_ret2
    exact ⟨ws, B, en, HF.out ws hd, fun _ => HNE.out ws hd, rfl, hR, by omega, fun x hx => Nat.le_trans (hsz x hx) hbs, hn1⟩

/-- The first line that is not taken, or that no line feed ends. -/
def BadAt (ok : ByteArray → Bool) (ls : List ByteArray) (ends : Bool) (j : Nat) : Prop :=
  ∃ h : j < ls.length, (ls.take j).all ok = true ∧ ((ends = false ∧ j + 1 = ls.length) ∨ ok ls[j] = false)
theorem all_take {ok : ByteArray → Bool} {ls : List ByteArray} {i j : Nat} (h : (ls.take j).all ok = true) (hij : i < j) (hi : i < ls.length) : ok ls[i] = true := by
  rw [List.all_eq_true] at h
  exact h _ (List.mem_iff_getElem.2 ⟨i, by rw [List.length_take]; omega, by rw [List.getElem_take]⟩)
theorem BadAt.uniq {ok : ByteArray → Bool} {ls : List ByteArray} {ends : Bool} {i j : Nat} (h : BadAt ok ls ends i) (k : BadAt ok ls ends j) : i = j := by
  have key : ∀ {i j : Nat}, BadAt ok ls ends i → BadAt ok ls ends j → ¬ i < j := fun {i j} h k hij => by
    obtain ⟨hi, _, h2⟩ := h
    obtain ⟨hj, k1, _⟩ := k
    have h3 := all_take k1 hij hi
    rcases h2 with ⟨_, h2⟩ | h2
    · omega
    · rw [h3] at h2; cases h2
  have h1 := key h k
  have h2 := key k h
  omega
theorem BadAt.bad {ok : ByteArray → Bool} {ls : List ByteArray} {ends : Bool} {j : Nat} (h : BadAt ok ls ends j) : ends = false ∨ ls.all ok = false := by
  obtain ⟨hj, _, h2⟩ := h
  rcases h2 with ⟨h2, _⟩ | h2
  · exact .inl h2
  · right
    rw [List.all_eq_false]
    exact ⟨_, List.getElem_mem hj, by simp [h2]⟩
/-- base.Each with a closure that captures one box: the box's block b alone turns. -/
def EachR (text : ByteArray) (b : Nat) (ok : ByteArray → Bool) (I : World → List ByteArray → World → Prop) (w : World) (e : Ending) (w' : World) : Prop :=
  ∃ (ls : List ByteArray) (ends : Bool), linesL text.data.toList = (dataL ls, ends) ∧ ls.length ≤ text.size + 1 ∧ Gr b w w' ∧ ((ends = true ∧ ls.all ok = true ∧ e = .returned (.tuple #[.int .i64 0, .bool true]) ∧ ∃ w1, Nx w w1 ∧ Gr b w1 w' ∧ I w1 ls w') ∨ (∃ j : Nat, BadAt ok ls ends j ∧ e = .returned (.tuple #[.int .i64 j, .bool false])))
set_option maxRecDepth 100000 in
set_option maxHeartbeats 4000000 in
theorem w_Each (text : ByteArray) (hs : text.size ≤ 1000000) (g : Nat) (cap0 : Value) (eg : Enters g) (b : Nat) (ok : ByteArray → Bool) (I : World → List ByteArray → World → Prop) (w : World) (hM : MaxI w) (hb : b < w.heap.size)
    (h0 : ∀ w1, Nx w w1 → I w1 [] w1)
    (hcl : ∀ w1, Nx w w1 → ∀ d line W, Gr b w1 W → line.size ≤ text.size → d.length ≤ text.size → I w1 d W → Calls Tryz.prog g #[.string line, cap0] W fun e w' => e = .returned (.bool (ok line)) ∧ Gr b w1 w' ∧ (ok line = true → I w1 (d ++ [line]) w')) :
    Calls Tryz.prog 63 #[.string text, .func (.func g) #[] #[cap0]] w (EachR text b ok I w) := by
  have HL := hide (w_Lines text hs w hM)
  have HCL := hide hcl
  have HI0 := hide h0
  clear hM hcl h0
  unfold Enters at eg
  go_enter Tryz.func63, Tryz.ntmps63
  go_upto_region 3 with (go_at_call 98; refine HL.out.mono ?_; rintro e w1 ⟨ls, B, ends, hll, hne, rfl, hR, hle, hsz, hn1⟩)
  have HLL := hide hll
  have HNE := hide hne
  have HR := hide hR
  have HLE := hide hle
  have HSZ := hide hsz
  have HN1 := hide hn1
  have HI1 := hide (HI0.out w1 hn1)
  have hbw : b < w.heap.size := hb
  have hw1 := hn1.sz
  obtain ⟨n, hn⟩ : ∃ n, n = ls.length := ⟨_, rfl⟩
  rw [← hn]
  have HN := hide hn
  have hn6 : n ≤ 1000001 := by omega
  clear hll hne hR hle hsz hn1 hn HL HI0
  go_loopw [8, 9, 17] (fun _ _ i wr => ∃ k : Nat, k ≤ n ∧ i = .int .i64 k ∧ (ls.take k).all ok = true ∧ I w1 (ls.take k) wr ∧ Gr b w1 wr ∧ (ends = false → k < n)) (fun _ _ i _ => n - (intOf i).toNat)
  case atStart => exact ⟨0, Nat.zero_le _, rfl, by simp, by rw [List.take_zero]; exact HI1.out, Gr.refl _ _, fun h => by
    have := HNE.out h
    have := HN.out
    cases ls with
    | nil => exact absurd rfl (HNE.out h)
    | cons _ _ => simp at this; omega⟩
  case round =>
    obtain ⟨k, hk, rfl, hok, hI, hgr, hen⟩ := hrel
    have HOK := hide hok
    have HI := hide hI
    have HG := hide hgr
    by_cases hlt : k < n
    · have hkl : k < ls.length := by have := HN.out; omega
      have hRr := HR.out.gr hgr (by omega)
      obtain ⟨bb, off, rfl, _, hbb, hbr, hc⟩ := hRr.open_ (Nx.refl wr) (by omega)
      have c0 : wr.cell? ⟨bb, off + k, none⟩ = some (.string ls[k]) := by have h := hc k hkl 0 _ rfl; simpa using h
      have HTK := hide (show ls.take (k + 1) = ls.take k ++ [ls[k]] from List.take_succ_eq_append_getElem hkl)
      have HAL := hide (show ok ls[k] = false → BadAt ok ls ends k from fun h => ⟨hkl, hok, .inr h⟩)
      have HLA := hide (show ends = false ∧ k = n - 1 → BadAt ok ls ends k from fun h => ⟨hkl, hok, .inl ⟨h.1, by have := HN.out; omega⟩⟩)
      have HCC := hide (HCL.out w1 HN1.out (ls.take k) ls[k] wr hgr (HSZ.out _ (List.getElem_mem hkl)) (by have := HLE.out; rw [List.length_take]; omega) hI)
      generalize ls[k] = x at *
      have i1 : (0 : Int) ≤ (k : Int) := by omega
      have i2 : (k : Int) < (n : Int) := by omega
      have W1 : IntKind.i64.wrap ((n : Int) - 1) = (n : Int) - 1 := IntWalk.i64_in _ (by omega)
      clear hok hI hgr hRr hc hen
      by_cases hlast : ends = false ∧ k = n - 1
      · have HLB := hide (HLA.out hlast)
        obtain ⟨he, hkn⟩ := hlast
        have te : ((k : Int) == (n : Int) - 1) = true := by simp; omega
        subst he
        clear hkn HCC
        go_wp2_with fail
        go_ret2
        exact ⟨ls, false, HLL.out, HLE.out, (Gr.of_nx HN1.out).trans HG.out, .inr ⟨k, HLB.out, rfl⟩⟩
      · have te : ends = false → ((k : Int) == (n : Int) - 1) = false := fun h => by
          simp
          intro h2
          exact hlast ⟨h, by omega⟩
        have hk1 : ends = false → k + 1 < n := fun h => by
          rcases Nat.lt_or_ge (k + 1) n with h2 | h2
          · exact h2
          · exact absurd ⟨h, by omega⟩ hlast
        have HK1 := hide hk1
        clear hlast hk1
        cases hx : ok x with
        | true =>
          have HX := hide hx
          have HCT : Hid (Calls Tryz.prog g #[.string x, cap0] wr fun e w' => e = .returned (.bool true) ∧ Gr b w1 w' ∧ I w1 (ls.take k ++ [x]) w') := hide (HCC.out.mono (by
            rintro e w' ⟨rfl, h1, h2⟩
            exact ⟨by rw [HX.out], h1, h2 HX.out⟩))
          clear hx HCC
          cases ends
          · have te1 := te rfl
            clear te
            go_wp2_with (go_at_fn g; refine HCT.out.mono ?_; rintro e w3 ⟨rfl, hg3, hI3⟩; (have HI3 := hide hI3); clear hI3)
            go_roundw
            case rel => exact ⟨k + 1, by omega, by go_num, by rw [HTK.out, List.all_append, HOK.out]; simp [HX.out], by rw [HTK.out]; exact HI3.out, hg3, HK1.out⟩
            case measure => simp [intOf]; omega
          · clear te
            go_wp2_with (go_at_fn g; refine HCT.out.mono ?_; rintro e w3 ⟨rfl, hg3, hI3⟩; (have HI3 := hide hI3); clear hI3)
            go_roundw
            case rel => exact ⟨k + 1, by omega, by go_num, by rw [HTK.out, List.all_append, HOK.out]; simp [HX.out], by rw [HTK.out]; exact HI3.out, hg3, HK1.out⟩
            case measure => simp [intOf]; omega
        | false =>
          have HX := hide (HAL.out hx)
          have HCT : Hid (Calls Tryz.prog g #[.string x, cap0] wr fun e w' => e = .returned (.bool false) ∧ Gr b w1 w') := hide (HCC.out.mono (by
            rintro e w' ⟨rfl, h1, _⟩
            exact ⟨by rw [hx], h1⟩))
          clear hx HCC
          cases ends
          · have te1 := te rfl
            clear te
            go_wp2_with (go_at_fn g; refine HCT.out.mono ?_; rintro e w3 ⟨rfl, hg3⟩)
            go_ret2
            exact ⟨ls, false, HLL.out, HLE.out, (Gr.of_nx HN1.out).trans hg3, .inr ⟨k, HX.out, rfl⟩⟩
          · clear te
            go_wp2_with (go_at_fn g; refine HCT.out.mono ?_; rintro e w3 ⟨rfl, hg3⟩)
            go_ret2
            exact ⟨ls, true, HLL.out, HLE.out, (Gr.of_nx HN1.out).trans hg3, .inr ⟨k, HX.out, rfl⟩⟩
    · have ek : k = n := by omega
      have hent : ends = true := by
        cases h : ends with
        | true => rfl
        | false => have := hen h; omega
      have htl : ls.take k = ls := List.take_of_length_le (by have := HN.out; omega)
      rw [htl] at HOK HI
      have HEN := hide hent
      clear hok hI hgr hen hent htl ek
      go_wp2_with fail
      go_ret2
      exact ⟨ls, true, by rw [← HEN.out]; exact HLL.out, HLE.out, (Gr.of_nx HN1.out).trans HG.out, .inl ⟨rfl, HOK.out, rfl, w1, HN1.out, HG.out, HI.out⟩⟩
end Go.Proofs.YthlhomcgjgfdhaaGreatDoor
