/- The reference's Lines: line by line, with a closure that captures one box. -/
import Derived.Test.YthlhomcgjgfdhaaGreatDoorQLinE
import Derived.Test.YthlhomcgjgfdhaaGreatDoorQShelfU
import Derived.Deep.DeepCutAuto
namespace Go.Proofs.YthlhomcgjgfdhaaGreatDoor
open Go.RowKit

theorem suffix_app {a r : List UInt8} (h : r ≠ []) : Lib.hasSuffix (a ++ r) [10] = Lib.hasSuffix r [10] ∧ Lib.trimSuffix (a ++ r) [10] = a ++ Lib.trimSuffix r [10] := by
  have h1 : Lib.hasSuffix (a ++ r) [10] = Lib.hasSuffix r [10] := by
    unfold Lib.hasSuffix
    rw [Bool.eq_iff_iff]
    simp only [List.isSuffixOf_iff_suffix]
    constructor
    · rintro ⟨t, ht⟩
      have hr : r = r.dropLast ++ [r.getLast h] := (List.dropLast_concat_getLast h).symm
      rw [hr, ← List.append_assoc] at ht
      have h2 := List.append_inj_right' ht rfl
      exact ⟨r.dropLast, by rw [h2]; exact hr.symm⟩
    · rintro ⟨t, ht⟩
      exact ⟨a ++ t, by rw [List.append_assoc, ht]⟩
  refine ⟨h1, ?_⟩
  unfold Lib.trimSuffix
  rw [h1]
  split
  · have : 0 < r.length := List.length_pos_iff.2 h
    rw [List.length_append, List.take_append, show a.length + r.length - ([10] : List UInt8).length - a.length = r.length - ([10] : List UInt8).length by simp; omega, List.take_of_length_le (by simp; omega)]
  · rfl
theorem linesL_cons {a r : List UInt8} (h : 10 ∉ a) : linesL (a ++ 10 :: r) = (a :: (linesL r).1, (linesL r).2) := by
  by_cases hr : r = []
  · subst hr
    have e : linesL (a ++ [10]) = linesL (textL [a]) := by simp [textL]
    rw [e, linesL_text (by simpa using h)]
    rfl
  · have e : a ++ 10 :: r = (a ++ [10]) ++ r := by simp
    unfold linesL
    rw [if_neg (by simp), if_neg hr, e, (suffix_app hr).1, (suffix_app hr).2, show (a ++ [10]) ++ Lib.trimSuffix r [10] = a ++ 10 :: Lib.trimSuffix r [10] by simp, split_at h]
theorem linesL_no {a : List UInt8} (h : 10 ∉ a) (h0 : a ≠ []) : linesL a = ([a], false) := by
  have h1 : Lib.hasSuffix a [10] = false := by
    unfold Lib.hasSuffix
    rw [Bool.eq_false_iff]
    intro hc
    rw [List.isSuffixOf_iff_suffix] at hc
    obtain ⟨t, rfl⟩ := hc
    exact h (by simp)
  unfold linesL Lib.trimSuffix
  rw [if_neg h0, h1, if_neg (by simp), split_no h]
theorem linesL_len (s : ByteArray) : (linesL s.data.toList).1.length ≤ s.size + 1 := by
  unfold linesL
  split
  · simp
  · have h := split_count 10 _ (Lib.trimSuffix s.data.toList [10]) (Nat.le_refl _)
    have h2 : (Lib.trimSuffix s.data.toList [10]).length ≤ s.size := by
      rw [← len_data]
      unfold Lib.trimSuffix
      split <;> simp
    simp only
    omega
theorem eta_b (s : ByteArray) : (⟨s.data.toList.toArray⟩ : ByteArray) = s := by cases s; simp
theorem maxI_c {w : World} (h : MaxI w) : ∃ m : Int, w.cell? ⟨Tryz.cutStr_ren.g 1, 0, none⟩ = some (.int .i64 m) := h
theorem w_CutB (s : ByteArray) (hs : s.size ≤ 1000000) (w : World) (hM : MaxI w) :
    Calls Tryz.prog 100 #[.string s, .string ⟨#[10]⟩] w fun e w' => e = .returned (.tuple #[.string ⟨(Lib.cut s.data.toList [10]).1.toArray⟩, .string ⟨(Lib.cut s.data.toList [10]).2.1.toArray⟩, .bool (Lib.cut s.data.toList [10]).2.2]) ∧ ∃ n, w' = w.drewN n := by
  obtain ⟨m, hm⟩ := maxI_c hM
  exact Any.strings_Cut Tryz.cutStr s ⟨#[10]⟩ m w (by omega) hm
theorem w_CutY (s A q : ByteArray) (hs : s.size ≤ 1000000) (h : s.data.toList = A.data.toList ++ 10 :: q.data.toList) (hA : 10 ∉ A.data.toList) (w : World) (hM : MaxI w) :
    Calls Tryz.prog 100 #[.string s, .string ⟨#[10]⟩] w fun e w' => e = .returned (.tuple #[.string A, .string q, .bool true]) ∧ ∃ n, w' = w.drewN n := by
  have hc : Lib.cut s.data.toList [10] = (A.data.toList, q.data.toList, true) := by
    unfold Lib.cut
    rw [h, index_at hA, if_pos (by omega)]
    have e : ((A.data.toList.length : Int)).toNat = A.data.toList.length := by omega
    rw [e, List.take_left, show A.data.toList ++ 10 :: q.data.toList = (A.data.toList ++ [10]) ++ q.data.toList by simp, List.drop_left' (by simp)]
  have h1 := w_CutB s hs w hM
  rw [hc] at h1
  simp only [eta_b] at h1
  exact h1
theorem w_CutN (s : ByteArray) (hs : s.size ≤ 1000000) (h : 10 ∉ s.data.toList) (w : World) (hM : MaxI w) :
    Calls Tryz.prog 100 #[.string s, .string ⟨#[10]⟩] w fun e w' => e = .returned (.tuple #[.string s, .string ⟨#[]⟩, .bool false]) ∧ ∃ n, w' = w.drewN n := by
  have hc : Lib.cut s.data.toList [10] = (s.data.toList, [], false) := by
    unfold Lib.cut
    rw [index_no h]; rfl
  have h1 := w_CutB s hs w hM
  rw [hc] at h1
  simp only [eta_b] at h1
  exact h1
def barr (l : List (List UInt8)) : List ByteArray := l.map (fun s => ⟨s.toArray⟩)
theorem dataL_barr (l : List (List UInt8)) : dataL (barr l) = l := by
  unfold dataL barr
  rw [List.map_map]
  conv => rhs; rw [← List.map_id l]
  exact List.map_congr_left (fun s _ => by simp)
theorem dataL_app2 (l m : List ByteArray) : dataL (l ++ m) = dataL l ++ dataL m := by unfold dataL; rw [List.map_append]
set_option maxRecDepth 100000 in
set_option maxHeartbeats 4000000 in
theorem w_LinesX (text : ByteArray) (hs : text.size ≤ 1000000) (g : Nat) (cap0 : Value) (eg : Enters g) (b : Nat) (ok : ByteArray → Bool) (I : World → List ByteArray → World → Prop) (w : World) (hM : ∀ W, Gr b w W → MaxI W)
    (h0 : I w [] w) (hI : ∀ d W n, I w d W → I w d (W.drewN n))
    (hcl : ∀ d line W, Gr b w W → line.size ≤ text.size → d.length ≤ text.size → I w d W → Calls Tryz.prog g #[.string line, cap0] W fun e w' => e = .returned (.bool (ok line)) ∧ Gr b w w' ∧ (ok line = true → I w (d ++ [line]) w')) :
    Calls Tryz.prog 67 #[.string text, .func (.func g) #[] #[cap0]] w (EachR text b ok I w) := by
  have HCL := hide hcl
  have HI0 := hide h0
  have HDR := hide hI
  have HM := hide hM
  clear hM hcl h0 hI
  unfold Enters at eg
  go_enter Tryz.func67, Tryz.ntmps67
  go_upto_region 2 with fail
  go_loopw [0, 6] (fun v i wr => ∃ (r : ByteArray) (d : List ByteArray), v = .string r ∧ i = .int .i64 (d.length : Int) ∧ linesL text.data.toList = (dataL d ++ (linesL r.data.toList).1, (linesL r.data.toList).2) ∧ d.all ok = true ∧ d.length + r.size ≤ text.size ∧ I w d wr ∧ Gr b w wr) (fun _ i _ => text.size - (intOf i).toNat)
  case atStart => exact ⟨text, [], rfl, rfl, by simp [dataL], rfl, by simp, HI0.out, Gr.refl _ _⟩
  case round =>
    obtain ⟨r, d, rfl, rfl, hll, hok, hsz, hI, hgr⟩ := hrel
    have HLL := hide hll
    have HOK := hide hok
    have HI := hide hI
    have HG := hide hgr
    have HMR := hide (HM.out _ hgr)
    obtain ⟨k, hk⟩ : ∃ k, k = d.length := ⟨_, rfl⟩
    rw [← hk] at hsz ⊢
    have HK := hide hk
    clear hll hok hI hgr hk
    by_cases hr : r.data.toList = []
    · have te : r.toList = [] := by rw [Lib.toList_data]; exact hr
      have teb : r.toList.isEmpty = true := by rw [te]; rfl
      have HF := hide (show linesL text.data.toList = (dataL d, true) by rw [HLL.out, hr]; simp [linesL])
      clear hr te
      go_wp2_with fail
      go_ret2
      exact ⟨d, true, HF.out, by have := HK.out; omega, HG.out, .inl ⟨rfl, HOK.out, rfl, w, Nx.refl _, HG.out, HI.out⟩⟩
    have te : ¬ r.toList = [] := by rw [Lib.toList_data]; exact hr
    have teb : r.toList.isEmpty = false := by
      cases h : r.toList with
      | nil => exact absurd h te
      | cons _ _ => rfl
    by_cases h10 : 10 ∈ r.data.toList
    · obtain ⟨a, q, haq, ha⟩ := List.eq_append_cons_of_mem h10
      obtain ⟨A, hA⟩ : ∃ A : ByteArray, A.data.toList = a := ⟨⟨a.toArray⟩, by simp⟩
      obtain ⟨Q, hQ⟩ : ∃ Q : ByteArray, Q.data.toList = q := ⟨⟨q.toArray⟩, by simp⟩
      subst hA; subst hQ
      have hsa : A.size + 1 + Q.size = r.size := by
        rw [← len_data, ← len_data Q, ← len_data r, haq, List.length_append, List.length_cons]; omega
      have HC := hide (w_CutY r A Q (by omega) haq ha wr HMR.out)
      have HF := hide (show linesL text.data.toList = (dataL (d ++ [A]) ++ (linesL Q.data.toList).1, (linesL Q.data.toList).2) by
        rw [HLL.out, haq, linesL_cons ha, dataL_app2]; simp [dataL])
      have HCC := hide (fun n => HCL.out d A (wr.drewN n) (HG.out.then_nx ((Nx.refl wr).drewN n)) (by omega) (by have := HK.out; omega) (HDR.out d wr n HI.out))
      clear haq ha h10 hr te HLL
      cases hoA : ok A with
      | true =>
        rw [hoA] at HCC
        have HOA := hide hoA
        clear hoA
        have i1 : IntKind.i64.wrap ((k : Int) + 1) = (k : Int) + 1 := IntWalk.i64_in _ (by omega)
        go_wp2_with (first
          | (go_at_call 100; refine HC.out.mono ?_; rintro e w3 ⟨rfl, n3, rfl⟩)
          | (go_at_fn g; refine (HCC.out n3).mono ?_; rintro e w4 ⟨rfl, hg4, hI4⟩))
        go_roundw
        case rel => exact ⟨Q, d ++ [A], rfl, by rw [List.length_append, ← HK.out]; simp, HF.out, by rw [List.all_append, HOK.out]; simp [HOA.out], by rw [List.length_append, ← HK.out]; simp; omega, hI4 (by first | trivial | rfl), hg4⟩
        case measure => simp [intOf]; omega
      | false =>
        rw [hoA] at HCC
        have HOA := hide hoA
        clear hoA
        go_wp2_with (first
          | (go_at_call 100; refine HC.out.mono ?_; rintro e w3 ⟨rfl, n3, rfl⟩)
          | (go_at_fn g; refine (HCC.out n3).mono ?_; rintro e w4 ⟨rfl, hg4, hI4⟩))
        go_ret2
        refine ⟨d ++ [A] ++ barr (linesL Q.data.toList).1, (linesL Q.data.toList).2, by rw [dataL_app2, dataL_barr]; exact HF.out, ?_, hg4, .inr ⟨k, ?_, rfl⟩⟩
        · rw [← dataL_len, dataL_app2, dataL_barr]
          have h1 := congrArg (fun x => x.1.length) HF.out
          simp only at h1
          rw [← h1]
          exact linesL_len text
        · refine ⟨by rw [HK.out]; simp, ?_, .inr ?_⟩
          · rw [List.append_assoc, HK.out, List.take_left]; exact HOK.out
          · have e : (d ++ [A] ++ barr (linesL Q.data.toList).1)[k]'(by rw [HK.out]; simp) = A := by
              simp [HK.out]
            rw [e]; exact HOA.out
    · have HC := hide (w_CutN r (by omega) h10 wr HMR.out)
      have HF := hide (show linesL text.data.toList = (dataL (d ++ [r]), false) by
        rw [HLL.out, linesL_no h10 hr, dataL_app2]; rfl)
      have hrp : 0 < r.size := by
        rcases Nat.eq_zero_or_pos r.size with h | h
        · exact absurd (List.eq_nil_of_length_eq_zero (by rw [len_data]; exact h)) hr
        · exact h
      clear h10 hr te HLL
      go_wp2_with (go_at_call 100; refine HC.out.mono ?_; rintro e w3 ⟨rfl, n3, rfl⟩)
      go_ret2
      refine ⟨d ++ [r], false, HF.out, by rw [List.length_append, ← HK.out]; simp; omega, HG.out.then_nx ((Nx.refl wr).drewN n3), .inr ⟨k, ⟨by rw [HK.out]; simp, ?_, .inl ⟨rfl, by rw [HK.out]; simp⟩⟩, rfl⟩⟩
      rw [HK.out, List.take_left]; exact HOK.out
end Go.Proofs.YthlhomcgjgfdhaaGreatDoor
