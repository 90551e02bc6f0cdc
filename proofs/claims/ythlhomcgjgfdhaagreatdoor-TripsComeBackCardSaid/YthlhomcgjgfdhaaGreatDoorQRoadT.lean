/- How long an arc takes: the program's walk. -/
import Derived.Test.YthlhomcgjgfdhaaGreatDoorQG19
import Derived.Test.YthlhomcgjgfdhaaGreatDoorQRoadG
import Derived.Test.YthlhomcgjgfdhaaGreatDoorQG8
import Derived.Deep.RegionHeld3
import Derived.Deep.RegionWith
import Derived.Deep.DeepCutAuto
namespace Go.Proofs.YthlhomcgjgfdhaaGreatDoor
open Go.RowKit

/-- Both knots lie in variables. -/
def TimeMid (k y : Knot) (w0 : World) (v8 v9 : Value) (wx : World) : Prop :=
  ∃ p q : Nat, v8 = .pointer (some ⟨p, 0, none⟩) ∧ v9 = .pointer (some ⟨q, 0, none⟩) ∧
    wx.cell? ⟨p, 0, none⟩ = some (.int .i64 k.at_) ∧ wx.cell? ⟨p, 1, none⟩ = some (.int .i64 k.time) ∧ wx.cell? ⟨q, 0, none⟩ = some (.int .i64 y.at_) ∧ wx.cell? ⟨q, 1, none⟩ = some (.int .i64 y.time) ∧ Nx w0 wx

theorem seg_ex {l : List Knot} (h : KOk l) {t : Int} (ht : 0 ≤ t) : ∃ i, i < l.length ∧ (l.getD i default).at_ ≤ t ∧ (i + 1 < l.length → t < (l.getD (i + 1) default).at_) := by
  have key : ∀ m, 0 < m → m ≤ l.length → ∃ i, i < m ∧ (l.getD i default).at_ ≤ t ∧ (i + 1 < m → t < (l.getD (i + 1) default).at_) := by
    intro m
    induction m with
    | zero => intro h0; omega
    | succ m ih =>
      intro _ hm
      by_cases h0 : m = 0
      · subst h0
        exact ⟨0, by omega, by rw [h.first]; exact ht, fun hc => by omega⟩
      · by_cases h1 : (l.getD m default).at_ ≤ t
        · exact ⟨m, by omega, h1, fun hc => by omega⟩
        · obtain ⟨i, a, b, c⟩ := ih (by omega) (by omega)
          refine ⟨i, by omega, b, fun hc => ?_⟩
          rcases Nat.lt_or_ge (i + 1) m with h2 | h2
          · exact c h2
          · have : i + 1 = m := by omega
            rw [this]; omega
  exact key l.length h.pos (Nat.le_refl _)
set_option maxRecDepth 100000 in
set_option maxHeartbeats 8000000 in
theorem w_TimeD (g lo : Nat) (A : Option Addr) (c : Nat) (l : List Knot) (at_ : Int) (w : World) (hg : w.cell? ⟨g, 4, none⟩ = some (.slice A l.length c)) (hgl : g < w.heap.size) (hR : Rd w lo A 2 encKnot l) (hk : KOk l) (ha : 0 ≤ at_ ∧ at_ ≤ 345686399999) :
    Calls Tryz.prog 116 #[.pointer (some ⟨g, 0, none⟩), .int .i64 at_] w fun e w' => e = .returned (.int .i64 (timeI l at_)) ∧ Nx w w' := by
  by_cases h1 : l.length = 1
  · have HT := hide (time_one h1 hk at_)
    obtain ⟨b, off, rfl, _, hb, _, hc⟩ := hR.open_ (Nx.refl w) hk.pos
    have c1 : w.cell? ⟨b, off + 1, none⟩ = some (.int .i64 (l.getD 0 default).time) := by
      have := hc 0 hk.pos 1 _ rfl
      rw [knot_at hk.pos]; simpa using this
    rw [h1] at hg
    clear hc hR hk h1
    generalize (l.getD 0 default).time = z at *
    go_enter Tryz.func116, Tryz.ntmps116
    go_wp2
    go_ret
    exact ⟨ret_int HT.out.symm, Nx.refl _⟩
  · have t0 : ((l.length : Int) == 1) = false := by simp; omega
    have hsp := hk.pos
    have hB := fun t => w_BsfKnot 160 (fun n => cmpI n.at_ t) t (enters_of Tryz.func160 (by kernel_rfl) rfl) (fun y W => w_time1 y t W) lo A c l w hR (by have := hk.le; omega) (fun i j hij hj hn => by
      rw [cmpI_neg] at hn ⊢
      rcases Nat.lt_or_ge i j with h3 | h3
      · have := hk.lt i j h3 hj; omega
      · have : i = j := by omega
        subst this; exact hn)
    have htb : 0 ≤ at_ % 86400000 ∧ at_ % 86400000 ≤ 86399999 := by omega
    obtain ⟨t, ht⟩ : ∃ t, t = at_ % 86400000 := ⟨_, rfl⟩
    have HTI := hide (show timeI l at_ = lineI (l.getD (segI l t) default) (afterK l (segI l t)) t by rw [ht]; rfl)
    rw [← ht] at htb
    -- where the search ends
    have hfind : ∃ (i : Nat) (is : Bool), i < l.length ∧ segI l t = i ∧ ((l.getD i default).at_ ≤ t ∧ t < (afterK l i).at_) ∧ Calls Tryz.prog 159 #[.slice A l.length c, .int .i64 t, .func (.func 160) #[] #[]] w fun e w' => e = .returned (.tuple #[.int .i64 (if is then (i : Int) else ((i + 1 : Nat) : Int)), .bool is]) ∧ Nx w w' := by
      obtain ⟨i, hi, hi1, hi2⟩ := seg_ex hk htb.1
      have haf : t < (afterK l i).at_ := by
        unfold afterK
        by_cases h3 : i + 1 < l.length
        · rw [if_pos h3]; exact hi2 h3
        · rw [if_neg h3]; show t < dayMs; unfold dayMs; omega
      by_cases he : (l.getD i default).at_ = t
      · refine ⟨i, true, hi, seg_of hk hi hi1 hi2, ⟨hi1, haf⟩, (hB t).mono ?_⟩
        rintro e w' ⟨r, is, rfl, hF, hn⟩
        obtain ⟨rfl, rfl⟩ := found_at hF i hi (cmpI_zero.2 he) (fun m hm => cmpI_neg.2 (by have := hk.lt m i hm hi; omega))
        exact ⟨rfl, hn⟩
      · refine ⟨i, false, hi, seg_of hk hi hi1 hi2, ⟨hi1, haf⟩, (hB t).mono ?_⟩
        rintro e w' ⟨r, is, rfl, hF, hn⟩
        have hne : ∀ m, m < l.length → (l.getD m default).at_ ≠ t := fun m hm e => by
          rcases Nat.lt_trichotomy m i with h3 | h3 | h3
          · have := hk.lt m i h3 hi; omega
          · subst h3; exact he e
          · have h4 := hi2 (by omega)
            rcases Nat.lt_or_ge (i + 1) m with h5 | h5
            · have := hk.lt (i + 1) m h5 hm; omega
            · have : m = i + 1 := by omega
              subst this; omega
        have hr : r = i + 1 := by
          rcases Nat.lt_trichotomy r (i + 1) with h3 | h3 | h3
          · have h4 : 0 ≤ cmpI (l.getD i default).at_ t := hF.hi i (by omega) hi
            have h5 := @cmpI_neg (l.getD i default).at_ t
            omega
          · exact h3
          · have h4 : cmpI (l.getD (i + 1) default).at_ t < 0 := hF.lo (i + 1) h3
            have h5 := @cmpI_neg (l.getD (i + 1) default).at_ t
            have h6 := hi2 (by have := hF.le; omega)
            omega
        obtain rfl := found_no hF (fun m hm e => hne m hm (cmpI_zero.1 e))
        subst hr
        exact ⟨rfl, hn⟩
    obtain ⟨i, is, hi, hseg, ⟨hkt, hyt⟩, hB2⟩ := hfind
    rw [hseg] at HTI
    have HB := hide hB2
    have hab := after_bd hk hi
    have hkb := (hk.bd i hi)
    have HA := hide (fun W h1 => w_After lo A c l i W h1 (by have := hk.le; omega) hi)
    have hlen := hk.le
    have HS := hide hseg
    have hrem : Int.tmod at_ 86400000 = t := by rw [ht, Int.tmod_eq_emod_of_nonneg ha.1]
    have HRM := hide ht
    obtain ⟨b, off, rfl, _, hb, _, hc⟩ := hR.open_ (Nx.refl w) hsp
    have c0 : w.cell? ⟨b, off + i * 2, none⟩ = some (.int .i64 l[i].at_) := hc i hi 0 _ rfl
    have c1 : w.cell? ⟨b, off + i * 2 + 1, none⟩ = some (.int .i64 l[i].time) := hc i hi 1 _ rfl
    rw [knot_at hi] at hkb hab HTI hkt
    have HR := hide hR
    clear hB hB2 hR hk h1 hseg hc
    generalize afterK l i = y at *
    generalize l[i] = k at *
    generalize hn : l.length = n at *
    have HN := hide hn
    clear hn ht
    generalize timeI l at_ = z at *
    go_enter Tryz.func116, Tryz.ntmps116
    go_upto_if 35 with (go_at_call 159; refine HB.out.mono ?_; rintro e w2 ⟨rfl, hn2⟩)
    go_cut [6] (fun v6 wx => v6 = .int .i64 (i : Int) ∧ w2 = wx)
    case first =>
      have q1 : IntKind.i64.wrap (((i + 1 : Nat) : Int) - 1) = (i : Int) := by rw [IntWalk.i64_in _ (by omega)]; omega
      cases is
      · go_wp2
        go_meet
        exact ⟨by first | rfl | go_num, rfl⟩
      · go_wp2
        go_meet
        exact ⟨rfl, rfl⟩
    case rest =>
      obtain ⟨rfl, rfl⟩ := hcut
      go_upto_region 7 with fail
      have eg := nx_cell hn2 hgl hg
      have e0 := nx_cell hn2 hb c0
      have e1 := nx_cell hn2 hb c1
      have hg2 : g < w2.heap.size := Nat.lt_of_lt_of_le hgl hn2.sz
      have hb2 : b < w2.heap.size := Nat.lt_of_lt_of_le hb hn2.sz
      have hg2a : g < w2.heap.size + 1 := by omega
      have hg2b : g < w2.heap.size + 1 + 1 := by omega
      have hb2a : b < w2.heap.size + 1 := by omega
      have hb2b : b < w2.heap.size + 1 + 1 := by omega
      have q2 : (0 : Int) ≤ (i : Int) := by omega
      have q3 : (i : Int) < (n : Int) := by omega
      go_cut [8, 9] (fun v8 v9 wx => TimeMid k y w2 v8 v9 wx)
      case first =>
        go_region_held3 (fun w' => w'.cell? ⟨g, 4, none⟩ = some (.slice (some ⟨b, off, none⟩) n c) ∧ w'.cell? ⟨b, off + i * 2, none⟩ = some (.int .i64 k.at_) ∧ w'.cell? ⟨b, off + i * 2 + 1, none⟩ = some (.int .i64 k.time))
          (first | exact ⟨nx_cell (w := w2) (by repeat (first | with_reducible exact Nx.refl _ | with_reducible refine Nx.alloc ?_ _ | with_reducible refine Nx.drew ?_ | with_reducible refine Nx.trans ?_ hn3 | with_reducible refine Nx.setCell ?_ (by simp <;> omega) _)) hg2 eg, nx_cell (w := w2) (by repeat (first | with_reducible exact Nx.refl _ | with_reducible refine Nx.alloc ?_ _ | with_reducible refine Nx.drew ?_ | with_reducible refine Nx.trans ?_ hn3 | with_reducible refine Nx.setCell ?_ (by simp <;> omega) _)) hb2 e0, nx_cell (w := w2) (by repeat (first | with_reducible exact Nx.refl _ | with_reducible refine Nx.alloc ?_ _ | with_reducible refine Nx.drew ?_ | with_reducible refine Nx.trans ?_ hn3 | with_reducible refine Nx.setCell ?_ (by simp <;> omega) _)) hb2 e1⟩ | go_keep)
          (first
            | (go_at_call 161; refine (HA.out _ (HR.out.nx (by repeat (first | exact hn2 | refine Nx.drew ?_ | refine Nx.alloc ?_ _ | refine Nx.setCell ?_ (by simp <;> omega) _)))).mono ?_; rintro e w3 ⟨rfl, hn3⟩; (obtain ⟨hc3, hf3⟩ := nx_rules hn3); (have hg3 : g < w3.heap.size := Nat.lt_of_lt_of_le (by simp; omega) hn3.sz); (have hb3 : b < w3.heap.size := Nat.lt_of_lt_of_le (by simp; omega) hn3.sz); (try (have hz3a : w2.heap.size < w3.heap.size := by (have h9 := hn3.sz; simp at h9; omega))); (try (have hz3b : w2.heap.size + 1 < w3.heap.size := by (have h9 := hn3.sz; simp at h9; omega))); (try (have s0 : (w3.cell? ⟨w2.heap.size, 0, none⟩).isSome = true := by (rw [hc3 _ _ (by simp <;> omega)]; go_simp))); (try (have s1 : (w3.cell? ⟨w2.heap.size, 1, none⟩).isSome = true := by (rw [hc3 _ _ (by simp <;> omega)]; go_simp))); (try (have s2 : (w3.cell? ⟨w2.heap.size + 1, 0, none⟩).isSome = true := by (rw [hc3 _ _ (by simp <;> omega)]; go_simp))); (try (have s3 : (w3.cell? ⟨w2.heap.size + 1, 1, none⟩).isSome = true := by (rw [hc3 _ _ (by simp <;> omega)]; go_simp)))))
        all_goals (go_wp2; go_meet)
        all_goals exact ⟨_, _, rfl, rfl, by first | (go_simp; done) | (simp [s0, s1, s2, s3, go_sem]; done) | (simp [s0, s1, go_sem]; done) | (simp [s2, s3, go_sem]; done), by first | (go_simp; done) | (simp [s0, s1, s2, s3, go_sem]; done) | (simp [s0, s1, go_sem]; done) | (simp [s2, s3, go_sem]; done), by first | (go_simp; done) | (simp [s0, s1, s2, s3, go_sem]; done) | (simp [s0, s1, go_sem]; done) | (simp [s2, s3, go_sem]; done), by first | (go_simp; done) | (simp [s0, s1, s2, s3, go_sem]; done) | (simp [s0, s1, go_sem]; done) | (simp [s2, s3, go_sem]; done), (by repeat (first | with_reducible exact Nx.refl _ | with_reducible refine Nx.alloc ?_ _ | with_reducible refine Nx.drew ?_ | with_reducible refine Nx.trans ?_ hn3 | with_reducible refine Nx.setCell ?_ (by simp <;> omega) _))⟩
      case rest =>
        obtain ⟨p, q, rfl, rfl, d0, d1, d2, d3, hn4⟩ := hcut
        obtain ⟨⟨b1, b2⟩, b3, b4⟩ := hkb
        obtain ⟨⟨b5, b6⟩, b7, b8⟩ := hab
        obtain ⟨M1, hM1⟩ : ∃ M1, M1 = k.time * (y.at_ - t) := ⟨_, rfl⟩
        obtain ⟨M2, hM2⟩ : ∃ M2, M2 = y.time * (t - k.at_) := ⟨_, rfl⟩
        have m1 : 0 ≤ M1 ∧ M1 ≤ 3600000 * 86400000 := by
          rw [hM1]
          exact ⟨Int.mul_nonneg (by omega) (by omega), Int.mul_le_mul (by omega) (by omega) (by omega) (by omega)⟩
        have m2 : 0 ≤ M2 ∧ M2 ≤ 3600000 * 86400000 := by
          rw [hM2]
          exact ⟨Int.mul_nonneg (by omega) (by omega), Int.mul_le_mul (by omega) (by omega) (by omega) (by omega)⟩
        have HT2 := hide (show z = (M1 + M2) / (y.at_ - k.at_) by rw [HTI.out, hM1, hM2]; rfl)
        have W1 : IntKind.i64.wrap (k.time * (y.at_ - t)) = M1 := by rw [← hM1]; exact IntWalk.i64_in _ (by omega)
        have W2 : IntKind.i64.wrap (y.time * (t - k.at_)) = M2 := by rw [← hM2]; exact IntWalk.i64_in _ (by omega)
        obtain ⟨m11, m12⟩ := m1
        obtain ⟨m21, m22⟩ := m2
        have H1 := hide hM1
        have H2 := hide hM2
        clear hM1 hM2
        have hne : (y.at_ - k.at_ == 0) = false := by simp; omega
        go_wp2
        go_ret
        exact ⟨ret_int HT2.out.symm, hn2.trans hn4⟩
end Go.Proofs.YthlhomcgjgfdhaaGreatDoor
