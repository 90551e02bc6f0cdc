/- Plain: all that is divided is given out. -/
import Derived.Test.YtfnbmcinbmbehaaGreatDoorQG4
import Derived.Test.YtfnbmcinbmbehaaGreatDoorQG11
import Derived.Test.YtfnbmcinbmbehaaGreatDoorQGain
import Derived.Test.YtfnbmcinbmbehaaGreatDoorQG3
import Derived.Test.YtfnbmcinbmbehaaGreatDoorQG14
namespace Go.Proofs.YtfnbmcinbmbehaaGreatDoor

theorem sumL_set (l : List Int) (i : Nat) (h : i < l.length) (v : Int) : sumL (l.set i v) = sumL l - l[i] + v := by
  induction l generalizing i with
  | nil => simp at h
  | cons x l ih =>
    cases i with
    | zero => simp [sumL]; omega
    | succ i => simp only [List.set_cons_succ, sumL, List.getElem_cons_succ]; rw [ih i (by simpa using h)]; omega
theorem bump_sum (qs : List Int) : ∀ (T : List Nat), T.Nodup → (∀ i ∈ T, i < qs.length) → ∀ k, k ≤ T.length → sumL (bump qs (T.take k)) = sumL qs + k
  | T, hn, hl, 0, _ => by simp [bump_nil]
  | T, hn, hl, k + 1, hk => by
    have hk' : k < T.length := hk
    have ih := bump_sum qs T hn hl k (by omega)
    have hnb : T[k] ∉ T.take k := by
      intro hm
      obtain ⟨j, hj, e⟩ := List.mem_iff_getElem.1 hm
      rw [List.getElem_take] at e
      rw [List.length_take] at hj
      have := (List.nodup_iff_pairwise_ne.1 hn)
      rw [List.pairwise_iff_getElem] at this
      exact this j k (by omega) hk' (by omega) e
    have hb : T[k] < (bump qs (T.take k)).length := by rw [bump_len]; exact hl _ (List.getElem_mem hk')
    rw [List.take_succ_eq_append_getElem hk', ← bump_snoc qs _ _ hnb hb, sumL_set _ _ hb, ih]
    push_cast; omega
theorem dealt_sum {qs rs : List Int} {left : Nat} {zs : List Int} (hl : rs.length = qs.length) (h : Dealt qs rs left zs) : sumL zs = sumL qs + left := by
  obtain ⟨T, hT, rfl, rfl⟩ := h
  have := bump_sum qs T hT.nd (fun i hi => by have := hT.lt i hi; omega) T.length (Nat.le_refl _)
  rwa [List.take_length] at this
theorem handed_sum {all F : Int} {nums zs : List Int} (hF : 0 < F) (hs : sumL nums = F * all) (h : Handed all nums F zs) : sumL zs = all := by
  have h1 := dealt_sum (by rw [rsN_len, qsN_len]) h
  have h2 := (leftN_bd hF hs).1
  rw [h1, Int.toNat_of_nonneg h2]
  unfold leftN; omega
theorem sumL_le : ∀ (a b : List Int), a.length = b.length → (∀ i, i < a.length → a.getD i 0 ≤ b.getD i 0) → sumL a ≤ sumL b
  | [], [], _, _ => Int.le_refl _
  | x :: a, y :: b, hl, h => by
    have h0 := h 0 (by simp)
    have ih := sumL_le a b (by simpa using hl) (fun i hi => by have := h (i + 1) (by simpa using hi); simpa using this)
    simp at h0
    simp only [sumL]; omega
/-- A part of 0 gets nothing; no part gets less than 0. -/
theorem handed_zero {all F : Int} {nums zs : List Int} (hF : 0 < F) (hs : sumL nums = F * all) (hn : ∀ x ∈ nums, 0 ≤ x) (h : Handed all nums F zs) (i : Nat) (hi : i < zs.length) :
    0 ≤ zs.getD i 0 ∧ (nums.getD i 0 = 0 → zs.getD i 0 = 0) := by
  have hlen := h.len
  have hd := (leftN_bd hF hs).1
  obtain ⟨T, hT, hTl, rfl⟩ := h
  have hiq : i < (qsN nums F).length := by rw [bump_len] at hi; exact hi
  have hin : i < nums.length := by rw [qsN_len] at hiq; exact hiq
  have e0 : (bump (qsN nums F) T).getD i 0 = if i ∈ T then nums[i] / F + 1 else nums[i] / F := by
    rw [List.getD_eq_getElem?_getD, List.getElem?_eq_getElem hi, Option.getD_some, bump_get]
    simp only [qsN, List.getElem_map]
  have hq : 0 ≤ nums[i] / F := Int.ediv_nonneg (hn _ (List.getElem_mem hin)) (by omega)
  refine ⟨by rw [e0]; split <;> omega, fun h0 => ?_⟩
  have h0' : nums[i] = 0 := by rw [List.getD_eq_getElem?_getD, List.getElem?_eq_getElem hin] at h0; simpa using h0
  rw [e0, h0']
  by_cases hm : i ∈ T
  · exfalso
    have hri : (rsN nums F).getD i 0 = 0 := by
      unfold rsN
      rw [List.getD_eq_getElem?_getD, List.getElem?_map, List.getElem?_eq_getElem hin, h0']; simp
    have hz := bump_sum (List.replicate nums.length (0 : Int)) T hT.nd (fun j hj => by have := hT.lt j hj; rw [rsN_len] at this; simpa using this) T.length (Nat.le_refl _)
    rw [List.take_length, sumL_rep, Int.mul_zero, Int.zero_add] at hz
    have hle : sumL (rsN nums F) ≤ sumL ((bump (List.replicate nums.length (0 : Int)) T).map (fun x => (F - 1) * x)) := by
      refine sumL_le _ _ (by rw [rsN_len, List.length_map, bump_len, List.length_replicate]) fun j hj => ?_
      have hjn : j < nums.length := by rw [rsN_len] at hj; exact hj
      have e1 : ((bump (List.replicate nums.length (0 : Int)) T).map (fun x => (F - 1) * x)).getD j 0 = if j ∈ T then F - 1 else 0 := by
        rw [List.getD_eq_getElem?_getD, List.getElem?_map, List.getElem?_eq_getElem (by rw [bump_len, List.length_replicate]; exact hjn), Option.map_some, Option.getD_some, bump_get]
        split <;> simp
      have hjr : (rsN nums F).getD j 0 < F := by
        unfold rsN
        rw [List.getD_eq_getElem?_getD, List.getElem?_map, List.getElem?_eq_getElem hjn]
        exact Int.emod_lt_of_pos _ hF
      rw [e1]
      by_cases hjT : j ∈ T
      · rw [if_pos hjT]; omega
      · rw [if_neg hjT]
        have := hT.up i hm j hj hjT
        unfold beats at this
        omega
    rw [sumL_mul, hz] at hle
    have h1 := sumL_split F nums
    have e2 : sumL (rsN nums F) = F * leftN all nums F := by
      unfold rsN leftN qsN
      rw [Int.mul_sub]; omega
    have e3 : (T.length : Int) = leftN all nums F := by rw [hTl, Int.toNat_of_nonneg hd]
    rw [e2, ← e3, Int.sub_mul, Int.one_mul] at hle
    have : 0 < T.length := List.length_pos_of_mem hm
    omega
  · rw [if_neg hm]; simp
theorem numsD_nonneg {cents : Int} {parts : List Int} (hc : 0 ≤ cents) (hp : ∀ p ∈ parts, 0 ≤ p) : ∀ x ∈ numsD cents parts, 0 ≤ x := by
  intro x hx
  unfold numsD at hx
  obtain ⟨p, hpp, rfl⟩ := List.mem_map.1 hx
  exact Int.mul_nonneg hc (hp p hpp)
structure GivenOut (cents : Int) (parts zs : List Int) : Prop where
  len : zs.length = parts.length
  sum : sumL zs = cents
  each : ∀ i, i < zs.length → 0 ≤ zs.getD i 0 ∧ (parts.getD i 0 = 0 → zs.getD i 0 = 0)
theorem divided_out {cents : Int} {parts zs : List Int} (hc : 0 ≤ cents) (hp : ∀ p ∈ parts, 0 ≤ p) (hs : 0 < sumL parts) (h : Divided cents parts zs) : GivenOut cents parts zs := by
  have hl : zs.length = parts.length := by have := h.len; unfold numsD at this; rw [List.length_map] at this; exact this
  refine ⟨hl, handed_sum hs (numsD_sum cents parts) h, fun i hi => ?_⟩
  have h1 := handed_zero hs (numsD_sum cents parts) (numsD_nonneg hc hp) h i hi
  refine ⟨h1.1, fun h0 => h1.2 ?_⟩
  unfold numsD
  rw [List.getD_eq_getElem?_getD, List.getElem?_map]
  rw [List.getD_eq_getElem?_getD] at h0
  rw [List.getElem?_eq_getElem (by omega)] at h0 ⊢
  simp at h0
  simp [h0]
theorem partsF_bds {cents : Int} {parts : List Int} (h : partsF cents parts = 0) : (0 ≤ cents ∧ cents ≤ 1000000000) ∧ (∀ p ∈ parts, 0 ≤ p ∧ p ≤ 1000000000) ∧ 0 < sumL parts := by
  unfold partsF at h
  cases h1 : centB cents
  · rw [h1] at h
    rw [if_neg (by simp)] at h
    by_cases h2 : 1000 < parts.length
    · rw [if_pos h2] at h; exact absurd h (by decide)
    rw [if_neg h2] at h
    cases h3 : parts.any centB
    · rw [h3] at h
      rw [if_neg (by simp)] at h
      by_cases h4 : sumL parts = 0
      · rw [if_pos h4] at h; exact absurd h (by decide)
      have h1' : 0 ≤ cents ∧ cents ≤ maxCt := by unfold centB at h1; exact outB_false.1 h1
      have h2' : ∀ p ∈ parts, 0 ≤ p ∧ p ≤ maxCt := fun p hp => by
        have := (List.any_eq_false.1 h3) p hp
        unfold centB at this; exact outB_false.1 (by simpa using this)
      have h5 := sumL_bd parts 0 maxCt h2'
      unfold maxCt at *
      exact ⟨h1', h2', by omega⟩
    · rw [h3] at h; rw [if_pos rfl] at h; exact absurd h (by decide)
  · rw [h1] at h; rw [if_pos rfl] at h; exact absurd h (by decide)

/-- What those of a list have together. -/
def tot (f : ByteArray → Option Int) (ks : List ByteArray) : Int := sumL (ks.map fun k => (f k).getD 0)
theorem tot_none (f : ByteArray → Option Int) (k : ByteArray) (v : Int) : ∀ ks : List ByteArray, k ∉ ks → tot (addK f k v) ks = tot f ks
  | [], _ => rfl
  | x :: ks, h => by
    simp only [List.mem_cons, not_or] at h
    have ih := tot_none f k v ks h.2
    unfold tot at ih ⊢
    simp only [List.map_cons, sumL]
    rw [ih]
    have e' : ¬ x = k := fun e => h.1 e.symm
    have : addK f k v x = f x := by unfold addK; rw [if_neg e']
    rw [this]
theorem tot_add (f : ByteArray → Option Int) (k : ByteArray) (v : Int) : ∀ ks : List ByteArray, ks.Nodup → k ∈ ks → tot (addK f k v) ks = tot f ks + v
  | [], _, h => by cases h
  | x :: ks, hn, h => by
    rw [List.nodup_cons] at hn
    by_cases e : x = k
    · subst e
      have ih := tot_none f x v ks hn.1
      unfold tot at ih ⊢
      simp only [List.map_cons, sumL]
      rw [ih, addK_at]; simp; omega
    · have hk : k ∈ ks := by
        rcases List.mem_cons.1 h with h | h
        · exact absurd h.symm e
        · exact h
      have ih := tot_add f k v ks hn.2 hk
      unfold tot at ih ⊢
      simp only [List.map_cons, sumL]
      rw [ih]
      have : addK f k v x = f x := by unfold addK; rw [if_neg e]
      rw [this]; omega
theorem rideK_tot {rides : List ByteArray} {cents : Int} {f : ByteArray → Option Int} {ks : List ByteArray} (hn : ks.Nodup) : ∀ m, m ≤ rides.length → (∀ s ∈ rides, s ∈ ks) → tot (rideK rides cents f m) ks = tot f ks + sumTo (fun i => legI cents rides.length i) m
  | 0, _, _ => by simp [rideK, sumTo]
  | m + 1, hm, h => by
    have hm' : m < rides.length := hm
    rw [rideK_succ _ _ _ _ hm', tot_add _ _ _ _ hn (h _ (List.getElem_mem hm')), rideK_tot hn m (by omega) h]
    simp only [sumTo]; omega
theorem leg_all {cents : Int} {n : Nat} (hn : 0 < n) : sumTo (fun i => legI cents n i) n = cents := by
  have h1 := Int.emod_nonneg cents (show (n : Int) ≠ 0 by omega)
  have h2 := Int.emod_lt_of_pos cents (show (0 : Int) < n by omega)
  have h3 := Int.mul_ediv_add_emod cents n
  have key : ∀ m : Nat, sumTo (fun i => legI cents n i) m = m * (cents / n) + if (m : Int) < cents % n then (m : Int) else cents % n := by
    intro m
    induction m with
    | zero => simp [sumTo]; omega
    | succ m ih =>
      simp only [sumTo]
      rw [ih]
      unfold legI
      have e : ((m + 1 : Nat) : Int) * (cents / (n : Int)) = (m : Int) * (cents / n) + cents / n := by push_cast; rw [Int.add_mul]; omega
      rw [e]
      split <;> split <;> (try split) <;> omega
  rw [key n, if_neg (by omega)]
  omega
theorem rideK_some {rides : List ByteArray} {cents : Int} {f : ByteArray → Option Int} (s : ByteArray) : ∀ m, m ≤ rides.length → ((f s).isSome = true ∨ s ∈ rides.take m) → (rideK rides cents f m s).isSome = true
  | 0, _, h => by simpa [rideK] using h
  | m + 1, hm, h => by
    have hm' : m < rides.length := hm
    rw [rideK_succ _ _ _ _ hm']
    unfold addK
    by_cases e : s = rides[m]
    · rw [if_pos e]; rfl
    · rw [if_neg e]
      refine rideK_some s m (by omega) ?_
      rcases h with h | h
      · exact .inl h
      · rw [List.take_succ_eq_append_getElem hm'] at h
        rcases List.mem_append.1 h with h | h
        · exact .inr h
        · simp at h; exact absurd h e
theorem legsK_some {ls : List Leg} (s : ByteArray) : ∀ m, m ≤ ls.length → (∃ x ∈ ls.take m, s ∈ x.rides) → (legsK ls m s).isSome = true
  | 0, _, h => by simp at h
  | m + 1, hm, h => by
    have hm' : m < ls.length := hm
    rw [legsK_succ ls m hm']
    refine rideK_some s _ (Nat.le_refl _) ?_
    obtain ⟨x, hx, hs⟩ := h
    rw [List.take_succ_eq_append_getElem hm'] at hx
    rcases List.mem_append.1 hx with hx | hx
    · exact .inl (legsK_some s m (by omega) ⟨x, hx, hs⟩)
    · simp at hx; subst hx; rw [List.take_length]; exact .inr hs
/-- The cents of legs. -/
def sumLegs (ls : List Leg) : Int := sumL (ls.map (·.cents))
theorem legsK_tot {ls : List Leg} (hok : ∀ x ∈ ls, LegOk x) {ks : List ByteArray} (hn : ks.Nodup) (h : ∀ x ∈ ls, ∀ s ∈ x.rides, s ∈ ks) : ∀ m, m ≤ ls.length → tot (legsK ls m) ks = sumLegs (ls.take m)
  | 0, _ => by
    unfold tot sumLegs
    have : (ks.map fun k => (legsK ls 0 k).getD 0) = ks.map (fun _ => (0 : Int)) := rfl
    rw [this]
    simp only [List.take_zero, List.map_nil, sumL]
    clear this h hn
    induction ks with
    | nil => rfl
    | cons k ks ih => simp only [List.map_cons, sumL, ih]; rfl
  | m + 1, hm => by
    have hm' : m < ls.length := hm
    have hx := List.getElem_mem hm'
    rw [legsK_succ ls m hm', rideK_tot hn _ (Nat.le_refl _) (h _ hx), legsK_tot hok hn h m (by omega), leg_all (hok _ hx).pos]
    unfold sumLegs
    rw [List.take_succ_eq_append_getElem hm', List.map_append, sumL_app]
    simp [sumL]
def sumDues (ds : List Due) : Int := sumL (ds.map (·.cents))
theorem sumDues_take (ds : List Due) (k : Nat) (hk : k < ds.length) : sumDues (ds.take (k + 1)) = sumDues (ds.take k) + ds[k].cents := by
  unfold sumDues; rw [List.take_succ_eq_append_getElem hk, List.map_append, sumL_app]; simp [sumL]
theorem sumLegs_take (ds : List Leg) (k : Nat) (hk : k < ds.length) : sumLegs (ds.take (k + 1)) = sumLegs (ds.take k) + ds[k].cents := by
  unfold sumLegs; rw [List.take_succ_eq_append_getElem hk, List.map_append, sumL_app]; simp [sumL]
theorem legs_out {ls : List Leg} (h0 : legsF ls = 0) {ys : List Due} (h : DuesOf (legsK ls ls.length) true ys) : sumDues ys = sumLegs ls := by
  have hnd : (ys.map Due.key).Nodup := by
    rw [List.nodup_iff_pairwise_ne, List.pairwise_map]
    exact h.1.imp fun {a b} hab e => by unfold ltS at hab; rw [e] at hab; exact List.lt_irrefl _ hab
  have hin : ∀ x ∈ ls, ∀ s ∈ x.rides, s ∈ ys.map Due.key := fun x hx s hs => by
    have h1 := legsK_some s ls.length (Nat.le_refl _) ⟨x, by rw [List.take_length]; exact hx, hs⟩
    obtain ⟨v, hv⟩ := Option.isSome_iff_exists.1 h1
    exact List.mem_map_of_mem (f := Due.key) ((h.2 ⟨s, v⟩).2 ⟨hv, .inr rfl⟩)
  have h2 := legsK_tot (legsF_ok h0) hnd hin ls.length (Nat.le_refl _)
  rw [List.take_length] at h2
  rw [← h2]
  unfold sumDues tot
  rw [List.map_map]
  congr 1
  exact List.map_congr_left fun d hd => by show d.cents = _; simp [((h.2 d).1 hd).1]
theorem legs_bd {ls : List Leg} (h0 : legsF ls = 0) : ∀ x ∈ ls, 0 ≤ x.cents ∧ x.cents ≤ 1000000000 := fun x hx => by
  have := legsF_ok h0 x hx
  exact ⟨this.c0, this.c1⟩
theorem sumLegs_bd {ls : List Leg} (h : ∀ x ∈ ls, 0 ≤ x.cents ∧ x.cents ≤ 1000000000) (k : Nat) : 0 ≤ sumLegs (ls.take k) ∧ sumLegs (ls.take k) ≤ ls.length * 1000000000 := by
  unfold sumLegs
  have h1 := sumL_bd ((ls.take k).map (·.cents)) 0 1000000000 (fun z hz => by
    obtain ⟨x, hx, rfl⟩ := List.mem_map.1 hz
    exact h x (List.mem_of_mem_take hx))
  rw [List.length_map, List.length_take] at h1
  have : ((min k ls.length : Nat) : Int) * 1000000000 ≤ ls.length * 1000000000 := by omega
  omega
/-- Dues of legs: none below 0, none above their sum. -/
theorem dues_bd {ls : List Leg} (h0 : legsF ls = 0) {ys : List Due} (h : DuesOf (legsK ls ls.length) true ys) : ∀ d ∈ ys, 0 ≤ d.cents ∧ d.cents ≤ 10000000000 * ls.length := fun d hd => by
  have h1 := legsK_bd ls (legsF_ok h0) ls.length (Nat.le_refl _) d.key
  rw [((h.2 d).1 hd).1] at h1
  exact h1
theorem sumDues_bd {ds : List Due} {B : Int} (h : ∀ d ∈ ds, 0 ≤ d.cents ∧ d.cents ≤ B) (k : Nat) : 0 ≤ sumDues (ds.take k) ∧ sumDues (ds.take k) ≤ sumDues ds := by
  have e : sumDues ds = sumDues (ds.take k) + sumDues (ds.drop k) := by
    unfold sumDues; rw [← sumL_app, ← List.map_append, List.take_append_drop]
  have h1 := sumL_bd ((ds.take k).map (·.cents)) 0 B (fun z hz => by
    obtain ⟨x, hx, rfl⟩ := List.mem_map.1 hz
    exact h x (List.mem_of_mem_take hx))
  have h2 := sumL_bd ((ds.drop k).map (·.cents)) 0 B (fun z hz => by
    obtain ⟨x, hx, rfl⟩ := List.mem_map.1 hz
    exact h x (List.mem_of_mem_drop hx))
  unfold sumDues at *
  omega
end Go.Proofs.YtfnbmcinbmbehaaGreatDoor
/- What is shared fairly is all given out. -/
namespace Go.Proofs.YtfnbmcinbmbehaaGreatDoor

theorem handed_bd {all F B : Int} {nums zs : List Int} (hF : 0 < F) (hB : 0 ≤ B) (hn : ∀ x ∈ nums, -B ≤ x ∧ x ≤ B) (h : Handed all nums F zs) : ∀ z ∈ zs, -B - 1 ≤ z ∧ z ≤ B + 1 := by
  intro z hz
  obtain ⟨i, hi, rfl⟩ := List.mem_iff_getElem.1 hz
  obtain ⟨T, hT, _, rfl⟩ := h
  have hiq : i < (qsN nums F).length := by rw [bump_len] at hi; exact hi
  have hin : i < nums.length := by rw [qsN_len] at hiq; exact hiq
  rw [bump_get]
  have e : (qsN nums F)[i] = nums[i] / F := by simp [qsN]
  have h1 := hn _ (List.getElem_mem hin)
  have h2 : nums[i] / F ≤ B := by
    rcases Int.lt_or_le nums[i] 0 with h | h
    · have := Int.ediv_neg_of_neg_of_pos h hF; omega
    · have := Int.ediv_le_self F h; omega
  have h3 : -B ≤ nums[i] / F := by
    rw [Int.le_ediv_iff_mul_le hF]
    have : -B * F ≤ -B * 1 := Int.mul_le_mul_of_nonpos_left (by omega) (by omega)
    omega
  rw [e]
  split <;> omega
theorem sumDues_zip : ∀ (rs : List ByteArray) (zs : List Int), rs.length = zs.length → sumDues (List.zipWith Due.mk rs zs) = sumL zs
  | [], [], _ => rfl
  | r :: rs, z :: zs, h => by
    have ih := sumDues_zip rs zs (by simpa using h)
    unfold sumDues at ih ⊢
    simp only [List.zipWith_cons_cons, List.map_cons, sumL, ih]
theorem sumL_takeB {zs : List Int} (h : ∀ i, i < zs.length → 0 ≤ zs.getD i 0) (k : Nat) : 0 ≤ sumL (zs.take k) ∧ sumL (zs.take k) ≤ sumL zs := by
  have hm : ∀ z ∈ zs, 0 ≤ z := fun z hz => by
    obtain ⟨i, hi, rfl⟩ := List.mem_iff_getElem.1 hz
    have := h i hi
    rwa [List.getD_eq_getElem?_getD, List.getElem?_eq_getElem hi, Option.getD_some] at this
  have h0 : ∀ l : List Int, (∀ z ∈ l, 0 ≤ z) → 0 ≤ sumL l := by
    intro l
    induction l with
    | nil => intro _; exact Int.le_refl _
    | cons x l ih => intro hl; simp only [sumL]; have := hl x (by simp); have := ih (fun z hz => hl z (by simp [hz])); omega
  have e : sumL zs = sumL (zs.take k) + sumL (zs.drop k) := by rw [← sumL_app, List.take_append_drop]
  have h3 : 0 ≤ sumL (zs.take k) := h0 _ fun z hz => hm z (List.mem_of_mem_take hz)
  have h4 : 0 ≤ sumL (zs.drop k) := h0 _ fun z hz => hm z (List.mem_of_mem_drop hz)
  omega
structure FairOut (l : List ByteArray) (cs : List Int) (ds : List Due) : Prop where
  len : ds.length = l.length
  cl : cs.length = 2 ^ l.length
  n5 : l.length ≤ 5
  sum : sumDues ds = cs.getD (cs.length - 1) 0
  bd : ∀ d ∈ ds, -7680000000001 ≤ d.cents ∧ d.cents ≤ 7680000000001
  cb : ∀ z ∈ cs, 0 ≤ z ∧ z ≤ 1000000000
theorem fair_out {l : List ByteArray} {cs : List Int} {ds : List Due} (hl : cs.length ≤ 40) (h0 : fairF l cs = 0) (h : FairR l cs ds) : FairOut l cs ds := by
  obtain ⟨_, hcl, hc0, hcb⟩ := fairF_right h0
  have h5 : l.length ≤ 5 := by
    rcases Nat.lt_or_ge 5 l.length with h4 | h4
    · have : 2 ^ 6 ≤ 2 ^ l.length := Nat.pow_le_pow_right (by omega) h4
      omega
    · exact h4
  obtain ⟨zs, hz, rfl⟩ := h
  have hzl : zs.length = l.length := by rw [hz.len]; simp [numsF]
  have hF : (0 : Int) < ((factN l.length : Nat) : Int) := by have := factN_pos l.length; omega
  refine ⟨by simp [hzl], hcl, h5, ?_, ?_, hcb⟩
  · rw [sumDues_zip _ _ hzl.symm, hcl]
    exact handed_sum hF (numsF_sum l.length h5 cs hc0) hz
  · intro d hd
    have hb := handed_bd (B := 7680000000000) hF (by omega) (fun x hx => by
      unfold numsF at hx
      obtain ⟨j, hj, rfl⟩ := List.mem_map.1 hx
      have h6 : 2 ^ l.length ≤ 2 ^ 5 := Nat.pow_le_pow_right (by omega) h5
      have h7 := numTo_bd l.length (by omega) cs hcb (2 ^ l.length) j (by omega) (List.mem_range.1 hj)
      omega) hz
    obtain ⟨i, hi, rfl⟩ := List.mem_iff_getElem.1 hd
    have hi2 : i < zs.length := by simp at hi; omega
    rw [List.getElem_zipWith]
    have h8 := hb _ (List.getElem_mem hi2)
    show -7680000000001 ≤ zs[i] ∧ zs[i] ≤ 7680000000001
    omega
end Go.Proofs.YtfnbmcinbmbehaaGreatDoor
/- Plain functions: nodes and knots checked; how long an arc takes. -/
namespace Go.Proofs.YtfnbmcinbmbehaaGreatDoor

structure Node where
  key : ByteArray
  x : Int
  y : Int
instance : Inhabited Node := ⟨⟨default, 0, 0⟩⟩
def encNode (n : Node) : List Value := [.string n.key, .int .i64 n.x, .int .i64 n.y]
theorem encNode_len (n : Node) : (encNode n).length = 3 := rfl
theorem encNode_one (x : Node) : ∀ v ∈ encNode x, v.oneCell' = true := by
  intro v hv; simp [encNode] at hv; rcases hv with rfl | rfl | rfl <;> rfl
structure Knot where
  at_ : Int
  time : Int
instance : Inhabited Knot := ⟨⟨0, 0⟩⟩
def encKnot (n : Knot) : List Value := [.int .i64 n.at_, .int .i64 n.time]
theorem encKnot_len (n : Knot) : (encKnot n).length = 2 := rfl
/-- A node that stands behind another one. -/
def nodeF (p : Option Node) (n : Node) : Int :=
  if keyB n.key then (match p with | some q => if strLe n.key q.key then 7 else ptF n.x n.y | none => ptF n.x n.y) else 5
def nodesF (l : List Node) : Int := if 500 < l.length then 2 else chk nodeF none l
def dayMs : Int := 86400000
def knotF (p : Option Knot) (k : Knot) : Int :=
  if outB k.at_ 0 (dayMs - 1) || outB k.time 1 3600000 then 1 else (match p with | some q => if k.at_ ≤ q.at_ then 7 else 0 | none => if k.at_ = 0 then 0 else 7)
/-- What comes behind knot i. -/
def afterK (l : List Knot) (i : Nat) : Knot := if i + 1 < l.length then l.getD (i + 1) default else ⟨dayMs, (l.getD 0 default).time⟩
def fallsB (l : List Knot) (i : Nat) : Bool := decide ((afterK l i).at_ - (l.getD i default).at_ < (l.getD i default).time - (afterK l i).time)
def fallF (l : List Knot) : Nat → Int
  | 0 => 0
  | k + 1 => if fallsB l (l.length - (k + 1)) then 16 else fallF l k
def knotsF (l : List Knot) : Int :=
  if l.length = 0 then 8 else if 48 < l.length then 2 else if chk knotF none l = 0 then fallF l l.length else chk knotF none l
theorem fallF_at (l : List Knot) (k : Nat) (hk : k < l.length) : fallF l (l.length - k) = if fallsB l k then 16 else fallF l (l.length - (k + 1)) := by
  have e : l.length - k = (l.length - (k + 1)) + 1 := by omega
  rw [e, fallF, ← e]
  have e2 : l.length - (l.length - k) = k := by omega
  rw [e2]
end Go.Proofs.YtfnbmcinbmbehaaGreatDoor
/- Nodes: the program's check. -/
namespace Go.Proofs.YtfnbmcinbmbehaaGreatDoor
open Go.RowKit

theorem w_isPointR (x y : Int) (w : World) : Calls Tryz.prog 121 #[.int .i64 x, .int .i64 y] w fun e w' => e = .returned (.bool (isPtB x y)) ∧ w = w' := by
  cases h : outB x (-10000) 10000
  · cases h2 : outB y (-10000) 10000
    all_goals
      go_enter Tryz.func121, Tryz.ntmps121
      go_wp2_with (go_at_call 22; refine (w_Out _ _ _ _).mono ?_; rintro e w' ⟨rfl, rfl⟩)
      go_ret
      exact ⟨ret_bool (by unfold isPtB; rw [h, h2]; rfl), rfl⟩
  · go_enter Tryz.func121, Tryz.ntmps121
    go_wp2_with (go_at_call 22; refine (w_Out _ _ _ _).mono ?_; rintro e w' ⟨rfl, rfl⟩)
    go_ret
    exact ⟨ret_bool (by unfold isPtB; rw [h]; rfl), rfl⟩

def SmallN (l : List Node) : Prop := ∀ s ∈ l, s.key.size ≤ 1000000
set_option maxRecDepth 100000 in
set_option maxHeartbeats 2000000 in
theorem w_nodesFaultR (lo : Nat) (A : Option Addr) (c : Nat) (l : List Node) (w : World) (hR : Rd w lo A 3 encNode l) (hS : SmallN l) (hl : l.length ≤ 65536) :
    Calls Tryz.prog 78 #[.slice A l.length c] w fun e w' => e = .returned (.int .i64 (nodesF l)) ∧ Nx w w' := by
  generalize hn : l.length = n at *
  have HR := hide hR
  have HN := hide hn
  have HS := hide hS
  clear hR hn hS
  by_cases hbig : 500 < n
  · go_enter Tryz.func78, Tryz.ntmps78
    go_wp2
    go_ret
    exact ⟨ret_int (by unfold nodesF; rw [if_pos (by rw [HN.out]; exact hbig)]), Nx.refl _⟩
  · have HF := hide (show nodesF l = chk nodeF none l by unfold nodesF; rw [if_neg (by rw [HN.out]; exact hbig)])
    go_enter Tryz.func78, Tryz.ntmps78
    go_wp2
    go_loopw [2, 3, 4, 10] (fun _ _ _ i wr => ∃ k : Nat, k ≤ n ∧ i = .int .i64 k ∧ Nx w wr ∧ chk nodeF none l = chk nodeF (prevOf l k) (l.drop k)) (fun _ _ _ i _ => n - (intOf i).toNat)
    case atStart => exact ⟨0, Nat.zero_le _, rfl, Nx.refl _, rfl⟩
    case round =>
      obtain ⟨k, hk, rfl, hbw, hq⟩ := hrel
      have HQ := hide hq
      clear hq
      by_cases hlt : k < n
      · have hlt' : k < l.length := by have := HN.out; omega
        obtain ⟨b, off, rfl, _, hb, hbr, hc⟩ := HR.out.open_ hbw (by omega)
        have c0 : wr.cell? ⟨b, off + k * 3, none⟩ = some (.string l[k].key) := hc k hlt' 0 _ rfl
        have c1 : wr.cell? ⟨b, off + k * 3 + 1, none⟩ = some (.int .i64 l[k].x) := hc k hlt' 1 _ rfl
        have c2 : wr.cell? ⟨b, off + k * 3 + 2, none⟩ = some (.int .i64 l[k].y) := hc k hlt' 2 _ rfl
        have hsz := HS.out _ (List.getElem_mem hlt')
        have HC := hide hc
        clear hc
        have HD := hide (chk_drop nodeF l k hlt')
        cases hkb : keyB l[k].key
        · have HV := hide (show nodeF (prevOf l k) l[k] = 5 by unfold nodeF; rw [hkb]; rfl)
          go_wp2_with (go_at_call 70; refine (w_Key _ _ hsz).mono ?_; rintro e w' ⟨rfl, rfl⟩)
          go_ret
          exact ⟨ret_int (by rw [HF.out, HQ.out, HD.out, HV.out]; rfl), hbw.alloc _⟩
        · by_cases hk0 : 0 < k
          · have c4 : wr.cell? ⟨b, off + (k - 1) * 3, none⟩ = some (.string (l[k - 1]'(by omega)).key) := HC.out (k - 1) (by omega) 0 _ rfl
            have HV := hide (show nodeF (prevOf l k) l[k] = if strLe l[k].key (l[k - 1]'(by omega)).key then 7 else ptF l[k].x l[k].y by rw [prevOf_pos l k hk0 (by omega)]; unfold nodeF; rw [hkb]; rfl)
            generalize (l[k - 1]'(by omega)).key = p0 at *
            have q0 : decide ((0 : Int) < (k : Int)) = true := by simpa using hk0
            have q1 : IntKind.i64.wrap ((k : Int) - 1) = (k : Int) - 1 := IntWalk.i64_in _ (by omega)
            have q2 : (1 : Int) ≤ (k : Int) := by omega
            have q3 : ((k : Int) - 1).toNat = k - 1 := by omega
            have q4 : (k : Int) - 1 < (n : Int) := by omega
            cases ho : strLe l[k].key p0
            · have t1 : (Op.bytesLess l[k].key.toList p0.toList || l[k].key.toList == p0.toList) = false := ho
              have HO := hide ho
              cases hp : isPtB l[k].x l[k].y
              all_goals
                have HP := hide hp
                clear ho
                go_wp2_with (first
                  | (go_at_call 70; refine (w_Key _ _ hsz).mono ?_; rintro e w' ⟨rfl, rfl⟩))
                go_quiet (fail)
                go_wp2_with (first
                  | (go_at_call 121; refine (w_isPointR _ _ _).mono ?_; rintro e w' ⟨rfl, rfl⟩))
              · go_ret
                exact ⟨ret_int (by rw [HF.out, HQ.out, HD.out, HV.out, HO.out]; unfold ptF argF; rw [HP.out]; rfl), (hbw.alloc _).drewN _⟩
              · go_roundw
                case rel => exact ⟨k + 1, by omega, by go_num, (hbw.alloc _).drewN _, by rw [HQ.out, HD.out, HV.out, HO.out]; unfold ptF argF; rw [HP.out]; rfl⟩
                case measure => simp [intOf]; omega
            · have t1 : (Op.bytesLess l[k].key.toList p0.toList || l[k].key.toList == p0.toList) = true := ho
              have HO := hide ho
              clear ho
              go_wp2_with (first
                | (go_at_call 70; refine (w_Key _ _ hsz).mono ?_; rintro e w' ⟨rfl, rfl⟩))
              go_quiet (fail)
              go_wp2
              go_ret
              exact ⟨ret_int (by rw [HF.out, HQ.out, HD.out, HV.out, HO.out]; rfl), (hbw.alloc _).drewN _⟩
          · have HV := hide (show nodeF (prevOf l k) l[k] = ptF l[k].x l[k].y by have e : k = 0 := (by omega); subst e; rw [prevOf_zero]; unfold nodeF; rw [hkb]; rfl)
            have q0 : decide ((0 : Int) < (k : Int)) = false := by simpa using hk0
            cases hp : isPtB l[k].x l[k].y
            all_goals
              have HP := hide hp
              go_wp2_with (first
                | (go_at_call 70; refine (w_Key _ _ hsz).mono ?_; rintro e w' ⟨rfl, rfl⟩))
              go_quiet (fail)
              go_wp2_with (first
                | (go_at_call 121; refine (w_isPointR _ _ _).mono ?_; rintro e w' ⟨rfl, rfl⟩))
            · go_ret
              exact ⟨ret_int (by rw [HF.out, HQ.out, HD.out, HV.out]; unfold ptF argF; rw [HP.out]; rfl), (hbw.alloc _).drewN _⟩
            · go_roundw
              case rel => exact ⟨k + 1, by omega, by go_num, (hbw.alloc _).drewN _, by rw [HQ.out, HD.out, HV.out]; unfold ptF argF; rw [HP.out]; rfl⟩
              case measure => simp [intOf]; omega
      · go_wp2
        go_ret
        exact ⟨ret_int (by rw [HF.out, HQ.out, List.drop_of_length_le (by have := HN.out; omega)]; rfl), hbw⟩
end Go.Proofs.YtfnbmcinbmbehaaGreatDoor
/- A node's number: the program's search. -/
namespace Go.Proofs.YtfnbmcinbmbehaaGreatDoor
open Go.RowKit

theorem w_node1 (x : Node) (s : ByteArray) (w : World) : Calls Tryz.prog 123 #[.agg #[.string x.key, .int .i64 x.x, .int .i64 x.y], .string s] w fun e w' => e = .returned (.int .i64 (cmpS x.key s)) ∧ Nx w w' := by
  go_enter Tryz.func123, Tryz.ntmps123
  go_wp2_with (go_at_call 50; refine (w_CompareS _ _ _).mono ?_; rintro e w' ⟨rfl, rfl⟩)
  go_ret
  exact ⟨rfl, (Nx.refl _).alloc _⟩

/-- Where a search ends. -/
structure Found (f : Nat → Int) (n r : Nat) (is : Bool) : Prop where
  le : r ≤ n
  lo : ∀ i, i < r → f i < 0
  hi : ∀ i, r ≤ i → i < n → 0 ≤ f i
  is_ : is = (decide (r < n) && decide (f r = 0))
set_option maxRecDepth 100000 in
set_option maxHeartbeats 2000000 in
theorem w_BsfNode (g : Nat) (f : Node → Int) (x : ByteArray) (eg : Enters g) (hcl : ∀ (y : Node) W, Calls Tryz.prog g #[.agg #[.string y.key, .int .i64 y.x, .int .i64 y.y], .string x] W fun e w' => e = .returned (.int .i64 (f y)) ∧ Nx W w')
    (lo : Nat) (A : Option Addr) (c : Nat) (l : List Node) (w : World) (hR : Rd w lo A 3 encNode l) (hl : l.length ≤ 65536)
    (hm : ∀ i j, i ≤ j → j < l.length → f (l.getD j default) < 0 → f (l.getD i default) < 0) :
    Calls Tryz.prog 122 #[.slice A l.length c, .string x, .func (.func g) #[] #[]] w fun e w' => ∃ (r : Nat) (is : Bool), e = .returned (.tuple #[.int .i64 (r : Int), .bool is]) ∧ Found (fun i => f (l.getD i default)) l.length r is ∧ Nx w w' := by
  generalize hn : l.length = n at *
  have HR := hide hR
  have HN := hide hn
  have HC0 := hide hcl
  have HM := hide hm
  clear hR hn hcl hm
  unfold Enters at eg
  have HG := hide (fun i (hi : i < l.length) => (show l.getD i default = l[i] by rw [List.getD_eq_getElem?_getD, List.getElem?_eq_getElem hi]; rfl))
  go_enter Tryz.func122, Tryz.ntmps122
  go_wp2
  go_loopw [9, 10, 11] (fun vi vj _ wr => ∃ i j : Nat, i ≤ j ∧ j ≤ n ∧ vi = .int .i64 i ∧ vj = .int .i64 j ∧ Nx w wr ∧ (∀ m, m < i → f (l.getD m default) < 0) ∧ (∀ m, j ≤ m → m < n → 0 ≤ f (l.getD m default))) (fun vi vj _ _ => (intOf vj).toNat - (intOf vi).toNat)
  case atStart => exact ⟨0, n, Nat.zero_le _, Nat.le_refl _, rfl, rfl, Nx.refl _, fun m hm => by omega, fun m h1 h2 => by omega⟩
  case round =>
    obtain ⟨i, j, hij, hj, rfl, rfl, hbw, hlo, hhi⟩ := hrel
    have HLO := hide hlo
    have HHI := hide hhi
    clear hlo hhi
    by_cases hlt : i < j
    · obtain ⟨h, hh⟩ : ∃ h, h = (i + j) / 2 := ⟨_, rfl⟩
      have qh : ((i : Int) + (j : Int)) / 2 = (h : Int) := by omega
      have hih : i ≤ h := by omega
      have hhj : h < j := by omega
      have hh' : h < l.length := by have := HN.out; omega
      clear hh
      obtain ⟨b, off, rfl, _, hb, hbr, hc⟩ := HR.out.open_ hbw (by omega)
      have c0 : wr.cell? ⟨b, off + h * 3, none⟩ = some (.string l[h].key) := hc h hh' 0 _ rfl
      have c1 : wr.cell? ⟨b, off + h * 3 + 1, none⟩ = some (.int .i64 l[h].x) := hc h hh' 1 _ rfl
      have c2 : wr.cell? ⟨b, off + h * 3 + 2, none⟩ = some (.int .i64 l[h].y) := hc h hh' 2 _ rfl
      clear hc
      have HE := hide (HG.out h hh')
      have HCY := hide (HC0.out l[h])
      by_cases hneg : f l[h] < 0
      · have t1 : decide (f l[h] < 0) = true := by simpa using hneg
        have HNG := hide hneg
        clear hneg
        generalize l[h] = y at *
        go_wp2_with (go_at_fn g; refine (HCY.out _).mono ?_; rintro e w2 ⟨rfl, hn2⟩)
        go_roundw
        case rel => exact ⟨h + 1, j, by omega, by omega, by go_num, rfl, hbw.trans hn2, fun m hm => HM.out m h (by omega) (by omega) (by rw [HE.out]; exact HNG.out), HHI.out⟩
        case measure => simp [intOf]; omega
      · have t1 : decide (f l[h] < 0) = false := by simpa using hneg
        have HNG := hide hneg
        clear hneg
        generalize l[h] = y at *
        go_wp2_with (go_at_fn g; refine (HCY.out _).mono ?_; rintro e w2 ⟨rfl, hn2⟩)
        go_roundw
        case rel => exact ⟨i, h, by omega, by omega, rfl, rfl, hbw.trans hn2, HLO.out, fun m h1 h2 => by
          refine Int.not_lt.1 fun hc => ?_
          have h3 := HM.out h m h1 h2 hc
          rw [HE.out] at h3
          have := HNG.out
          omega⟩
        case measure => simp [intOf]; omega
    · have hij' : i = j := by omega
      subst hij'
      clear hlt hij
      by_cases hin : i < n
      · have hi' : i < l.length := by have := HN.out; omega
        obtain ⟨b, off, rfl, _, hb, hbr, hc⟩ := HR.out.open_ hbw (by omega)
        have c0 : wr.cell? ⟨b, off + i * 3, none⟩ = some (.string l[i].key) := hc i hi' 0 _ rfl
        have c1 : wr.cell? ⟨b, off + i * 3 + 1, none⟩ = some (.int .i64 l[i].x) := hc i hi' 1 _ rfl
        have c2 : wr.cell? ⟨b, off + i * 3 + 2, none⟩ = some (.int .i64 l[i].y) := hc i hi' 2 _ rfl
        clear hc
        have HE := hide (HG.out i hi')
        have HCY := hide (HC0.out l[i])
        generalize l[i] = y at *
        go_wp2_with (go_at_fn g; refine (HCY.out _).mono ?_; rintro e w2 ⟨rfl, hn2⟩)
        go_ret2
        exact ⟨i, _, rfl, ⟨hj, HLO.out, HHI.out, by show _ = (decide (i < n) && decide (f (l.getD i default) = 0)); rw [HE.out, decide_eq_true hin]; rfl⟩, hbw.trans hn2⟩
      · go_wp2
        go_ret2
        exact ⟨i, _, rfl, ⟨hj, HLO.out, HHI.out, by rw [decide_eq_false hin]; rfl⟩, hbw⟩

theorem found_at {f : Nat → Int} {n r : Nat} {is : Bool} (h : Found f n r is) (k : Nat) (hk : k < n) (h0 : f k = 0) (hlo : ∀ i, i < k → f i < 0) : r = k ∧ is = true := by
  have e : r = k := by
    rcases Nat.lt_trichotomy r k with h1 | h1 | h1
    · have := h.hi r (Nat.le_refl _) (by omega); have := hlo r h1; omega
    · exact h1
    · have := h.lo k h1; omega
  subst e
  exact ⟨rfl, by rw [h.is_, decide_eq_true hk, h0]; rfl⟩
theorem found_no {f : Nat → Int} {n r : Nat} {is : Bool} (h : Found f n r is) (hno : ∀ k, k < n → f k ≠ 0) : is = false := by
  rw [h.is_]
  by_cases hr : r < n
  · rw [decide_eq_false (hno r hr)]; simp
  · rw [decide_eq_false hr]; rfl
end Go.Proofs.YtfnbmcinbmbehaaGreatDoor
/- The number of a node. -/
namespace Go.Proofs.YtfnbmcinbmbehaaGreatDoor
open Go.RowKit

def idxN : List Node → ByteArray → Nat → Int
  | [], _, _ => -1
  | n :: l, s, i => if n.key = s then (i : Int) else idxN l s (i + 1)
/-- The number of a node, or -1. -/
def nodeI (l : List Node) (s : ByteArray) : Int := idxN l s 0
theorem idxN_at : ∀ (l : List Node) (s : ByteArray) (j k : Nat), k < l.length → (l.getD k default).key = s → (∀ i, i < k → (l.getD i default).key ≠ s) → idxN l s j = ((j + k : Nat) : Int)
  | [], _, _, k, hk, _, _ => absurd hk (by simp)
  | n :: l, s, j, 0, _, h, _ => by
    have h' : n.key = s := h
    simp [idxN, h']
  | n :: l, s, j, k + 1, hk, h, hlo => by
    have h0 : ¬ n.key = s := hlo 0 (by omega)
    rw [idxN, if_neg h0, idxN_at l s (j + 1) k (by simpa using hk) h (fun i hi => hlo (i + 1) (by omega))]
    omega
theorem idxN_no : ∀ (l : List Node) (s : ByteArray) (j : Nat), (∀ k, k < l.length → (l.getD k default).key ≠ s) → idxN l s j = -1
  | [], _, _, _ => rfl
  | n :: l, s, j, h => by
    have h0 : ¬ n.key = s := h 0 (by simp)
    rw [idxN, if_neg h0]
    exact idxN_no l s (j + 1) (fun k hk => h (k + 1) (by simpa using hk))
/-- Nodes sorted by key. -/
def SortN (l : List Node) : Prop := l.Pairwise fun a b => ltS a.key b.key
theorem SortN.at {l : List Node} (h : SortN l) {i j : Nat} (hij : i < j) (hj : j < l.length) : ltS (l.getD i default).key (l.getD j default).key := by
  unfold SortN at h
  rw [List.pairwise_iff_getElem] at h
  have := h i j (by omega) hj hij
  rw [List.getD_eq_getElem?_getD, List.getD_eq_getElem?_getD, List.getElem?_eq_getElem (by omega), List.getElem?_eq_getElem hj]
  exact this
theorem SortN.mono {l : List Node} (h : SortN l) (s : ByteArray) (i j : Nat) (hij : i ≤ j) (hj : j < l.length) (hn : cmpS (l.getD j default).key s < 0) : cmpS (l.getD i default).key s < 0 := by
  rcases Nat.lt_or_ge i j with h1 | h1
  · exact cmpS_neg.2 (ltS_trans (h.at h1 hj) (cmpS_neg.1 hn))
  · have : i = j := by omega
    subst this; exact hn
set_option maxRecDepth 100000 in
set_option maxHeartbeats 1000000 in
theorem w_nodeR (g lo : Nat) (A : Option Addr) (c : Nat) (l : List Node) (s : ByteArray) (w : World) (hg : w.cell? ⟨g, 0, none⟩ = some (.slice A l.length c)) (hR : Rd w lo A 3 encNode l) (hl : l.length ≤ 65536) (hs : SortN l) :
    Calls Tryz.prog 79 #[.pointer (some ⟨g, 0, none⟩), .string s] w fun e w' => e = .returned (.int .i64 (nodeI l s)) ∧ Nx w w' := by
  have hB := w_BsfNode 123 (fun n => cmpS n.key s) s (enters_of Tryz.func123 (by kernel_rfl) rfl) (fun y W => w_node1 y s W) lo A c l w hR hl (fun i j => hs.mono s i j)
  by_cases hex : ∃ k, k < l.length ∧ (l.getD k default).key = s
  · obtain ⟨k, hk, hks⟩ := hex
    have hlo : ∀ i, i < k → cmpS (l.getD i default).key s < 0 := fun i hi => cmpS_neg.2 (by rw [← hks]; exact hs.at hi hk)
    have HI := hide (show nodeI l s = (k : Int) by
      have := idxN_at l s 0 k hk hks (fun i hi e => by have := hlo i hi; rw [cmpS_zero.2 e] at this; omega)
      rw [Nat.zero_add] at this; exact this)
    have hB2 : Calls Tryz.prog 122 #[.slice A l.length c, .string s, .func (.func 123) #[] #[]] w fun e w' => e = .returned (.tuple #[.int .i64 (k : Int), .bool true]) ∧ Nx w w' := by
      refine hB.mono ?_
      rintro e w' ⟨r, is, rfl, hF, hn⟩
      obtain ⟨rfl, rfl⟩ := found_at hF k hk (cmpS_zero.2 hks) hlo
      exact ⟨rfl, hn⟩
    have HB := hide hB2
    clear hB hB2 hR hs hlo hks hk
    generalize l.length = n at *
    generalize nodeI l s = z at *
    go_enter Tryz.func79, Tryz.ntmps79
    go_wp2_with (go_at_call 122; refine HB.out.mono ?_; rintro e w2 ⟨rfl, hn2⟩)
    go_ret
    exact ⟨ret_int HI.out.symm, hn2⟩
  · have hno : ∀ k, k < l.length → (l.getD k default).key ≠ s := fun k hk e => hex ⟨k, hk, e⟩
    have HI := hide (show nodeI l s = -1 from idxN_no l s 0 hno)
    have hB2 : Calls Tryz.prog 122 #[.slice A l.length c, .string s, .func (.func 123) #[] #[]] w fun e w' => ∃ r : Nat, e = .returned (.tuple #[.int .i64 (r : Int), .bool false]) ∧ Nx w w' := by
      refine hB.mono ?_
      rintro e w' ⟨r, is, rfl, hF, hn⟩
      obtain rfl := found_no hF (fun k hk e => hno k hk (cmpS_zero.1 e))
      exact ⟨r, rfl, hn⟩
    have HB := hide hB2
    clear hB hB2 hR hs hno hex
    generalize l.length = n at *
    generalize nodeI l s = z at *
    go_enter Tryz.func79, Tryz.ntmps79
    go_wp2_with (go_at_call 122; refine HB.out.mono ?_; rintro e w2 ⟨r, rfl, hn2⟩)
    go_ret
    exact ⟨ret_int HI.out.symm, hn2⟩
end Go.Proofs.YtfnbmcinbmbehaaGreatDoor
/- Knots: what comes behind one; the program's check. -/
namespace Go.Proofs.YtfnbmcinbmbehaaGreatDoor
open Go.RowKit

theorem knot_at {l : List Knot} {k : Nat} (hk : k < l.length) : l.getD k default = l[k] := by rw [List.getD_eq_getElem?_getD, List.getElem?_eq_getElem hk]; rfl
set_option maxRecDepth 100000 in
set_option maxHeartbeats 1000000 in
theorem w_After (lo : Nat) (A : Option Addr) (c : Nat) (l : List Knot) (i : Nat) (w : World) (hR : Rd w lo A 2 encKnot l) (hl : l.length ≤ 65536) (hi : i < l.length) :
    Calls Tryz.prog 85 #[.slice A l.length c, .int .i64 (i : Int)] w fun e w' => e = .returned (.agg #[.int .i64 (afterK l i).at_, .int .i64 (afterK l i).time]) ∧ Nx w w' := by
  obtain ⟨b, off, rfl, _, hb, _, hc⟩ := hR.open_ (Nx.refl w) (by omega)
  by_cases hlt : i + 1 < l.length
  · have c0 : w.cell? ⟨b, off + (i + 1) * 2, none⟩ = some (.int .i64 l[i + 1].at_) := hc (i + 1) hlt 0 _ rfl
    have c1 : w.cell? ⟨b, off + (i + 1) * 2 + 1, none⟩ = some (.int .i64 l[i + 1].time) := hc (i + 1) hlt 1 _ rfl
    have HA := hide (show afterK l i = l[i + 1] by unfold afterK; rw [if_pos hlt, knot_at hlt])
    rw [HA.out]
    clear hc hR
    generalize l[i + 1] = y at *
    generalize l.length = n at *
    clear HA
    have q1 : IntKind.i64.wrap ((i : Int) + 1) = ((i + 1 : Nat) : Int) := by rw [IntWalk.i64_in _ (by omega)]; rfl
    have q2 : decide (((i + 1 : Nat) : Int) < (n : Int)) = true := by simp; omega
    have q3 : ((i + 1 : Nat) : Int).toNat = i + 1 := by omega
    go_enter Tryz.func85, Tryz.ntmps85
    go_wp2
    exact bodyPost_ret (v := .agg #[.int .i64 y.at_, .int .i64 y.time]) (by simp [results, Tryz.results85, go_sem]) rfl ⟨rfl, ((Nx.refl _).alloc _)⟩
  · have c1 : w.cell? ⟨b, off + 1, none⟩ = some (.int .i64 (l[0]'(by omega)).time) := by have := hc 0 (by omega) 1 _ rfl; simpa using this
    have HA := hide (show afterK l i = ⟨dayMs, (l[0]'(by omega)).time⟩ by unfold afterK; rw [if_neg hlt, knot_at (by omega)])
    rw [HA.out]
    clear hc hR
    generalize (l[0]'(by omega)).time = y at *
    generalize l.length = n at *
    clear HA
    go_enter Tryz.func85, Tryz.ntmps85
    go_wp2
    exact bodyPost_ret (v := .agg #[.int .i64 dayMs, .int .i64 y]) (by simp [results, Tryz.results85, go_sem, dayMs]) rfl ⟨rfl, ((Nx.refl _).alloc _)⟩
end Go.Proofs.YtfnbmcinbmbehaaGreatDoor
