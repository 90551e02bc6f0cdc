/- A whole given out by parts: the program's. -/
import Derived.Test.YtmpnilliichpfaaGreatDoorQG8
import Derived.Test.YtmpnilliichpfaaGreatDoorQG6
import Derived.Test.YtmpnilliichpfaaGreatDoorQG1
import Derived.Test.YtmpnilliichpfaaGreatDoorQG3
import Derived.Laws.OwnMore
import Derived.Laws.Bits64
import Derived.WalkKit
import Derived.IntWalk
import Derived.StillTailTactics
import Derived.Lib.SliceRun
import Derived.Maps.Own
import Derived.Maps.OwnOps
import Derived.Maps.OwnSet
import Derived.Maps.Views
import Derived.Maps.RangeWalk
namespace Go.Proofs.YtmpnilliichpfaaGreatDoor
open Go.RowKit Go.Sort Go.Proofs Go.Shelf

theorem el_Int : ElemOf Tryz.prog 22 3 1 8 := ElemOf.mk' (z := .int .i64 0) Tryz.underlying22 (by kernel_rfl) rfl
theorem el_Rest : ElemOf Tryz.prog 296 299 2 16 := ElemOf.mk' (z := .agg #[.int .i64 0, .int .u64 0]) Tryz.underlying296 (by kernel_rfl) rfl
theorem encI_len (x : Int) : (encI x).length = 1 := rfl
theorem encI_one (x : Int) : ∀ v ∈ encI x, v.oneCell' = true := by
  intro v hv; simp [encI] at hv; subst hv; rfl
/-- Rows of two types lie in blocks of their own. -/
theorem own_apart {w : World} {b1 b2 : Nat} {e1 e2 : TypeId} {K1 K2 n1 n2 : Nat} {v1 v2 : Value} {xs1 xs2 : List Value} (h1 : w.ownsRow b1 e1 K1 v1 n1 xs1) (h2 : w.ownsRow b2 e2 K2 v2 n2 xs2) (hne : e1 ≠ e2) : v1.ownBlock = none ∨ v1.ownBlock ≠ v2.ownBlock := by
  rcases h1.2 with ⟨rfl, _⟩ | ⟨g, cap, cur, rfl, _, hg, _⟩
  · exact .inl rfl
  · right
    intro e
    rcases h2.2 with ⟨rfl, _⟩ | ⟨g2, cap2, cur2, rfl, _, hg2, _⟩
    · cases e
    · have e3 : g = g2 := by injection e
      subst e3
      rw [hg] at hg2
      injection hg2 with hg2
      injection hg2 with _ h2 _
      exact hne h2
theorem sumL_mem : ∀ {l : List Int} {p : Int}, (∀ x ∈ l, 0 ≤ x) → p ∈ l → p ≤ sumL l
  | x :: l, p, h, hp => by
    have h0 := (sumL_bd l 0 0 |> fun f => f) 
    have h1 : 0 ≤ sumL l := by
      clear h0 hp
      induction l with
      | nil => simp [sumL]
      | cons y l ih =>
        have h2 := h y (by simp)
        have h3 := ih (fun z hz => h z (by simp at hz ⊢; rcases hz with rfl | hz <;> simp_all))
        simp only [sumL]; omega
    have hx := h x (by simp)
    simp only [sumL]
    rcases List.mem_cons.1 hp with rfl | hp
    · omega
    · have := sumL_mem (fun z hz => h z (List.mem_cons_of_mem _ hz)) hp
      omega
theorem q_bd {cents S : Int} {parts : List Int} (hc : 0 ≤ cents) (hp : ∀ p ∈ parts, 0 ≤ p) (hS : sumL parts = S) (h0 : 0 < S) : ∀ q ∈ qsN (numsD cents parts) S, 0 ≤ q ∧ q ≤ cents := by
  intro q hq
  unfold qsN numsD at hq
  rw [List.map_map] at hq
  obtain ⟨p, hpm, rfl⟩ := List.mem_map.1 hq
  have h1 := hp p hpm
  have h2 := sumL_mem hp hpm
  rw [hS] at h2
  refine ⟨Int.ediv_nonneg (Int.mul_nonneg hc h1) (by omega), ?_⟩
  refine Int.ediv_le_of_le_mul h0 ?_
  exact Int.mul_le_mul_of_nonneg_left h2 hc
/-- The remainders with their places. -/
def restsN (rs : List Int) (k : Nat) : List (Nat × Int) := (List.range k).map (fun i => (i, rs.getD i 0))
theorem restsN_snoc (rs : List Int) (k : Nat) : restsN rs (k + 1) = restsN rs k ++ [(k, rs.getD k 0)] := by unfold restsN; rw [List.range_succ, List.map_append]; rfl
theorem restsN_len (rs : List Int) (k : Nat) : (restsN rs k).length = k := by simp [restsN]
theorem restsN_pw (rs : List Int) (k : Nat) : (restsN rs k).Pairwise (fun a b => a.1 < b.1) := by
  unfold restsN
  rw [List.pairwise_map]
  exact List.pairwise_lt_range
theorem qs_take (cents S : Int) (parts : List Int) (k : Nat) (hk : k < parts.length) : (qsN (numsD cents parts) S).take (k + 1) = (qsN (numsD cents parts) S).take k ++ [cents * parts[k] / S] := by
  rw [List.take_succ_eq_append_getElem (by unfold qsN numsD; simpa using hk)]
  simp [qsN, numsD]
theorem rs_at (cents S : Int) (parts : List Int) (k : Nat) (hk : k < parts.length) : (rsN (numsD cents parts) S).getD k 0 = cents * parts[k] % S := by
  unfold rsN numsD
  rw [List.getD_eq_getElem?_getD, List.getElem?_eq_getElem (by simpa using hk)]
  simp
def encQ : Nat × Int → List Value := encRest

set_option maxRecDepth 100000 in
set_option maxHeartbeats 4000000 in
theorem w_DivideB (lo : Nat) (A : Option Addr) (c : Nat) (cents : Int) (parts : List Int) (w : World) (hR : Rd w lo A 1 encI parts) (hl : parts.length < 20) (hc0 : 0 ≤ cents ∧ cents ≤ 1000000000) (hp0 : ∀ p ∈ parts, 0 ≤ p ∧ p ≤ 1000000000) (hs0 : 0 < sumL parts) :
    Calls Tryz.prog 173 #[.int .i64 cents, .slice A parts.length c] w fun e w' => ∃ (A' : Option Addr) (c' : Nat) (zs : List Int), e = .returned (.slice A' zs.length c') ∧ Divided cents parts zs ∧ Rd w' w.heap.size A' 1 encI zs ∧ Nx w w' := by
  obtain ⟨cn, rfl⟩ := Int.eq_ofNat_of_zero_le hc0.1
  generalize hn : parts.length = n at *
  have HR := hide hR
  have HN := hide hn
  have HP := hide hp0
  have HS0 := hide hs0
  clear hR hn hp0 hs0
  have hsb := hide (fun k => sumL_bd (parts.take k) 0 1000000000 (fun x hx => HP.out x (List.mem_of_mem_take hx)))
  go_enter Tryz.func173, Tryz.ntmps173
  go_wp2
  go_loop [5, 7, 21] (fun s _ i => ∃ k : Nat, k ≤ n ∧ i = .int .i64 k ∧ s = .int .i64 (sumL (parts.take k))) (fun _ _ i => n - (intOf i).toNat)
  case atStart => exact ⟨0, Nat.zero_le _, rfl, rfl⟩
  case round =>
    obtain ⟨k, hk, rfl, rfl⟩ := hrel
    have hb := hsb.out k
    have hkl : (parts.take k).length ≤ k := List.length_take_le _ _
    by_cases hlt : k < n
    · have hlt' : k < parts.length := by have := HN.out; omega
      have HT := hide (sumL_take parts k hlt')
      generalize sumL (parts.take k) = s at *
      have hpk := HP.out parts[k] (List.getElem_mem hlt')
      obtain ⟨b, off, rfl, _, hb, _, hc⟩ := HR.out.open_ (Nx.refl w) (by omega)
      have c0 : w.cell? ⟨b, off + k, none⟩ = some (.int .i64 parts[k]) := by have := hc k hlt' 0 _ rfl; simpa using this
      clear hc
      go_wp2
      go_round
      case rel => exact ⟨k + 1, by omega, by go_num, by rw [HT.out]⟩
      case measure => simp [intOf]; omega
    · have HK := hide (show parts.take k = parts from List.take_of_length_le (by have := HN.out; omega))
      have hS1 := HS0.out
      rw [← HK.out] at hS1
      generalize hSd : sumL (parts.take k) = S at *
      have HSD := hide (show sumL parts = S by rw [← HK.out, hSd])
      clear hSd
      have ek : k = n := by omega
      subst ek
      clear hlt hk
      obtain ⟨sn, rfl⟩ := Int.eq_ofNat_of_zero_le (show 0 ≤ S by omega)
      have hsn : 0 < sn := by omega
      have hsn2 : sn ≤ 20000000000 := by omega
      go_wp2_with fail
      obtain ⟨nums, hnums⟩ : ∃ x, x = numsD (cn : Int) parts := ⟨_, rfl⟩
      have HNU := hide hnums
      have hnl : nums.length = k := by rw [hnums]; unfold numsD; rw [List.length_map]; exact HN.out
      have HNL := hide hnl
      clear hnums hnl
      have HQ1 := hide (fun (pn : Nat) (hm : (pn : Int) ∈ parts) => (show 0 ≤ (cn : Int) * (pn : Int) / (sn : Int) ∧ (cn : Int) * (pn : Int) / (sn : Int) ≤ 1000000000 from by
        have := q_bd (cents := (cn : Int)) (by omega) (fun p hp => (HP.out p hp).1) HSD.out (by omega) ((cn : Int) * (pn : Int) / (sn : Int)) (by unfold qsN numsD; rw [List.map_map]; exact List.mem_map.2 ⟨_, hm, rfl⟩)
        omega))
      have HQB := hide (fun j => (show 0 ≤ sumL ((qsN nums sn).take j) ∧ sumL ((qsN nums sn).take j) ≤ 20000000000 from by
        have h1 := sumL_bd ((qsN nums sn).take j) 0 1000000000 (fun x hx => by
          have h2 := List.mem_of_mem_take hx
          rw [HNU.out] at h2
          have := q_bd (cents := (cn : Int)) (by omega) (fun p hp => (HP.out p hp).1) HSD.out (by omega) x h2
          omega)
        have h2 : ((qsN nums sn).take j).length ≤ (qsN nums sn).length := by rw [List.length_take]; omega
        rw [qsN_len, HNL.out] at h2
        omega))
      go_loopw [8, 9, 10, 32] (fun v8 v9 l i wr => ∃ j : Nat, j ≤ k ∧ i = .int .i64 j ∧ wr.ownsRow w.heap.size 3 1 v8 ((qsN nums sn).take j).length (((qsN nums sn).take j).flatMap encI) ∧ wr.ownsRow w.heap.size 299 2 v9 (restsN (rsN nums sn) j).length ((restsN (rsN nums sn) j).flatMap encRest) ∧ l = .int .i64 ((cn : Int) - sumL ((qsN nums sn).take j)) ∧ Nx w wr) (fun _ _ _ i _ => k - (intOf i).toNat)
      case atStart => exact ⟨0, Nat.zero_le _, rfl, World.ownsRow_nil _ _ _ _, World.ownsRow_nil _ _ _ _, by simp [sumL], Nx.refl _⟩
      case round =>
        obtain ⟨j, hj, rfl, h8, h9, rfl, hbw⟩ := hrel
        by_cases hlt : j < k
        · have hlt' : j < parts.length := by have := HN.out; omega
          have hpk := HP.out parts[j] (List.getElem_mem hlt')
          obtain ⟨b, off, rfl, _, hb, hbr, hc⟩ := HR.out.open_ hbw (by omega)
          have c0 : wr.cell? ⟨b, off + j, none⟩ = some (.int .i64 parts[j]) := by have := hc j hlt' 0 _ rfl; simpa using this
          clear hc
          have HT := hide (show (qsN nums sn).take (j + 1) = (qsN nums sn).take j ++ [(cn : Int) * parts[j] / sn] by rw [HNU.out]; exact qs_take _ _ _ _ hlt')
          have HX := hide (show restsN (rsN nums sn) (j + 1) = restsN (rsN nums sn) j ++ [(j, (cn : Int) * parts[j] % sn)] by rw [restsN_snoc, HNU.out, rs_at _ _ _ _ hlt'])
          have hsb8 := HQB.out j
          have hln : ((qsN nums sn).take j).length ≤ j := List.length_take_le _ _
          have hln9 : (restsN (rsN nums sn) j).length = j := restsN_len _ _
          have HLN9 := hide hln9
          clear hln9
          generalize (qsN nums sn).take j = L8 at *
          generalize restsN (rsN nums sn) j = L9 at *
          obtain ⟨pn, hpn⟩ := Int.eq_ofNat_of_zero_le hpk.1
          rw [hpn] at c0 hpk HT HX
          have hmb : cn * pn ≤ 1000000000 * 1000000000 := Nat.mul_le_mul (by omega) (by omega)
          have hqb := HQ1.out pn (by rw [← hpn]; exact List.getElem_mem hlt')
          have eq1 : (cn : Int) * (pn : Int) / (sn : Int) = ((cn * pn / sn : Nat) : Int) := by rw [Int.natCast_ediv, Int.natCast_mul]
          have eq2 : (cn : Int) * (pn : Int) % (sn : Int) = ((cn * pn % sn : Nat) : Int) := by rw [Int.natCast_emod, Int.natCast_mul]
          rw [eq1] at HT hqb
          rw [eq2] at HX
          clear hpn eq1 eq2
          generalize hz : cn * pn = z at *
          have hrb : z % sn < sn := Nat.mod_lt _ hsn
          generalize hqd : z / sn = q at *
          generalize hrd : z % sn = r at *
          have HM := hide (fun w => w_Mul64 cn pn z w (by omega) (by omega) hz)
          have HDv := hide (fun w => w_Div64 z sn q r w (by omega) hsn (by omega) hqd hrd)
          have HAP := hide (own_apart h8 h9 (by decide))
          have HAP2 := hide (own_apart h9 h8 (by decide))
          clear hz hqd hrd
          have u1 : IntKind.u64.wrap (cn : Int) = (cn : Int) := by rw [IntKind.wrap_u64]; omega
          have u2 : IntKind.u64.wrap (pn : Int) = (pn : Int) := by rw [IntKind.wrap_u64]; omega
          have u3 : IntKind.u64.wrap (sn : Int) = (sn : Int) := by rw [IntKind.wrap_u64]; omega
          have hsz := hbw.sz
          go_wp2_with (first
            | (go_at_call 159; refine (HM.out _).mono ?_; rintro e w1 ⟨rfl, rfl⟩)
            | (go_at_call 220; refine (HDv.out _).mono ?_; rintro e w1 ⟨rfl, m1, rfl⟩)
            | (at_builtin; refine wpApp rfl _ _ _ rfl el_Int encI encI_len encI_one (by omega) (by omega) w.heap.size _ L8 rfl ((own_nx h8 ((Nx.refl _).drewN m1)).alloc _) _ (q : Int) _ rfl (hnew rfl) rfl (by omega) (by simp; omega) ?_; intro v2 w2 hown2 hg2; (have h9' := ((own_nx h9 ((Nx.refl _).drewN m1)).alloc (.cells #[.int .i64 (q : Int)] 3)).kept hg2 HAP2.out); (have hbw2 := ((hbw.drewN m1).alloc (.cells #[.int .i64 (q : Int)] 3)).grown hg2 (own_blk_lt h8)))
            | (at_builtin; refine wpApp rfl _ _ _ rfl el_Rest encRest encRest_len encRest_one (by omega) (by omega) w.heap.size _ L9 rfl (h9'.alloc _) _ (j, (r : Int)) _ rfl (hnew rfl) rfl (by have := HLN9.out; omega) (by have := hbw2.sz; simp; omega) ?_; intro v3 w3 hown3 hg3))
          have h8' := (hown2.alloc (.cells #[.int .i64 (j : Int), .int .u64 (r : Int)] 299)).kept hg3 (own_apart hown2 h9' (by decide))
          have hbw3 := (hbw2.alloc (.cells #[.int .i64 (j : Int), .int .u64 (r : Int)] 299)).grown hg3 (own_blk_lt h9')
          go_roundw
          case rel => exact ⟨j + 1, by omega, by go_num, by rw [HT.out]; exact h8', by rw [HX.out]; exact hown3, by rw [HT.out, sumL_snoc]; go_num, hbw3⟩
          case measure => simp [intOf]; omega
        · have ej : j = k := by omega
          subst ej
          clear hlt hj
          have hql : (qsN nums sn).length = j := by rw [qsN_len, HNL.out]
          have hrl : (rsN nums sn).length = j := by rw [rsN_len, HNL.out]
          have hj1 : 0 < j := by
            rcases Nat.eq_zero_or_pos j with h0 | h0
            · have e1 : parts = [] := List.eq_nil_of_length_eq_zero (by rw [HN.out, h0])
              have e2 := HSD.out
              rw [e1] at e2
              simp only [sumL] at e2
              omega
            · exact h0
          rw [restsN_len] at h9
          have e8 : (qsN nums sn).take j = qsN nums sn := List.take_of_length_le (by omega)
          rw [e8] at h8 ⊢
          rw [hql] at h8
          have hLb := leftN_bd (nums := nums) (F := (sn : Int)) (c := (cn : Int)) (by omega) (by rw [HNU.out, numsD_sum, HSD.out])
          have HLd := hide (show leftN (cn : Int) nums sn = (cn : Int) - sumL (qsN nums sn) from rfl)
          rw [← HLd.out]
          rw [HNL.out] at hLb
          generalize hLe : leftN (cn : Int) nums sn = L at *
          obtain ⟨ln, rfl⟩ := Int.eq_ofNat_of_zero_le hLb.1
          have HLE := hide hLe
          have hR9 := hide hrl
          have hQ8 := hide hql
          clear hLe e8 hql
          have HAP := own_apart h8 h9 (by decide)
          have HAP2 := own_apart h9 h8 (by decide)
          rcases h9.2 with ⟨rfl, h0⟩ | ⟨g9, cap9, cur9, rfl, hg9, hh9, hjc9, hcm9, _⟩
          · omega
          rcases h8.2 with ⟨rfl, h0⟩ | ⟨g8, cap8, cur8, rfl, hg8, hh8, _, _⟩
          · omega
          clear hh9 hh8
          have HSo := hide (fun W (h : W.ownsRow w.heap.size 299 2 (.slice (some ⟨g9, 0, none⟩) j cap9) j ((restsN (rsN nums sn) j).flatMap encRest)) => w_SortRests (w := W) (restsN (rsN nums sn) j) (restsN_len _ _) hl (restsN_pw _ _) h)
          have hne : g8 ≠ g9 := by
            rcases HAP with h | h
            · cases h
            · intro e; exact h (by rw [e]; rfl)
          unfold maxLen at hcm9
          go_wp2_with (go_at_call 221; refine (HSo.out _ h9).mono ?_; rintro e w3 ⟨rfl, ys, hperm, hpw, h9', hgr9⟩)
          have h8' := h8.kept hgr9 HAP
          have hbw3 := hbw.grown hgr9 (fun k hk => by injection hk with hk; omega)
          have HUP := hide (fun m => sorted_up (rs := rsN nums sn) (ys := ys) (by rw [hR9.out]; exact hperm) hpw m)
          have hyl : ys.length = j := by rw [hperm.length_eq, restsN_len]
          have HYL := hide hyl
          have HYM := hide (fun a (ha : a ∈ ys) => (show a.1 < j from by
            have := hperm.mem_iff.1 ha
            unfold restsN at this
            obtain ⟨i, hi, rfl⟩ := List.mem_map.1 this
            exact List.mem_range.1 hi))
          have HQE := hide (fun q (hq : q ∈ qsN nums sn) => (show 0 ≤ q ∧ q ≤ 1000000000 from by
            rw [HNU.out] at hq
            have := q_bd (cents := (cn : Int)) (by omega) (fun p hp => (HP.out p hp).1) HSD.out (by omega) q hq
            omega))
          clear hyl hperm hpw HAP HAP2 h8 h9 hbw
          go_loopw [18, 75] (fun _ i wr => ∃ m : Nat, m ≤ ln ∧ i = .int .i64 m ∧ wr.ownsRow w.heap.size 3 1 (.slice (some ⟨g8, 0, none⟩) j cap8) j ((bump (qsN nums sn) ((ys.map (·.1)).take m)).flatMap encI) ∧ wr.ownsRow w.heap.size 299 2 (.slice (some ⟨g9, 0, none⟩) j cap9) j (ys.flatMap encRest) ∧ Nx w wr) (fun _ i _ => ln - (intOf i).toNat)
          case atStart => exact ⟨0, Nat.zero_le _, rfl, by rw [List.take_zero, bump_nil]; exact h8', h9', hbw3⟩
          case round =>
            clear h8' h9' hbw3
            obtain ⟨m, hm, rfl, h8, h9, hbw⟩ := hrel
            by_cases hlt : m < ln
            · have hmy : m < ys.length := by have := HYL.out; omega
              have hcx : ((ys.map (·.1)).take (m + 1)) = (ys.map (·.1)).take m ++ [ys[m].1] := by rw [List.take_succ_eq_append_getElem (by simpa using hmy)]; simp
              have hnd := (HUP.out (m + 1)).nd
              rw [hcx] at hnd
              have hnot : ys[m].1 ∉ (ys.map (·.1)).take m := fun h => (List.nodup_append.1 hnd).2.2 _ h _ (by simp) rfl
              have haj := HYM.out ys[m] (List.getElem_mem hmy)
              have c0 : wr.cell? ⟨g9, m * 2, none⟩ = some (.int .i64 (ys[m].1 : Int)) := own_cell encRest_len HYL.out h9 m hmy 0 _ rfl
              have c1 : wr.cell? ⟨g9, m * 2 + 1, none⟩ = some (.int .u64 ys[m].2) := own_cell encRest_len HYL.out h9 m hmy 1 _ rfl
              have hbl : (bump (qsN nums sn) ((ys.map (·.1)).take m)).length = j := by rw [bump_len, hQ8.out]
              have hin : ys[m].1 < (bump (qsN nums sn) ((ys.map (·.1)).take m)).length := by omega
              have hbs := bump_snoc (qsN nums sn) _ _ hnot hin
              have hbg := bump_get (qsN nums sn) ((ys.map (·.1)).take m) ys[m].1 hin
              rw [if_neg hnot] at hbg
              have hqb := HQE.out _ (List.getElem_mem (l := qsN nums sn) (n := ys[m].1) (by rw [hQ8.out]; exact haj))
              rw [← hbg] at hqb
              have d0 : wr.cell? ⟨g8, ys[m].1, none⟩ = some (.int .i64 ((bump (qsN nums sn) ((ys.map (·.1)).take m))[ys[m].1]'hin)) := by have := own_cell encI_len hbl h8 ys[m].1 hin 0 _ rfl; simpa using this
              have f0 : wr.frozen? ⟨g8, ys[m].1, none⟩ = false := h8.frozenAt _
              rw [← hcx] at hbs
              clear hbg hnd hnot hcx
              generalize (bump (qsN nums sn) ((ys.map (·.1)).take m)) = B at *
              have HBS := hide hbs
              clear hbs
              have hlt8 := h8.lt g8 rfl
              have hlt9 := h9.lt g9 rfl
              have h8s := (own_set encI_len hbl h8 ys[m].1 hin 0 (by omega) (.int .i64 (B[ys[m].1]'hin + 1)) (B[ys[m].1]'hin + 1) rfl ys[m].1 (by omega)).alloc (.cells #[.int .i64 (ys[m].1 : Int), .int .u64 ys[m].2] 299)
              have h9s := (h9.kept ((Gr.refl g8 _).setS (p := ⟨g8, ys[m].1, none⟩) (.inl rfl) (.int .i64 (B[ys[m].1]'hin + 1))) (.inr (by intro e; injection e with e; exact hne e.symm))).alloc (.cells #[.int .i64 (ys[m].1 : Int), .int .u64 ys[m].2] 299)
              have hbws := (hbw.setCell (p := ⟨g8, ys[m].1, none⟩) hg8 (.int .i64 (B[ys[m].1]'hin + 1))).alloc (.cells #[.int .i64 (ys[m].1 : Int), .int .u64 ys[m].2] 299)
              generalize (B[ys[m].1]'hin) = z at *
              generalize hyd : ys[m].1 = a at *
              generalize ys[m].2 = r2 at *
              go_wp2
              go_roundw
              case rel => exact ⟨m + 1, by omega, by go_num, by rw [← HBS.out]; exact h8s, h9s, hbws⟩
              case measure => simp [intOf]; omega
            · have em : m = ln := by omega
              go_wp2
              go_ret
              have hz : (bump (qsN nums sn) ((ys.map (·.1)).take m)).length = j := by rw [bump_len, hQ8.out]
              obtain ⟨A', c', ev, hR', _⟩ := Rd.of_own encI_len hz.symm h8
              refine ⟨A', c', _, congrArg Ending.returned ev, ?_, hR', hbw⟩
              unfold Divided Handed
              rw [HSD.out, ← HNU.out, HLE.out]
              refine ⟨_, HUP.out m, ?_, rfl⟩
              rw [List.length_take, List.length_map, HYL.out, em]
              show min ln j = ((ln : Nat) : Int).toNat
              rw [Int.toNat_natCast]
              omega
end Go.Proofs.YtmpnilliichpfaaGreatDoor
/- What is wrong with costs and dues: the program's and the reference's words. -/
namespace Go.Proofs.YtmpnilliichpfaaGreatDoor
open Go.RowKit

theorem centB_bd {n : Int} (h : centB n = false) : 0 ≤ n ∧ n ≤ 1000000000 := by have := outB_false.1 h; unfold maxCt at this; exact this
theorem pow_bd {n : Nat} (h : n ≤ 10) : 1 ≤ 2 ^ n ∧ 2 ^ n ≤ 1024 := by
  have h1 : 2 ^ n ≤ 2 ^ 10 := Nat.pow_le_pow_right (by omega) h
  have h2 : 0 < 2 ^ n := Nat.pow_pos (by omega)
  omega
theorem shl_pow {n : Nat} (h : n ≤ 10) : wrap64 ((2 : Int) ^ n) = ((2 ^ n : Nat) : Int) := by
  have h1 := pow_bd h
  have e : ((2 : Int) ^ n) = ((2 ^ n : Nat) : Int) := by rw [Int.natCast_pow]; rfl
  rw [e]
  generalize 2 ^ n = P at *
  unfold wrap64
  omega
theorem keysF_len {l : List ByteArray} (h : keysF l = 0) : l.length ≤ 10 := by
  rcases Nat.lt_or_ge 10 l.length with h1 | h1
  · unfold keysF at h; rw [if_pos h1] at h; omega
  · exact h1
theorem fairF_key {l : List ByteArray} {cs : List Int} (h : ¬ keysF l = 0) : fairF l cs = keysF l := by unfold fairF; rw [if_neg h]
theorem fairF_form {l : List ByteArray} {cs : List Int} (h : keysF l = 0) (h2 : ¬ cs.length = 2 ^ l.length) : fairF l cs = 3 := by unfold fairF; rw [if_pos h, if_neg h2]
theorem fairF_arg0 {l : List ByteArray} {cs : List Int} (h : keysF l = 0) (h2 : cs.length = 2 ^ l.length) (h3 : cs.getD 0 0 ≠ 0) : fairF l cs = 1 := by unfold fairF; rw [if_pos h, if_pos h2, if_pos (.inl h3)]
theorem fairF_arg1 {l : List ByteArray} {cs : List Int} (h : keysF l = 0) (h2 : cs.length = 2 ^ l.length) (h3 : cs.any centB = true) : fairF l cs = 1 := by unfold fairF; rw [if_pos h, if_pos h2, if_pos (.inr h3)]
theorem fairF_ok {l : List ByteArray} {cs : List Int} (h : keysF l = 0) (h2 : cs.length = 2 ^ l.length) (h3 : cs.getD 0 0 = 0) (h4 : cs.any centB = false) : fairF l cs = 0 := by
  unfold fairF; rw [if_pos h, if_pos h2, if_neg]; rintro (h5 | h5)
  · exact h5 h3
  · rw [h4] at h5; cases h5

theorem duesF_form {l : List ByteArray} {ds : List Due} (h : ¬ l = ds.map (·.key)) : duesF l ds = 3 := by unfold duesF; rw [if_neg h]
theorem duesF_arg {l : List ByteArray} {ds : List Due} (h : l = ds.map (·.key)) (h2 : ds.any badD = true) : duesF l ds = 1 := by unfold duesF; rw [if_pos h, show (ds.any fun d => outB d.cents (-maxCt) maxCt) = true from h2]; rfl
theorem duesF_ok {l : List ByteArray} {ds : List Due} (h : l = ds.map (·.key)) (h2 : ds.any badD = false) : duesF l ds = 0 := by unfold duesF; rw [if_pos h, show (ds.any fun d => outB d.cents (-maxCt) maxCt) = false from h2]; rfl
end Go.Proofs.YtmpnilliichpfaaGreatDoor
/- fare.Divide, whatever it is handed; what is wrong with parts; 'priced' answers true. -/
namespace Go.Proofs.YtmpnilliichpfaaGreatDoor
open Go.RowKit Go.Sort Go.Proofs Go.Shelf

theorem partsF_cents {cents : Int} {parts : List Int} (h : centB cents = true) : partsF cents parts = 1 := by unfold partsF; rw [h]; rfl
theorem partsF_any {cents : Int} {parts : List Int} (h : centB cents = false) (h2 : parts.length < 20) (h3 : parts.any centB = true) : partsF cents parts = 1 := by
  unfold partsF; rw [h, h3]; simp; omega
theorem partsF_sum {cents : Int} {parts : List Int} (h : centB cents = false) (h2 : parts.length < 20) (h3 : parts.any centB = false) : partsF cents parts = if sumL parts = 0 then 8 else 0 := by
  unfold partsF; rw [h, h3]; simp; omega
theorem any_at {l : List Int} {p : Int → Bool} {k : Nat} (hk : k < l.length) (h : p l[k] = true) : l.any p = true := List.any_eq_true.2 ⟨_, List.getElem_mem hk, h⟩
theorem any_step {l : List Int} {p : Int → Bool} {k : Nat} (hk : k < l.length) (h : (l.take k).any p = false) (h2 : p l[k] = false) : (l.take (k + 1)).any p = false := by
  rw [List.take_succ_eq_append_getElem hk, List.any_append, h]; simp [h2]
theorem sum_right {l : List Int} (h : l.any centB = false) : 0 ≤ sumL l ∧ sumL l ≤ l.length * 1000000000 := by
  have := sumL_bd l 0 1000000000 (fun x hx => centB_bd (by
    cases h1 : centB x
    · rfl
    · exact absurd (List.any_eq_true.2 ⟨x, hx, h1⟩) (by rw [h]; simp)))
  omega
/-- Cents given out, or a fault. -/
def DivU (F cents : Int) (parts : List Int) (w : World) (e : Ending) (w' : World) : Prop :=
  ∃ (A : Option Addr) (c : Nat) (zs : List Int), e = .returned (.tuple #[.slice A zs.length c, .int .i64 F]) ∧ (F = 0 → Divided cents parts zs) ∧ (F ≠ 0 → zs = []) ∧ Rd w' w.heap.size A 1 encI zs ∧ Nx w w'
theorem DivU.no {F cents : Int} {parts : List Int} {w w' : World} (h : F ≠ 0) (hn : Nx w w') : DivU F cents parts w (.returned (.tuple #[.slice none 0 0, .int .i64 F])) w' := ⟨none, 0, [], rfl, fun h0 => absurd h0 h, fun _ => rfl, Rd.nil, hn⟩

set_option maxRecDepth 100000 in
set_option maxHeartbeats 1000000 in
theorem w_Divide (lo : Nat) (A : Option Addr) (c : Nat) (cents : Int) (parts : List Int) (w : World) (hR : Rd w lo A 1 encI parts) (hl : parts.length < 20) :
    Calls Tryz.prog 119 #[.int .i64 cents, .slice A parts.length c] w (DivU (partsF cents parts) cents parts w) := by
  cases hd : centB cents
  · have HD := hide hd
    have hcb := centB_bd hd
    have HPO := hide (fun h3 => partsF_sum (parts := parts) hd hl h3)
    have HPA := hide (fun h3 => partsF_any (parts := parts) hd hl h3)
    have HDB := hide (fun h3 h4 => w_DivideB lo A c cents parts w hR hl hcb h3 h4)
    generalize hn : parts.length = n at *
    have HR := hide hR
    have HN := hide hn
    unfold centB at hd
    clear hR hn
    go_enter Tryz.func119, Tryz.ntmps119
    go_wp2_with (go_at_call 76; first | (rw [show (1000000000 : Int) = maxCt from rfl]; refine (w_Out _ _ _ _).mono ?_; rintro e w' ⟨rfl, rfl⟩))
    go_loop [4, 5, 6, 8, 16] (fun _ _ s _ i => ∃ k : Nat, k ≤ n ∧ i = .int .i64 k ∧ s = .int .i64 (sumL (parts.take k)) ∧ (parts.take k).any centB = false) (fun _ _ _ _ i => n - (intOf i).toNat)
    case atStart => exact ⟨0, Nat.zero_le _, rfl, rfl, rfl⟩
    case round =>
      obtain ⟨k, hk, rfl, rfl, hq⟩ := hrel
      have hsb := sum_right hq
      have hkl : (parts.take k).length ≤ k := List.length_take_le _ _
      have HQ := hide hq
      clear hq
      by_cases hlt : k < n
      · have hlt' : k < parts.length := by have := HN.out; omega
        have HT := hide (sumL_take parts k hlt')
        obtain ⟨b, off, rfl, _, hb, _, hc⟩ := HR.out.open_ (Nx.refl w) (by omega)
        have c0 : w.cell? ⟨b, off + k, none⟩ = some (.int .i64 parts[k]) := by have := hc k hlt' 0 _ rfl; simpa using this
        clear hc
        cases hx : centB parts[k]
        · have HX := hide (any_step hlt' HQ.out hx)
          have hxb := centB_bd hx
          unfold centB at hx
          generalize sumL (parts.take k) = s at *
          go_wp2_with (go_at_call 76; first | (rw [show (1000000000 : Int) = maxCt from rfl]; refine (w_Out _ _ _ _).mono ?_; rintro e w' ⟨rfl, rfl⟩))
          go_round
          case rel => exact ⟨k + 1, by omega, by go_num, by rw [HT.out], HX.out⟩
          case measure => simp [intOf]; omega
        · have HF := hide (HPA.out (any_at hlt' hx))
          unfold centB at hx
          go_wp2_with (go_at_call 76; first | (rw [show (1000000000 : Int) = maxCt from rfl]; refine (w_Out _ _ _ _).mono ?_; rintro e w' ⟨rfl, rfl⟩))
          go_ret2
          rw [HF.out]
          exact DivU.no (by omega) (Nx.refl _)
      · have HK := hide (show parts.take k = parts from List.take_of_length_le (by have := HN.out; omega))
        rw [HK.out] at hsb HQ ⊢
        have HF := hide (HPO.out HQ.out)
        by_cases hz : sumL parts = 0
        · have t1 : (sumL parts == 0) = true := by simpa using hz
          have HZ := hide hz
          clear hz
          go_wp2_with fail
          go_ret2
          rw [HF.out, if_pos HZ.out]
          exact DivU.no (by omega) (Nx.refl _)
        · have t1 : (sumL parts == 0) = false := by simpa using hz
          have HZ := hide hz
          clear hz
          go_wp2_with (go_at_call 173; refine (HDB.out (fun p hp => centB_bd (by cases h1 : centB p; rfl; exact absurd (List.any_eq_true.2 ⟨p, hp, h1⟩) (by rw [HQ.out]; simp))) (by have := HZ.out; omega)).mono ?_; rintro e w2 ⟨A', c', zs, rfl, hdv, hR2, hn2⟩)
          go_ret2
          rw [HF.out, if_neg HZ.out]
          exact ⟨A', c', zs, rfl, fun _ => hdv, fun h => absurd rfl h, hR2, hn2⟩
  · have HF := hide (partsF_cents (parts := parts) hd)
    clear hR
    generalize parts.length = n at *
    unfold centB at hd
    go_enter Tryz.func119, Tryz.ntmps119
    go_wp2_with (go_at_call 76; first | (rw [show (1000000000 : Int) = maxCt from rfl]; refine (w_Out _ _ _ _).mono ?_; rintro e w' ⟨rfl, rfl⟩))
    go_ret2
    rw [HF.out]
    exact DivU.no (by omega) (Nx.refl _)

set_option maxRecDepth 100000 in
set_option maxHeartbeats 1000000 in
theorem w_EqualI (lo lo' : Nat) (A B : Option Addr) (c d : Nat) (l : List Int) (w : World) (hA : Rd w lo A 1 encI l) (hB : Rd w lo' B 1 encI l) (hl : l.length ≤ 65536) :
    Calls Tryz.prog 121 #[.slice A l.length c, .slice B l.length d] w fun e w' => e = .returned (.bool true) ∧ Nx w w' := by
  generalize hn : l.length = n at *
  have HA := hide hA
  have HB := hide hB
  have HN := hide hn
  clear hA hB hn
  go_enter Tryz.func121, Tryz.ntmps121
  go_wp2
  go_loopw [5, 13] (fun _ i wr => ∃ k : Nat, k ≤ n ∧ i = .int .i64 k ∧ Nx w wr) (fun _ i _ => n - (intOf i).toNat)
  case atStart => exact ⟨0, Nat.zero_le _, rfl, Nx.refl _⟩
  case round =>
    obtain ⟨k, hk, rfl, hbw⟩ := hrel
    by_cases hlt : k < n
    · have hlt' : k < l.length := by have := HN.out; omega
      obtain ⟨b, off, rfl, _, hb, hbr, hc⟩ := HA.out.open_ hbw (by omega)
      obtain ⟨b', off', rfl, _, hb', hbr', hc'⟩ := HB.out.open_ hbw (by omega)
      have c0 : wr.cell? ⟨b, off + k, none⟩ = some (.int .i64 l[k]) := by have := hc k hlt' 0 _ rfl; simpa using this
      have d0 : wr.cell? ⟨b', off' + k, none⟩ = some (.int .i64 l[k]) := by have := hc' k hlt' 0 _ rfl; simpa using this
      clear hc hc'
      have q1 : (0 : Int) ≤ (k : Int) := by omega
      have q2 : (k : Int) < (n : Int) := by omega
      go_wp2_with fail
      go_quiet (fail)
      go_wp2
      go_roundw
      case rel => exact ⟨k + 1, by omega, by go_num, hbw.drewN _⟩
      case measure => simp [intOf]; omega
    · go_wp2
      go_ret
      exact ⟨rfl, hbw⟩

end Go.Proofs.YtmpnilliichpfaaGreatDoor
/- More words for memory, of no program: rows out of literals, prefixes of rows, rows that stay while others turn. -/
namespace Go.Proofs.YtmpnilliichpfaaGreatDoor
open Go.RowKit

section
variable {α : Type} {w w' : World} {lo K : Nat} {A : Option Addr} {enc : α → List Value} {xs : List α}
/-- The first ones of a slice. -/
theorem Rd.take (h : Rd w lo A K enc xs) (n : Nat) : Rd w lo A K enc (xs.take n) := fun hp => by
  have hp' : 0 < xs.length := by rw [List.length_take] at hp; omega
  obtain ⟨b, off, e, h1, hb, hc⟩ := h hp'
  refine ⟨b, off, e, h1, hb, fun i x hx j u hu => hc i x ?_ j u hu⟩
  have hi : i < (xs.take n).length := (List.getElem?_eq_some_iff.1 hx).1
  rw [List.length_take] at hi
  rw [← hx, List.getElem?_take_of_lt (by omega)]
/-- A row of the call's own out of a literal: its first n elements. -/
theorem own_lit {e : TypeId} {g n m : Nat} {cs : Array Value} {base : Nat} (hk : ∀ x, (enc x).length = K) (hg : w.heap[g]? = some (.cells cs e (0, 0))) (hb : base ≤ g) (hcs : cs.toList = xs.flatMap enc) (hm : xs.length = m) (hn : n ≤ m) (hmax : m ≤ maxLen) :
    w.ownsRow base e K (.slice (some ⟨g, 0, none⟩) n m) n ((xs.take n).flatMap enc) := by
  have hl : (xs.take n).length = n := by rw [List.length_take]; omega
  refine ⟨by rw [flat_len hk, hl], .inr ⟨g, m, cs, rfl, hb, hg, hn, hmax, ?_, ?_⟩⟩
  · rw [← Array.length_toList, hcs, flat_len hk, hm]
  · rw [hcs]
    have e1 : xs.flatMap enc = (xs.take n).flatMap enc ++ (xs.drop n).flatMap enc := by rw [← List.flatMap_append, List.take_append_drop]
    rw [e1, List.take_append_of_le_length (by rw [flat_len hk, hl]; exact Nat.le_refl _), List.take_of_length_le (by rw [flat_len hk, hl]; exact Nat.le_refl _)]
end
end Go.Proofs.YtmpnilliichpfaaGreatDoor
/- What is handed out: the reference's. -/
namespace Go.Proofs.YtmpnilliichpfaaGreatDoor
open Go.RowKit Go.Sort Go.Proofs Go.Shelf

theorem run_make_ints (n : Nat) (hn : n ≤ 100000) (w : World) : (Instr.makeSlice 22 (.int .i64 (n : Int)) (.int .i64 (n : Int))).run Tryz.prog w = .ok (.slice (some ⟨w.heap.size, 0, none⟩) n n) (w.alloc (.cells (madeCells #[.int .i64 0] n) 3)) := by
  obtain ⟨i, h1, h2, h3, h4⟩ := info_parts (show (Tryz.prog.info? 3).map (fun i => (i.zero, i.size, i.bytes)) = some (some (.int .i64 0), 1, 8) by kernel_rfl)
  have h := run_make (P := Tryz.prog) w 22 3 i (.int .i64 0) Tryz.underlying22 h1 h2 .i64 .i64 (n : Int) (n : Int) (by omega) (by omega) (by rw [h4]; omega) (by omega)
  rw [h]
  simp [h3, Value.cells]
theorem made_ints (n : Nat) : (madeCells #[.int .i64 0] n).toList = (List.replicate n (0 : Int)).flatMap encI := by
  rw [toList_madeCells_one]
  induction n with
  | zero => rfl
  | succ n ih => rw [List.replicate_succ, List.replicate_succ, List.flatMap_cons, ih]; rfl
theorem own_made (w : World) (n base : Nat) (hn : n ≤ 100000) (hb : base ≤ w.heap.size) {Z : Array Value} (hZ : Z.toList = (List.replicate n (0 : Int)).flatMap encI) : (w.alloc (.cells Z 3)).ownsRow base 3 1 (.slice (some ⟨w.heap.size, 0, none⟩) n n) n ((List.replicate n (0 : Int)).flatMap encI) := by
  have := own_lit (w := w.alloc (.cells Z 3)) (e := 3) (g := w.heap.size) (n := n) (m := n) (base := base) (xs := List.replicate n (0 : Int)) encI_len (hnew rfl) hb hZ (by simp) (Nat.le_refl _) (by unfold maxLen; omega)
  rwa [List.take_of_length_le (by simp)] at this
/-- A list filled up to k, the rest 0. -/
def fillN (L : List Int) (k : Nat) : List Int := L.take k ++ List.replicate (L.length - k) 0
theorem fillN_len (L : List Int) (k : Nat) (hk : k ≤ L.length) : (fillN L k).length = L.length := by unfold fillN; simp; omega
theorem fillN_zero (L : List Int) : fillN L 0 = List.replicate L.length 0 := by simp [fillN]
theorem fillN_all (L : List Int) : fillN L L.length = L := by simp [fillN]
theorem fillN_set (L : List Int) (k : Nat) (hk : k < L.length) : (fillN L k).set k L[k] = fillN L (k + 1) := by
  unfold fillN
  obtain ⟨m, hm⟩ : ∃ m, L.length - k = m + 1 := ⟨L.length - k - 1, by omega⟩
  have hm2 : L.length - (k + 1) = m := by omega
  have hl : (L.take k).length = k := by rw [List.length_take]; omega
  rw [hm, hm2, List.replicate_succ, List.set_append_right _ _ (by omega), hl, Nat.sub_self, List.set_cons_zero, List.take_succ_eq_append_getElem hk, List.append_assoc]; rfl
/-- The first of the greatest of the first k. -/
structure FM (cs : List Int) (k b : Nat) : Prop where
  at_ : b < cs.length
  in_ : b < k ∨ (k = 0 ∧ b = 0)
  up : ∀ j, j < k → cs.getD j 0 < cs.getD b 0 ∨ (cs.getD j 0 = cs.getD b 0 ∧ b ≤ j)
theorem FM.start {cs : List Int} (h : 0 < cs.length) : FM cs 0 0 := ⟨h, .inr ⟨rfl, rfl⟩, fun j hj => by omega⟩
theorem FM.more {cs : List Int} {k b : Nat} (h : FM cs k b) (hk : k < cs.length) (hlt : cs.getD b 0 < cs.getD k 0) : FM cs (k + 1) k :=
  ⟨hk, .inl (by omega), fun j hj => by
    rcases Nat.lt_or_ge j k with h1 | h1
    · have := h.up j h1; omega
    · have e : j = k := by omega
      subst e; exact .inr ⟨rfl, Nat.le_refl _⟩⟩
theorem FM.same {cs : List Int} {k b : Nat} (h : FM cs k b) (hlt : ¬ cs.getD b 0 < cs.getD k 0) : FM cs (k + 1) b :=
  ⟨h.at_, .inl (by have := h.in_; omega), fun j hj => by
    rcases Nat.lt_or_ge j k with h1 | h1
    · exact h.up j h1
    · have e : j = k := by omega
      subst e
      have := h.in_
      omega⟩
theorem FM.done {cs : List Int} {b : Nat} (h : FM cs cs.length b) : FirstMax cs b := ⟨h.at_, h.up⟩
theorem getD_at {l : List Int} {k : Nat} (h : k < l.length) : l.getD k 0 = l[k] := by rw [List.getD_eq_getElem?_getD, List.getElem?_eq_getElem h]; rfl

end Go.Proofs.YtmpnilliichpfaaGreatDoor
/- Bits of small numbers, in the walk's spelling. -/
namespace Go.Proofs.YtmpnilliichpfaaGreatDoor
open Go

theorem bits_and_i64 (a b : Nat) (ha : a < 4294967296) (hb : b < 4294967296) : bits .and .i64 (a : Int) (b : Int) = ((a &&& b : Nat) : Int) := by
  have hx : a &&& b < 2 ^ 32 := Nat.and_lt_two_pow _ (by omega)
  have h1 : (BitVec.ofInt 64 (a : Int)).toNat = a := by
    rw [BitVec.ofInt_natCast, BitVec.toNat_ofNat]; exact Nat.mod_eq_of_lt (by omega)
  have h2 : (BitVec.ofInt 64 (b : Int)).toNat = b := by
    rw [BitVec.ofInt_natCast, BitVec.toNat_ofNat]; exact Nat.mod_eq_of_lt (by omega)
  show IntKind.i64.wrap ((BitVec.ofInt 64 (a : Int) &&& BitVec.ofInt 64 (b : Int)).toNat : Int) = _
  rw [BitVec.toNat_and, h1, h2, IntKind.wrap_i64]
  omega
theorem bits_or_i64 (a b : Nat) (ha : a < 4294967296) (hb : b < 4294967296) : bits .or .i64 (a : Int) (b : Int) = ((a ||| b : Nat) : Int) := by
  have hx : a ||| b < 2 ^ 32 := Nat.or_lt_two_pow (by omega) (by omega)
  have h1 : (BitVec.ofInt 64 (a : Int)).toNat = a := by
    rw [BitVec.ofInt_natCast, BitVec.toNat_ofNat]; exact Nat.mod_eq_of_lt (by omega)
  have h2 : (BitVec.ofInt 64 (b : Int)).toNat = b := by
    rw [BitVec.ofInt_natCast, BitVec.toNat_ofNat]; exact Nat.mod_eq_of_lt (by omega)
  show IntKind.i64.wrap ((BitVec.ofInt 64 (a : Int) ||| BitVec.ofInt 64 (b : Int)).toNat : Int) = _
  rw [BitVec.toNat_or, h1, h2, IntKind.wrap_i64]
  omega
theorem div_pow (g i : Nat) : (g : Int) / 2 ^ i = ((g / 2 ^ i : Nat) : Int) := by
  rw [Int.natCast_ediv, Int.natCast_pow]; rfl
theorem bit_le (g i : Nat) : bitN g i = 0 ∨ bitN g i = 1 := by unfold bitN; omega
theorem and_bit (g i : Nat) (hg : g < 4294967296) : bits .and .i64 ((g : Int) / 2 ^ i) 1 = ((bitN g i : Nat) : Int) := by
  rw [div_pow]
  have h : g / 2 ^ i < 4294967296 := Nat.lt_of_le_of_lt (Nat.div_le_self _ _) hg
  have := bits_and_i64 (g / 2 ^ i) 1 h (by omega)
  rw [Nat.and_one_is_mod] at this
  exact this
theorem mod_bit (g i : Nat) : ((g : Int) / 2 ^ i) % 2 = ((bitN g i : Nat) : Int) := by
  rw [div_pow]; unfold bitN; omega
theorem tmod_bit (g i : Nat) : ((g : Int) / 2 ^ i).tmod 2 = ((bitN g i : Nat) : Int) := by
  rw [div_pow]
  unfold bitN
  generalize g / 2 ^ i = z
  rw [Int.tmod_eq_emod_of_nonneg (by omega)]
  omega
theorem or_small : ∀ (g : Fin 64) (i : Fin 6), bitN g.val i.val = 0 → (g.val ||| 2 ^ i.val) = g.val + 2 ^ i.val := by decide +kernel
theorem or_bit (g i : Nat) (hg : g < 64) (hi : i < 6) (h0 : bitN g i = 0) : bits .or .i64 (g : Int) (2 ^ i) = ((g + 2 ^ i : Nat) : Int) := by
  have hp : 2 ^ i < 64 := by
    have : 2 ^ i ≤ 2 ^ 5 := Nat.pow_le_pow_right (by omega) (by omega)
    omega
  have e : ((2 : Int) ^ i) = ((2 ^ i : Nat) : Int) := by rw [Int.natCast_pow]; rfl
  rw [e, bits_or_i64 g (2 ^ i) (by omega) (by omega), or_small ⟨g, hg⟩ ⟨i, hi⟩ h0]
theorem add_lt_small : ∀ (n : Fin 7) (g : Fin 64) (i : Fin 6), g.val < 2 ^ n.val → i.val < n.val → bitN g.val i.val = 0 → g.val + 2 ^ i.val < 2 ^ n.val := by decide +kernel
theorem szN_small : ∀ (n : Fin 7) (g : Fin 64) (i : Fin 6), i.val < n.val → bitN g.val i.val = 0 → szN n.val g.val + 1 ≤ n.val := by decide +kernel
theorem szN_le (n g : Nat) : szN n g ≤ n := by
  induction n with
  | zero => simp [szN]
  | succ n ih => have := bit_le g n; simp only [szN]; omega
end Go.Proofs.YtmpnilliichpfaaGreatDoor
/- Groups that would pay less alone. -/
namespace Go.Proofs.YtmpnilliichpfaaGreatDoor
open Go.RowKit Go.Sort Go.Proofs Go.Shelf

theorem el_S : ElemOf Tryz.prog 32 9 1 16 := ElemOf.mk' (z := .string ByteArray.empty) Tryz.underlying32 (by kernel_rfl) rfl
theorem encS_len (x : ByteArray) : (encS x).length = 1 := rfl
theorem encS_one (x : ByteArray) : ∀ v ∈ encS x, v.oneCell' = true := by
  intro v hv; simp [encS] at hv; subst hv; rfl
theorem sumG_bd (cs : List Int) (hc : ∀ x ∈ cs, -1000000000 ≤ x ∧ x ≤ 1000000000) (g k : Nat) : -(k * 1000000000 : Int) ≤ sumG cs g k ∧ sumG cs g k ≤ k * 1000000000 := by
  induction k with
  | zero => simp [sumG]
  | succ k ih =>
    have h : -1000000000 ≤ cs.getD k 0 ∧ cs.getD k 0 ≤ 1000000000 := by
      rw [List.getD_eq_getElem?_getD]
      cases h : cs[k]? with
      | none => simp
      | some x => exact hc x (List.mem_of_getElem? h)
    have e : ((k + 1 : Nat) : Int) = (k : Int) + 1 := by omega
    simp only [sumG]
    split <;> omega
theorem whoTo_len (rides : List ByteArray) (g k : Nat) : (whoTo rides g k).length ≤ k := by
  induction k with
  | zero => exact Nat.le_refl _
  | succ k ih =>
    simp only [whoTo]
    split
    · rw [List.length_append]; simp; omega
    · omega
theorem gainL_drop (rides : List ByteArray) (ct cs : List Int) (m g : Nat) (hg : g < m) : gainL rides ct cs ((List.range m).drop g) = if cs.getD g 0 < sumG ct g rides.length then whoTo rides g rides.length else gainL rides ct cs ((List.range m).drop (g + 1)) := by
  rw [List.drop_eq_getElem_cons (by simpa using hg)]
  simp [gainL]
/-- The first group that would pay less. -/
def gainV (rides : List ByteArray) (cs : List Int) (ds : List Due) : List ByteArray := gainL rides (ds.map (·.cents)) cs (List.range (2 ^ rides.length))
/-- Keys, or a fault. -/
def KeysU (F : Int) (who : List ByteArray) (w : World) (e : Ending) (w' : World) : Prop :=
  ∃ (A : Option Addr) (c : Nat) (zs : List ByteArray), e = .returned (.tuple #[.slice A zs.length c, .int .i64 F]) ∧ zs = (if F = 0 then who else []) ∧ Rd w' w.heap.size A 1 encS zs ∧ Nx w w'
theorem KeysU.no {F : Int} {who : List ByteArray} {w w' : World} (h : F ≠ 0) (hn : Nx w w') : KeysU F who w (.returned (.tuple #[.slice none 0 0, .int .i64 F])) w' := ⟨none, 0, [], rfl, by rw [if_neg h], Rd.nil, hn⟩

theorem duesF_right {l : List ByteArray} {ds : List Due} (h : duesF l ds = 0) : l = ds.map (·.key) ∧ ds.any badD = false := by
  unfold duesF at h
  by_cases h1 : l = ds.map (·.key)
  · rw [if_pos h1] at h
    cases h2 : ds.any badD
    · exact ⟨h1, rfl⟩
    · rw [show (ds.any fun d => outB d.cents (-maxCt) maxCt) = true from h2] at h; simp at h
  · rw [if_neg h1] at h; omega
theorem fairF_right {l : List ByteArray} {cs : List Int} (h : fairF l cs = 0) : l.length ≤ 10 ∧ cs.length = 2 ^ l.length ∧ cs.getD 0 0 = 0 ∧ ∀ x ∈ cs, 0 ≤ x ∧ x ≤ 1000000000 := by
  unfold fairF at h
  by_cases h1 : keysF l = 0
  · rw [if_pos h1] at h
    by_cases h2 : cs.length = 2 ^ l.length
    · rw [if_pos h2] at h
      by_cases h3 : cs.getD 0 0 ≠ 0 ∨ cs.any centB = true
      · rw [if_pos h3] at h; omega
      · refine ⟨keysF_len h1, h2, Classical.byContradiction fun h4 => h3 (.inl h4), fun x hx => centB_bd ?_⟩
        cases h5 : centB x
        · rfl
        · exact absurd (.inr (List.any_eq_true.2 ⟨x, hx, h5⟩)) h3
    · rw [if_neg h2] at h; omega
  · rw [if_neg h1] at h; exact absurd h h1
theorem badD_bd {ds : List Due} (h : ds.any badD = false) : ∀ x ∈ ds.map (·.cents), -1000000000 ≤ x ∧ x ≤ 1000000000 := by
  intro x hx
  obtain ⟨d, hd, rfl⟩ := List.mem_map.1 hx
  have : badD d = false := by
    cases h1 : badD d
    · rfl
    · exact absurd (List.any_eq_true.2 ⟨d, hd, h1⟩) (by rw [h]; simp)
  have := outB_false.1 this
  unfold maxCt at this
  exact this

theorem bit_zero (i : Nat) : bitN 0 i = 0 := by unfold bitN; simp
theorem sumG_zero (cs : List Int) (k : Nat) : sumG cs 0 k = 0 := by
  induction k with
  | zero => rfl
  | succ k ih => simp only [sumG]; rw [bit_zero, if_neg (by omega), ih]
end Go.Proofs.YtmpnilliichpfaaGreatDoor
/- A whole shared fairly: the reference's. -/
namespace Go.Proofs.YtmpnilliichpfaaGreatDoor
open Go.RowKit Go.Sort Go.Proofs Go.Shelf

def factL (k : Nat) : List Int := (List.range k).map (fun j => ((factN j : Nat) : Int))
theorem factL_len (k : Nat) : (factL k).length = k := by simp [factL]
theorem factL_snoc (k : Nat) : factL (k + 1) = factL k ++ [((factN k : Nat) : Int)] := by unfold factL; rw [List.range_succ, List.map_append]; rfl
theorem factL_get (k j : Nat) (h : j < (factL k).length) : (factL k)[j] = ((factN j : Nat) : Int) := by simp [factL]
theorem factN_bd : ∀ j : Fin 8, 1 ≤ factN j.val ∧ factN j.val ≤ 5040 := by decide
theorem fact_bd (j : Nat) (h : j ≤ 7) : 1 ≤ factN j ∧ factN j ≤ 5040 := factN_bd ⟨j, by omega⟩
theorem w_small : ∀ (n : Fin 7) (s : Fin 7), s.val + 1 ≤ n.val → factN s.val * factN (n.val - 1 - s.val) ≤ 120 := by decide
theorem wN_bd (n g : Nat) (hn : n ≤ 6) (hs : szN n g + 1 ≤ n) : wN n g ≤ 120 := by
  unfold wN
  exact w_small ⟨n, by omega⟩ ⟨szN n g, by omega⟩ hs
theorem getD_bd {cs : List Int} (h : ∀ x ∈ cs, 0 ≤ x ∧ x ≤ 1000000000) (k : Nat) : 0 ≤ cs.getD k 0 ∧ cs.getD k 0 ≤ 1000000000 := by
  rw [List.getD_eq_getElem?_getD]
  cases h1 : cs[k]? with
  | none => simp
  | some x => exact h x (List.mem_of_getElem? h1)
theorem szN_at (n g i : Nat) (hn : n ≤ 6) (hg : g < 64) (hi : i < n) (h0 : bitN g i = 0) : szN n g + 1 ≤ n := szN_small ⟨n, by omega⟩ ⟨g, hg⟩ ⟨i, by omega⟩ hi h0
theorem term_bd (n : Nat) (hn : n ≤ 6) (cs : List Int) (h : ∀ x ∈ cs, 0 ≤ x ∧ x ≤ 1000000000) (g i : Nat) (hg : g < 64) (hi : i < n) : -120000000000 ≤ term n cs g i ∧ term n cs g i ≤ 120000000000 := by
  unfold term
  by_cases h0 : bitN g i = 0
  · rw [if_pos h0]
    have h1 := wN_bd n g hn (szN_at n g i hn hg hi h0)
    have h2 := getD_bd h (g + 2 ^ i)
    have h3 := getD_bd h g
    generalize cs.getD (g + 2 ^ i) 0 = a at *
    generalize cs.getD g 0 = b at *
    generalize wN n g = W at *
    have h4 : (W : Int) * (a - b) ≤ W * 1000000000 := Int.mul_le_mul_of_nonneg_left (by omega) (by omega)
    have h5 : (W : Int) * (-1000000000) ≤ W * (a - b) := Int.mul_le_mul_of_nonneg_left (by omega) (by omega)
    omega
  · rw [if_neg h0]; omega
theorem numTo_bd (n : Nat) (hn : n ≤ 6) (cs : List Int) (h : ∀ x ∈ cs, 0 ≤ x ∧ x ≤ 1000000000) (g i : Nat) (hg : g ≤ 64) (hi : i < n) : -(g * 120000000000 : Int) ≤ numTo n cs g i ∧ numTo n cs g i ≤ g * 120000000000 := by
  induction g with
  | zero => simp [numTo]
  | succ g ih =>
    have h1 := ih (by omega)
    have h2 := term_bd n hn cs h g i (by omega) hi
    simp only [numTo]
    omega
theorem numsF_len (n : Nat) (cs : List Int) (g : Nat) : (numsF n cs g).length = n := by simp [numsF]
theorem numsF_get (n : Nat) (cs : List Int) (g i : Nat) (h : i < (numsF n cs g).length) : (numsF n cs g)[i] = numTo n cs g i := by simp [numsF]
theorem set_self {L : List Int} {k : Nat} (hk : k < L.length) {x : Int} (h : L[k] = x) : L.set k x = L := by
  apply List.ext_getElem
  · simp
  · intro i h1 h2
    rw [List.getElem_set]
    split
    · rename_i e; subst e; exact h.symm
    · rfl
theorem fillN_at (L : List Int) (k : Nat) (hk : k < L.length) : (fillN L k)[k]'(by rw [fillN_len _ _ (by omega)]; exact hk) = 0 := by
  have hl : (L.take k).length = k := by rw [List.length_take]; omega
  unfold fillN
  rw [List.getElem_append_right (by omega)]
  simp

theorem encDue_len (x : Due) : (encDue x).length = 2 := rfl
theorem encDue_one (x : Due) : ∀ v ∈ encDue x, v.oneCell' = true := by
  intro v hv; simp [encDue] at hv; rcases hv with rfl | rfl <;> rfl
theorem made_dues (n : Nat) : (madeCells #[.string ByteArray.empty, .int .i64 0] (n * 2)).toList = (List.replicate n (⟨ByteArray.empty, 0⟩ : Due)).flatMap encDue := by
  apply List.ext_getElem?
  intro j
  by_cases hj : j < n * 2
  · have h1 : (madeCells #[.string ByteArray.empty, .int .i64 0] (n * 2)).toList[j]? = some (#[Value.string ByteArray.empty, .int .i64 0][j % 2]!) := by
      simp [madeCells, hj]
    have h2 : (List.replicate n (⟨ByteArray.empty, 0⟩ : Due))[j / 2]? = some ⟨ByteArray.empty, 0⟩ := by
      rw [List.getElem?_replicate, if_pos (by omega)]
    have hm : j % 2 = 0 ∨ j % 2 = 1 := by omega
    have e : j / 2 * 2 + j % 2 = j := by omega
    rcases hm with hm | hm
    · have := flat_get (xs := List.replicate n (⟨ByteArray.empty, 0⟩ : Due)) encDue_len (j / 2) _ h2 (j % 2) (.string ByteArray.empty) (by rw [hm]; rfl)
      rw [e] at this
      rw [h1, this, hm]; rfl
    · have := flat_get (xs := List.replicate n (⟨ByteArray.empty, 0⟩ : Due)) encDue_len (j / 2) _ h2 (j % 2) (.int .i64 0) (by rw [hm]; rfl)
      rw [e] at this
      rw [h1, this, hm]; rfl
  · rw [List.getElem?_eq_none (by simp [madeCells]; omega), List.getElem?_eq_none (by rw [flat_len encDue_len]; simp; omega)]
theorem Nx.cellS {a w : World} (h : Nx a w) {p : Addr} {v : Value} (hc : a.cell? p = some v) : w.cell? p = some v :=
  (Below.cell h (World.block_lt_of_cell? a _ hc)).trans hc
section
variable {α : Type}
/-- A list filled up to k, the rest d. -/
def fillG (d : α) (L : List α) (k : Nat) : List α := L.take k ++ List.replicate (L.length - k) d
theorem fillG_len (d : α) (L : List α) (k : Nat) (hk : k ≤ L.length) : (fillG d L k).length = L.length := by unfold fillG; simp; omega
theorem fillG_zero (d : α) (L : List α) : fillG d L 0 = List.replicate L.length d := by simp [fillG]
theorem fillG_all (d : α) (L : List α) : fillG d L L.length = L := by simp [fillG]
theorem fillG_set (d : α) (L : List α) (k : Nat) (hk : k < L.length) : (fillG d L k).set k L[k] = fillG d L (k + 1) := by
  unfold fillG
  obtain ⟨m, hm⟩ : ∃ m, L.length - k = m + 1 := ⟨L.length - k - 1, by omega⟩
  have hm2 : L.length - (k + 1) = m := by omega
  have hl : (L.take k).length = k := by rw [List.length_take]; omega
  rw [hm, hm2, List.replicate_succ, List.set_append_right _ _ (by omega), hl, Nat.sub_self, List.set_cons_zero, List.take_succ_eq_append_getElem hk, List.append_assoc]; rfl
theorem rd_own {w : World} {base g cap n K : Nat} {e : TypeId} {enc : α → List Value} {xs : List α} (hk : ∀ x, (enc x).length = K) (hn : xs.length = n) (h : w.ownsRow base e K (.slice (some ⟨g, 0, none⟩) n cap) n (xs.flatMap enc)) : Rd w base (some ⟨g, 0, none⟩) K enc xs := by
  obtain ⟨A, c, ev, hR, _⟩ := Rd.of_own hk hn.symm h
  injection ev with e1 _ _
  rw [e1]; exact hR
end
end Go.Proofs.YtmpnilliichpfaaGreatDoor
/- The stream's strings; clones. -/
namespace Go.Proofs.YtmpnilliichpfaaGreatDoor
open Go.RowKit Go.Sort Go.Proofs Go.Shelf

/-- A string of some list. -/
def StrSome (zs : List ByteArray) (s k : Nat) (w : World) (e : Ending) (w' : World) : Prop := ∃ r ∈ zs, e = .returned (.string r) ∧ Gr s w w' ∧ Str w' s k
set_option maxRecDepth 100000 in
set_option maxHeartbeats 400000 in
/-- 's.Some(..)' of strings that lie in a block of their own. -/
theorem w_Some (g : Nat) (zs : List ByteArray) (cs : Array Value) (s k : Nat) (w : World) (hS : Str w s k) (hk : k < 1000000) (hg : w.heap[g]? = some (.cells cs 9 (0, 0))) (hne : g ≠ s) (hcs : cs.toList = zs.map Value.string) (h0 : zs ≠ []) (h1 : zs.length < 1000) :
    Calls Tryz.prog 17 #[.pointer (some ⟨s, 0, none⟩), .slice (some ⟨g, 0, none⟩) zs.length zs.length] w (StrSome zs s (k + 1) w) := by
  have hl : cs.size = zs.length := by rw [← Array.length_toList, hcs, List.length_map]
  have hp := List.length_pos_iff.2 h0
  generalize hm : zs.length = m at *
  have HM := hide hm
  clear hm h0
  go_enter Tryz.func17, Tryz.ntmps17
  go_wp2_with (go_at_call 48; refine (w_Next _ _ _ _ hS hk (by omega)).mono ?_; rintro e w' ⟨r, hr1, hr2, rfl, hgr, hS'⟩; (obtain ⟨q, rfl⟩ := Int.eq_ofNat_of_zero_le hr1); (have hq : q < zs.length := by have := HM.out; omega); (have hcell : w'.cell? ⟨g, q, none⟩ = some (.string zs[q]) := World.grownBy.cell hgr ((cell_of_row w g q _ _ _ hg).trans (by rw [← Array.getElem?_toList, hcs, List.getElem?_map, List.getElem?_eq_getElem hq]; rfl)) (by simp; omega)))
  go_ret
  exact ⟨_, List.getElem_mem hq, rfl, hgr, hS'⟩

set_option maxRecDepth 100000 in
set_option maxHeartbeats 400000 in
theorem w_CloneS (lo : Nat) (A : Option Addr) (c : Nat) (l : List ByteArray) (w : World) (hR : Rd w lo A 1 encS l) (hl : l.length ≤ 100000) :
    Calls Tryz.prog 78 #[.slice A l.length c] w fun e w' => ∃ v, e = .returned v ∧ w'.ownsRow w.heap.size 9 1 v l.length (l.flatMap encS) ∧ Nx w w' := by
  have q22 : ∀ (w : World) (a : Option Addr) (n c n' c' : Nat), (binOp .eql 32 (.slice a n c) (.slice none n' c')).run Tryz.prog w = .ok (.bool a.isNone) w := fun w a n c n' c' => Lib.run_eql_slice_nil w _ _ a n c n' c' Tryz.underlying32
  cases A with
  | none =>
    have hy : l = [] := by
      rcases l with _ | ⟨y, l⟩
      · rfl
      · obtain ⟨b, off, e, _⟩ := hR (by simp); cases e
    subst hy
    go_enter Tryz.func78, Tryz.ntmps78
    go_wp2
    go_ret
    exact ⟨_, rfl, World.ownsRow_nil _ _ _ _, Nx.refl _⟩
  | some a =>
    have hst := own_lit (w := w.alloc (.cells #[] 9)) (e := 9) (g := w.heap.size) (n := 0) (m := 0) (base := w.heap.size) (xs := ([] : List ByteArray)) encS_len (hnew rfl) (Nat.le_refl _) rfl rfl (Nat.le_refl _) (by unfold maxLen; omega)
    have HST := hide hst
    have HR := hide hR
    clear hst hR
    generalize hn : l.length = n at *
    have HN := hide hn
    clear hn
    go_enter Tryz.func78, Tryz.ntmps78
    go_wp2_with (at_builtin; refine wpAppL rfl _ _ _ rfl el_S encS encS_len encS_one (by omega) (by omega) w.heap.size _ [] rfl HST.out (some a) c l (by rw [HN.out]; rfl) (HR.out.nx ((Nx.refl _).alloc _)) (by have := HN.out; simp; omega) (by simp) ?_; intro v2 w2 hown2 hg2)
    go_ret
    rw [List.nil_append, HN.out] at hown2
    refine ⟨_, rfl, hown2, ?_⟩
    exact ((Nx.refl w).alloc _).grown hg2 (own_blk_lt HST.out)

/-- Rides, and what their groups cost. -/
def StrCosts (s k : Nat) (w : World) (e : Ending) (w' : World) : Prop :=
  ∃ (A : Option Addr) (c : Nat) (l : List ByteArray) (B : Option Addr) (c' : Nat) (cs : List Int), e = .returned (.tuple #[.slice A l.length c, .slice B cs.length c']) ∧ l.length ≤ 6 ∧ Small l ∧ cs.length ≤ 40 ∧
    Rd w' w.heap.size A 1 encS l ∧ Rd w' w.heap.size B 1 encI cs ∧ Gr s w w' ∧ Str w' s k
def jaB : ByteArray := ⟨#[106, 97]⟩
def jL : List ByteArray := [⟨#[106, 97]⟩, ⟨#[106, 98]⟩, ⟨#[106, 99]⟩, ⟨#[106, 100]⟩, ⟨#[106, 101]⟩]
theorem jL_small (n : Nat) : Small (jL.take n) := by
  intro x hx
  have h := List.mem_of_mem_take hx
  simp [jL] at h
  rcases h with rfl | rfl | rfl | rfl | rfl <;> decide

theorem encFrac_len (x : Frac) : (encFrac x).length = 2 := rfl
theorem encFrac_one (x : Frac) : ∀ v ∈ encFrac x, v.oneCell' = true := by
  intro v hv; simp [encFrac] at hv; rcases hv with rfl | rfl <;> rfl
/-- Some steps. -/
def StrTiers (s k : Nat) (w : World) (e : Ending) (w' : World) : Prop :=
  ∃ (A : Option Addr) (c : Nat) (l : List Frac), e = .returned (.slice A l.length c) ∧ l.length ≤ 4 ∧ Rd w' w.heap.size A 2 encFrac l ∧ Gr s w w' ∧ Str w' s k
end Go.Proofs.YtmpnilliichpfaaGreatDoor
/- The walks of the smallest functions of numbers. -/
namespace Go.Proofs.YtmpnilliichpfaaGreatDoor
open Go.RowKit

theorem w_Moment (n : Int) (w : World) : Calls Tryz.prog 126 #[.int .i64 n] w fun e w' => e = .returned (.bool (momB n)) ∧ w = w' := by
  have H := hide (show outB n 0 345686399999 = outB n 0 lastMo from rfl)
  go_enter Tryz.func126, Tryz.ntmps126
  go_wp2_with (go_at_call 76; rw [show (345686399999 : Int) = lastMo from rfl]; refine (w_Out _ _ _ _).mono ?_; rintro e w' ⟨rfl, rfl⟩)
  go_ret
  exact ⟨ret_bool (by unfold momB; rfl), rfl⟩

theorem w_isPoint (x y : Int) (w : World) : Calls Tryz.prog 151 #[.int .i64 x, .int .i64 y] w fun e w' => e = .returned (.bool (isPtB x y)) ∧ w = w' := by
  go_enter Tryz.func151, Tryz.ntmps151
  cases h1 : outB x (-10000) 10000 <;> cases h2 : outB y (-10000) 10000
  all_goals
    go_wp2_with (go_at_call 76; refine (w_Out _ _ _ _).mono ?_; rintro e w' ⟨rfl, rfl⟩)
    go_ret
    exact ⟨ret_bool (by unfold isPtB; simp [h1, h2]), rfl⟩

theorem w_PointFault (x y : Int) (w : World) : Calls Tryz.prog 38 #[.int .i64 x, .int .i64 y] w fun e w' => e = .returned (.int .i64 (ptF x y)) ∧ w = w' := by
  have e1 := inB_out x (-10000) 10000
  have e2 := inB_out y (-10000) 10000
  go_enter Tryz.func38, Tryz.ntmps38
  cases h1 : outB x (-10000) 10000 <;> cases h2 : outB y (-10000) 10000
  all_goals
    rw [h1] at e1; rw [h2] at e2
    go_wp2_with (go_at_call 80; refine (w_in _ _ _ _).mono ?_; rintro e w' ⟨rfl, rfl⟩)
    go_ret
    exact ⟨ret_int (by unfold ptF isPtB; simp [h1, h2, argF]), rfl⟩

theorem w_MomentFault (x : Int) (w : World) : Calls Tryz.prog 24 #[.int .i64 x] w fun e w' => e = .returned (.int .i64 (momF x)) ∧ w = w' := by
  have e1 := inB_out x 0 lastMo
  go_enter Tryz.func24, Tryz.ntmps24
  cases h1 : outB x 0 lastMo
  all_goals
    rw [h1] at e1
    go_wp2_with (go_at_call 80; rw [show (345686399999 : Int) = lastMo from rfl]; refine (w_in _ _ _ _).mono ?_; rintro e w' ⟨rfl, rfl⟩)
    go_ret
    exact ⟨ret_int (by unfold momF momB; simp [h1, argF]), rfl⟩

end Go.Proofs.YtmpnilliichpfaaGreatDoor
/- A map whose elements are of any kind, said of a plain function; pointers to blocks as elements. Of no program. -/
namespace Go.Proofs.YtmpnilliichpfaaGreatDoor
open Go.RowKit Go.Maps

/-- R reads the values 'ev v', and no others as what they read as. -/
structure ElemR {V : Type} (R : Value → Option (DataW Unit × List MemPlace)) (ev : V → Value) (dv : V → DataW Unit) (okv : V → Prop) : Prop where
  make : ∀ v, okv v → ∃ ps, R (ev v) = some (dv v, ps)
  inv : ∀ x d ps, R x = some (d, ps) → ∃ v, okv v ∧ x = ev v ∧ d = dv v
  inj : ∀ a b, dv a = dv b → a = b

theorem elemInt {P : Program} {E : TypeId} (he : P.underlying E = some (.int .i64)) : ElemR (plainElem P E) (Value.int .i64) (fun z => .lit (.int .i64 z)) (fun z => (Lit.int .i64 z).wf = true) where
  make z h := ⟨[], plainElem_int he h⟩
  inv x d ps h := by
    obtain ⟨a, rfl, e, hw⟩ := plainElem_int_inv he h
    injection e with e1 e2
    exact ⟨a, hw, rfl, e1⟩
  inj a b h := by injection h with h; injection h
theorem elemBool {P : Program} {E : TypeId} (he : P.underlying E = some .bool) : ElemR (plainElem P E) Value.bool (fun z => .lit (.bool z)) (fun _ => True) where
  make z _ := ⟨[], plainElem_bool he z⟩
  inv x d ps h := by
    unfold plainElem at h
    rw [he] at h
    cases x <;> simp at h
    obtain ⟨rfl, _⟩ := h
    exact ⟨_, trivial, rfl, rfl⟩
  inj a b h := by injection h with h; injection h

/-- A pointer to a block's head, or nil. -/
def ptrV : Option Nat → Value
  | none => .pointer none
  | some b => .pointer (some ⟨b, 0, none⟩)
def ptrD : Option Nat → DataW Unit
  | none => .lit (.bool false)
  | some b => .lit (.int .i64 (b : Int))
def ptrElem : Value → Option (DataW Unit × List MemPlace)
  | .pointer none => some (.lit (.bool false), [])
  | .pointer (some ⟨b, 0, none⟩) => some (.lit (.int .i64 (b : Int)), [])
  | _ => none
theorem elemPtr : ElemR ptrElem ptrV ptrD (fun _ => True) where
  make v _ := by cases v <;> exact ⟨[], rfl⟩
  inv x d ps h := by
    unfold ptrElem at h
    split at h
    · injection h with h; injection h with h1 h2; exact ⟨none, trivial, rfl, h1.symm⟩
    · rename_i b
      injection h with h; injection h with h1 h2; exact ⟨some b, trivial, rfl, h1.symm⟩
    · cases h
  inj a b h := by
    cases a <;> cases b <;> simp [ptrD] at h <;> first | rfl | (congr 1; omega)

section
variable {κ V : Type} {P : Program} {K : TypeId} {ek : κ → Value} {dom : κ → Prop} {R : Value → Option (DataW Unit × List MemPlace)} {ev : V → Value} {dv : V → DataW Unit} {okv : V → Prop}

structure MgD (P : Program) (K : TypeId) (ek : κ → Value) (dom : κ → Prop) (dv : V → DataW Unit) (D : DataW Unit) (f : κ → Option V) : Prop where
  isMap : IsMap D
  at_ : ∀ k l, dom k → keyOf P K (ek k) = some l → ∀ z, D.atKey l z = (match f k with | some v => dv v | none => z)
  keys : ∀ l, has D l = true → ∃ k, dom k ∧ keyOf P K (ek k) = some l
  dm : ∀ k, (f k).isSome = true → dom k
/-- Block b is a map that holds f k at key k, if it has the key at all. -/
def MgI (P : Program) (K : TypeId) (ek : κ → Value) (dom : κ → Prop) (R : Value → Option (DataW Unit × List MemPlace)) (dv : V → DataW Unit) (w : World) (b n : Nat) (f : κ → Option V) : Prop :=
  ∃ D : DataW Unit, w.ownsMap P K R b n D ∧ MgD P K ek dom dv D f
theorem MgI.lt {w : World} {b n : Nat} {f : κ → Option V} (h : MgI P K ek dom R dv w b n f) : b < w.heap.size := by
  obtain ⟨D, h1, _⟩ := h; exact h1.lt
theorem MgI.grown {w w' : World} {b n : Nat} {row : Option Nat} {f : κ → Option V} (h : MgI P K ek dom R dv w b n f) (hg : w.grownBy w' row) (hne : some b ≠ row) : MgI P K ek dom R dv w' b n f := by
  obtain ⟨D, h1, h2⟩ := h
  exact ⟨D, h1.kept hg hne, h2⟩
theorem MgI.nx {w w' : World} {b n : Nat} {f : κ → Option V} (h : MgI P K ek dom R dv w b n f) (hn : Nx w w') : MgI P K ek dom R dv w' b n f := h.grown (hn.gr none) (by simp)
theorem MgI.gr {w w' : World} {b n s : Nat} {f : κ → Option V} (h : MgI P K ek dom R dv w b n f) (hn : Gr s w w') (hs : b ≠ s) : MgI P K ek dom R dv w' b n f := h.grown (row := some s) hn (by simpa using hs)
theorem MgI.mono {w : World} {b n n' : Nat} {f : κ → Option V} (h : MgI P K ek dom R dv w b n f) (hn : n ≤ n') : MgI P K ek dom R dv w b n' f := by
  obtain ⟨D, h1, h2⟩ := h; exact ⟨D, h1.mono hn, h2⟩
theorem MgI.made (w : World) : MgI P K ek dom R dv (w.alloc (.map #[] 0)) w.heap.size 0 (fun _ : κ => (none : Option V)) :=
  ⟨.map [], World.ownsMap_made w P K _, isMap_empty, fun _ _ _ _ _ => rfl, fun l h => (by simp [has_eq] at h), fun k h => by cases h⟩
/-- A new map, wherever it came. -/
theorem MgI.fresh {w : World} {b : Nat} (hb : w.heap[b]? = some (.map #[] 0)) : MgI P K ek dom R dv w b 0 (fun _ : κ => (none : Option V)) :=
  ⟨.map [], ⟨#[], 0, hb, by
    obtain ⟨es, clock, h1, h2, _⟩ := World.ownsMap_made w P K R
    have e : (w.alloc (.map #[] 0)).heap[w.heap.size]? = some (.map #[] 0) := heap_alloc_new w _
    rw [e] at h1
    injection h1 with h1; injection h1 with h3 h4
    subst h3 h4
    exact h2, Nat.le_refl _, rfl⟩, isMap_empty, fun _ _ _ _ _ => rfl, fun l h => (by simp [has_eq] at h), fun k h => by cases h⟩
theorem MgD.has_ {D : DataW Unit} {f : κ → Option V} (h : MgD P K ek dom dv D f) {k : κ} (hd : dom k) {l : Lit} (hkey : keyOf P K (ek k) = some l) : has D l = (f k).isSome := by
  have e := h.at_ k l hd hkey
  cases hf : f k with
  | none => rw [hf] at e; exact has_false_of_atKey e
  | some v => rw [hf] at e; exact has_true_of_atKey e
/-- 'm[k]'. -/
theorem MgI.look (ER : ElemR R ev dv okv) {w : World} {b n : Nat} {f : κ → Option V} {t E : TypeId} (h : MgI P K ek dom R dv w b n f) (KL : Keyed P K) (ht : P.underlying t = some (.map K E)) {z : V} (hzo : okv z) (hz : (zeroValue E).run P w = .ok (ev z) w)
    {k : κ} (hd : dom k) {l : Lit} (hkey : keyOf P K (ek k) = some l) : (Instr.lookup t (.map (some b)) (ek k) false).run P w = .ok (ev ((f k).getD z)) w ∧ okv ((f k).getD z) := by
  obtain ⟨D, h1, h2⟩ := h
  obtain ⟨ps0, hzd⟩ := ER.make z hzo
  obtain ⟨v, ps, hrun, hv⟩ := h1.lookup KL ht hz hzd hkey
  obtain ⟨v', ho, rfl, e1⟩ := ER.inv _ _ _ hv
  have e := h2.at_ k l hd hkey (dv z)
  have e2 : v' = (f k).getD z := by
    rw [e1] at e
    cases hf : f k with
    | none => rw [hf] at e; exact ER.inj _ _ e
    | some u => rw [hf] at e; exact ER.inj _ _ e
  subst e2
  exact ⟨hrun, ho⟩
/-- 'v, is := m[k]'. -/
theorem MgI.look_ok (ER : ElemR R ev dv okv) {w : World} {b n : Nat} {f : κ → Option V} {t E : TypeId} (h : MgI P K ek dom R dv w b n f) (KL : Keyed P K) (ht : P.underlying t = some (.map K E)) {z : V} (hzo : okv z) (hz : (zeroValue E).run P w = .ok (ev z) w)
    {k : κ} (hd : dom k) {l : Lit} (hkey : keyOf P K (ek k) = some l) : (Instr.lookup t (.map (some b)) (ek k) true).run P w = .ok (.tuple #[ev ((f k).getD z), .bool (f k).isSome]) w ∧ okv ((f k).getD z) := by
  obtain ⟨D, h1, h2⟩ := h
  obtain ⟨ps0, hzd⟩ := ER.make z hzo
  obtain ⟨v, ps, hrun, hv⟩ := h1.look_ok KL ht hz hzd hkey
  obtain ⟨v', ho, rfl, e1⟩ := ER.inv _ _ _ hv
  have e := h2.at_ k l hd hkey (dv z)
  have e2 : v' = (f k).getD z := by
    rw [e1] at e
    cases hf : f k with
    | none => rw [hf] at e; exact ER.inj _ _ e
    | some u => rw [hf] at e; exact ER.inj _ _ e
  subst e2
  rw [h2.has_ hd hkey] at hrun
  exact ⟨hrun, ho⟩
theorem MgD.put [DecidableEq κ] {D : DataW Unit} {f : κ → Option V} (h : MgD P K ek dom dv D f) (KL : Keyed P K) (hinj : ∀ a b : κ, ek a = ek b → a = b) {k : κ} (hd : dom k) {l : Lit} (hkey : keyOf P K (ek k) = some l) (v : V) :
    MgD P K ek dom dv (D.put l (dv v)) (fun k' => if k' = k then some v else f k') where
  isMap := h.isMap.put _ _
  at_ k' l' hd' hk' z := by
    by_cases e : k' = k
    · subst e
      rw [hkey] at hk'; injection hk' with hk'; subst hk'
      rw [if_pos rfl]
      exact atKey_put_same h.isMap (KL.key hkey) _ _
    · rw [if_neg e]
      have hne : l' ≠ l := fun e1 => by subst e1; exact e (hinj _ _ (KL.inj hk' hkey))
      rw [atKey_put_other hne]
      exact h.at_ k' l' hd' hk' z
  keys l' hl' := by
    by_cases e : l' = l
    · subst e; exact ⟨k, hd, hkey⟩
    · rw [has_put_other e] at hl'; exact h.keys l' hl'
  dm k' hk' := by
    by_cases e : k' = k
    · subst e; exact hd
    · rw [if_neg e] at hk'; exact h.dm k' hk'
/-- 'm[k] = v'. -/
theorem MgI.upd [DecidableEq κ] (ER : ElemR R ev dv okv) {w : World} {b n : Nat} {f : κ → Option V} {t E : TypeId} (h : MgI P K ek dom R dv w b n f) (KL : Keyed P K) (hinj : ∀ a b : κ, ek a = ek b → a = b) (ht : P.underlying t = some (.map K E)) (hn : n < maxLen)
    {k : κ} (hd : dom k) {l : Lit} (hkey : keyOf P K (ek k) = some l) (v : V) (hv : okv v) :
    ∃ w', (Instr.mapUpdate t (.map (some b)) (ek k) (ev v)).run P w = .ok () w' ∧ MgI P K ek dom R dv w' b (n + 1) (fun k' => if k' = k then some v else f k') ∧ Gr b w w' := by
  obtain ⟨D, h1, h2⟩ := h
  obtain ⟨ps, hR⟩ := ER.make v hv
  obtain ⟨w', hr, ho, hg⟩ := h1.update KL ht hn hkey hR
  exact ⟨w', hr, ⟨_, ho, h2.put KL hinj hd hkey v⟩, hg⟩
/-- 'm[k]' at the operation. -/
theorem wpMgLook (w : World) {ops : Array Oper} {rest : List Oper} {o : Oper} {a : Act} {Q : Exit → Act → World → Prop}
    (hg : o.guard = none) (m x : Operand) (t : TypeId) (hop : o.op = Op.lookup t m x false) (ER : ElemR R ev dv okv) {E : TypeId}
    (KL : Keyed P K) (ht : P.underlying t = some (.map K E)) {z : V} (hzo : okv z) (hz : (zeroValue E).run P w = .ok (ev z) w) (b n : Nat) (f : κ → Option V)
    (hm : a.eval m = .map (some b)) (hown : MgI P K ek dom R dv w b n f) (k : κ) (hx : a.eval x = ek k) (hd : dom k) (l : Lit) (hkey : keyOf P K (ek k) = some l)
    (hK : wpList P ops Q rest (a.put o.dst (ev ((f k).getD z))) w) :
    wpList P ops Q (o :: rest) a w := by
  refine wpList_plain hg fun K' hK' => ?_
  obtain ⟨hrun, hwf⟩ := hown.look ER KL ht hzo hz hd hkey
  unfold Oper.wp
  simp [execOp, hop, hm, hx, hrun, Result.andThen]
  exact hK' _ _ hK
/-- 'v, is := m[k]' at the operation. -/
theorem wpMgLookOk (w : World) {ops : Array Oper} {rest : List Oper} {o : Oper} {a : Act} {Q : Exit → Act → World → Prop}
    (hg : o.guard = none) (m x : Operand) (t : TypeId) (hop : o.op = Op.lookup t m x true) (ER : ElemR R ev dv okv) {E : TypeId}
    (KL : Keyed P K) (ht : P.underlying t = some (.map K E)) {z : V} (hzo : okv z) (hz : (zeroValue E).run P w = .ok (ev z) w) (b n : Nat) (f : κ → Option V)
    (hm : a.eval m = .map (some b)) (hown : MgI P K ek dom R dv w b n f) (k : κ) (hx : a.eval x = ek k) (hd : dom k) (l : Lit) (hkey : keyOf P K (ek k) = some l)
    (hK : wpList P ops Q rest (a.put o.dst (.tuple #[ev ((f k).getD z), .bool (f k).isSome])) w) :
    wpList P ops Q (o :: rest) a w := by
  refine wpList_plain hg fun K' hK' => ?_
  obtain ⟨hrun, hwf⟩ := hown.look_ok ER KL ht hzo hz hd hkey
  unfold Oper.wp
  simp [execOp, hop, hm, hx, hrun, Result.andThen]
  exact hK' _ _ hK
/-- 'm[k] = v' at the operation. -/
theorem wpMgPut [DecidableEq κ] (w : World) {ops : Array Oper} {rest : List Oper} {o : Oper} {a : Act} {Q : Exit → Act → World → Prop}
    (hg : o.guard = none) (m x v : Operand) (t : TypeId) (hop : o.op = Op.mapUpdate t m x v) (ER : ElemR R ev dv okv) {E : TypeId}
    (KL : Keyed P K) (hinj : ∀ a b : κ, ek a = ek b → a = b) (ht : P.underlying t = some (.map K E)) (b n : Nat) (f : κ → Option V)
    (hm : a.eval m = .map (some b)) (hown : MgI P K ek dom R dv w b n f) (hn : n < maxLen) (k : κ) (hx : a.eval x = ek k) (hd : dom k) (l : Lit) (hkey : keyOf P K (ek k) = some l)
    (z : V) (hz : a.eval v = ev z) (hwf : okv z)
    (hK : ∀ w', MgI P K ek dom R dv w' b (n + 1) (fun k' => if k' = k then some z else f k') → Gr b w w' → wpList P ops Q rest (a.put o.dst undef) w') :
    wpList P ops Q (o :: rest) a w := by
  refine wpList_plain hg fun K' hK' => ?_
  obtain ⟨w', hrun, r1, r2⟩ := hown.upd ER KL hinj ht hn hd hkey z hwf
  unfold Oper.wp
  simp [execOp, hop, hm, hx, hz, hrun, Result.andThen]
  exact hK' _ _ (hK w' r1 r2)
/-- The number of entries: no more than n. -/
theorem MgI.size {w : World} {b n : Nat} {f : κ → Option V} (h : MgI P K ek dom R dv w b n f) {t E : TypeId} (ht : P.underlying t = some (.map K E)) (ty : TypeId) : ∃ m : Nat, m ≤ n ∧ (Builtin.len_ #[t] ty #[.map (some b)]).run P w = .ok (.int .i64 (m : Int)) w := by
  obtain ⟨D, h1, h2⟩ := h
  refine ⟨Maps.size D, ?_, by simpa using h1.len ht ty⟩
  obtain ⟨es, clock, _, _, h3, rfl⟩ := h1
  rw [size_eq, length_sorted]; simpa using h3
end
end Go.Proofs.YtmpnilliichpfaaGreatDoor
/- Sums by key that a loop over a map collects. Of no program. -/
namespace Go.Proofs.YtmpnilliichpfaaGreatDoor
open Go.RowKit Go.Sort Go.Maps Go.Proofs Go.Shelf

def domS (k : ByteArray) : Prop := k.size ≤ maxLen
def litS (k : ByteArray) : Lit := .string k.data.toList
theorem litS_inj {a b : ByteArray} (h : litS a = litS b) : a = b := data_inj (by unfold litS at h; injection h)
theorem keyS_mk {P : Program} {k : TypeId} (hk : P.underlying k = some .string) {s : ByteArray} (hs : domS s) : keyOf P k (.string s) = some (litS s) := by
  unfold domS at hs
  simp [keyOf, hk, mapKey, hs, litS]
theorem keyS_inv {P : Program} {k : TypeId} (hk : P.underlying k = some .string) {key : Value} {kl : Lit} (h : keyOf P k key = some kl) : ∃ s, key = .string s ∧ domS s ∧ kl = litS s := by
  cases key <;> simp [keyOf, hk, mapKey] at h
  obtain ⟨h1, rfl⟩ := h
  exact ⟨_, rfl, h1, rfl⟩
theorem strV_inj (a b : ByteArray) (h : Value.string a = Value.string b) : a = b := by injection h
theorem sameS_self (s : ByteArray) : (litS s).sameKey (litS s) = true := by simp [litS, Lit.sameKey]

/-- What has been collected while some entries are still to come. -/
structure CollK (f : ByteArray → Option Int) (zero : Bool) (left : Lit → Bool) (L : List Due) : Prop where
  val : ∀ d ∈ L, f d.key = some d.cents ∧ (d.cents ≠ 0 ∨ zero = true)
  gone : ∀ d ∈ L, left (litS d.key) = false
  all_ : ∀ k v, f k = some v → (v ≠ 0 ∨ zero = true) → left (litS k) = false → (⟨k, v⟩ : Due) ∈ L
  nodup : (L.map Due.key).Nodup

theorem collK_start {f : ByteArray → Option Int} {zero : Bool} {left : Lit → Bool} (h : ∀ k, (f k).isSome = true → left (litS k) = true) : CollK f zero left [] :=
  ⟨by simp, by simp, fun k v h1 _ h2 => (by rw [h k (by rw [h1]; rfl)] at h2; cases h2), by simp⟩
theorem collK_step {f : ByteArray → Option Int} {zero : Bool} {left : Lit → Bool} {L : List Due} (h : CollK f zero left L) {k : ByteArray} {v : Int} (hv : f k = some v) (hl : left (litS k) = true)
    (L' : List Due) (hL : L' = if v ≠ 0 ∨ zero = true then L ++ [⟨k, v⟩] else L) : CollK f zero (fun z => left z && !z.sameKey (litS k)) L' := by
  have hself := sameS_self k
  refine ⟨?_, ?_, ?_, ?_⟩
  · intro t ht
    rw [hL] at ht
    split at ht
    · rcases List.mem_append.1 ht with ht | ht
      · exact h.val t ht
      · simp at ht; subst ht; exact ⟨hv, by assumption⟩
    · exact h.val t ht
  · intro t ht
    rw [hL] at ht
    have old : t ∈ L → (left (litS t.key) && !(litS t.key).sameKey (litS k)) = false := fun ht => by rw [h.gone t ht]; rfl
    split at ht
    · rcases List.mem_append.1 ht with ht | ht
      · exact old ht
      · simp at ht; subst ht
        show (left (litS k) && !(litS k).sameKey (litS k)) = false
        rw [hself]; simp
    · exact old ht
  · intro k' v' hv' hz hlf
    by_cases e : k' = k
    · subst e
      rw [hv] at hv'; injection hv' with hv'; subst hv'
      rw [hL, if_pos hz]; simp
    · have hs : (litS k').sameKey (litS k) = false := sameKey_ne (fun e1 => e (litS_inj e1))
      rw [hs] at hlf
      have := h.all_ k' v' hv' hz (by simpa using hlf)
      rw [hL]; split
      · exact List.mem_append_left _ this
      · exact this
  · rw [hL]; split
    · rw [List.map_append, List.nodup_append]
      refine ⟨h.nodup, by simp, fun a ha b hb e => ?_⟩
      simp at hb; subst hb; subst e
      obtain ⟨t, ht, e2⟩ := List.mem_map.1 ha
      have := h.gone t ht
      rw [show t.key = a from e2, hl] at this; cases this
    · exact h.nodup
theorem collK_end {f : ByteArray → Option Int} {zero : Bool} {left : Lit → Bool} {L : List Due} (h : CollK f zero left L) (hl : ∀ kl, left kl = false) {ys : List Due} (hp : ys.Perm L)
    (hs : ∀ i j (hi : i < j) (hj : j < ys.length), ltOf dueC ys[j] (ys[i]'(by omega)) = false) : DuesOf f zero ys := by
  refine ⟨?_, fun d => ?_⟩
  · have hnd : (ys.map Due.key).Nodup := (hp.map Due.key).nodup_iff.2 h.nodup
    rw [List.pairwise_iff_getElem]
    intro i j hi hj hij
    have h1 := hs i j hij hj
    have h2 : ys[i].key ≠ ys[j].key := fun e => by
      have := (List.nodup_iff_pairwise_ne.1 hnd)
      rw [List.pairwise_iff_getElem] at this
      exact this i j (by simpa using hi) (by simpa using hj) hij (by simpa using e)
    rw [due_nlt] at h1
    refine Classical.byContradiction fun hn => h2 (ltS_tri _ _ hn h1)
  · rw [hp.mem_iff]
    constructor
    · intro hd; exact h.val d hd
    · rintro ⟨h1, h2⟩
      exact h.all_ d.key d.cents h1 h2 (hl _)
end Go.Proofs.YtmpnilliichpfaaGreatDoor
