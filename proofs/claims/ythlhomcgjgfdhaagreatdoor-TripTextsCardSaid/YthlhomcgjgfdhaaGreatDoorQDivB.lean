/- A whole given out by parts: the program's. -/
import Derived.Test.YthlhomcgjgfdhaaGreatDoorQG0
import Derived.Test.YthlhomcgjgfdhaaGreatDoorQG3
namespace Go.Proofs.YthlhomcgjgfdhaaGreatDoor
open Go.RowKit Go.Sort Go.Proofs Go.Shelf

theorem el_Int : ElemOf Tryz.prog 22 3 1 8 := ElemOf.mk' (z := .int .i64 0) Tryz.underlying22 (by kernel_rfl) rfl
theorem el_Rest : ElemOf Tryz.prog 197 203 2 16 := ElemOf.mk' (z := .agg #[.int .i64 0, .int .u64 0]) Tryz.underlying197 (by kernel_rfl) rfl
theorem encI_len (x : Int) : (encI x).length = 1 := rfl
theorem encI_one (x : Int) : ∀ v ∈ encI x, v.oneCell' = true := by
  intro v hv; simp [encI] at hv; subst hv; rfl
/-- Rows of two types lie in blocks of their own. -/
theorem own_apart {w : World} {b1 b2 : Nat} {e1 e2 : TypeId} {K1 K2 n1 n2 : Nat} {v1 v2 : Value} {xs1 xs2 : List Value} (h1 : w.ownsRow b1 e1 K1 v1 n1 xs1) (h2 : w.ownsRow b2 e2 K2 v2 n2 xs2) (hne : e1 ≠ e2) : v1.ownBlock = none ∨ v1.ownBlock ≠ v2.ownBlock := by
  rcases h1.2 with ⟨rfl, _⟩ | ⟨g, cap, cur, rfl, _, hg, _⟩
  · exact .inl rfl
  · right
    intro e
    rcases h2.2 with ⟨rfl, _⟩ | ⟨g2, cap2, cur2, rfl, _, hg2, _⟩
    · cases e
    · have e3 : g = g2 := by injection e
      subst e3
      rw [hg] at hg2
      injection hg2 with hg2
      injection hg2 with _ h2 _
      exact hne h2
theorem sumL_mem : ∀ {l : List Int} {p : Int}, (∀ x ∈ l, 0 ≤ x) → p ∈ l → p ≤ sumL l
  | x :: l, p, h, hp => by
    have h0 := (sumL_bd l 0 0 |> fun f => f) 
    have h1 : 0 ≤ sumL l := by
      clear h0 hp
      induction l with
      | nil => simp [sumL]
      | cons y l ih =>
        have h2 := h y (by simp)
        have h3 := ih (fun z hz => h z (by simp at hz ⊢; rcases hz with rfl | hz <;> simp_all))
        simp only [sumL]; omega
    have hx := h x (by simp)
    simp only [sumL]
    rcases List.mem_cons.1 hp with rfl | hp
    · omega
    · have := sumL_mem (fun z hz => h z (List.mem_cons_of_mem _ hz)) hp
      omega
theorem q_bd {cents S : Int} {parts : List Int} (hc : 0 ≤ cents) (hp : ∀ p ∈ parts, 0 ≤ p) (hS : sumL parts = S) (h0 : 0 < S) : ∀ q ∈ qsN (numsD cents parts) S, 0 ≤ q ∧ q ≤ cents := by
  intro q hq
  unfold qsN numsD at hq
  rw [List.map_map] at hq
  obtain ⟨p, hpm, rfl⟩ := List.mem_map.1 hq
  have h1 := hp p hpm
  have h2 := sumL_mem hp hpm
  rw [hS] at h2
  refine ⟨Int.ediv_nonneg (Int.mul_nonneg hc h1) (by omega), ?_⟩
  refine Int.ediv_le_of_le_mul h0 ?_
  exact Int.mul_le_mul_of_nonneg_left h2 hc
/-- The remainders with their places. -/
def restsN (rs : List Int) (k : Nat) : List (Nat × Int) := (List.range k).map (fun i => (i, rs.getD i 0))
theorem restsN_snoc (rs : List Int) (k : Nat) : restsN rs (k + 1) = restsN rs k ++ [(k, rs.getD k 0)] := by unfold restsN; rw [List.range_succ, List.map_append]; rfl
theorem restsN_len (rs : List Int) (k : Nat) : (restsN rs k).length = k := by simp [restsN]
theorem restsN_pw (rs : List Int) (k : Nat) : (restsN rs k).Pairwise (fun a b => a.1 < b.1) := by
  unfold restsN
  rw [List.pairwise_map]
  exact List.pairwise_lt_range
theorem qs_take (cents S : Int) (parts : List Int) (k : Nat) (hk : k < parts.length) : (qsN (numsD cents parts) S).take (k + 1) = (qsN (numsD cents parts) S).take k ++ [cents * parts[k] / S] := by
  rw [List.take_succ_eq_append_getElem (by unfold qsN numsD; simpa using hk)]
  simp [qsN, numsD]
theorem rs_at (cents S : Int) (parts : List Int) (k : Nat) (hk : k < parts.length) : (rsN (numsD cents parts) S).getD k 0 = cents * parts[k] % S := by
  unfold rsN numsD
  rw [List.getD_eq_getElem?_getD, List.getElem?_eq_getElem (by simpa using hk)]
  simp
set_option maxRecDepth 100000 in
set_option maxHeartbeats 4000000 in
theorem w_DivideB (lo : Nat) (A : Option Addr) (c : Nat) (cents : Int) (parts : List Int) (w : World) (hR : Rd w lo A 1 encI parts) (hl : parts.length < 20) (hc0 : 0 ≤ cents ∧ cents ≤ 1000000000) (hp0 : ∀ p ∈ parts, 0 ≤ p ∧ p ≤ 1000000000) (hs0 : 0 < sumL parts) :
    Calls Tryz.prog 111 #[.int .i64 cents, .slice A parts.length c] w fun e w' => ∃ (A' : Option Addr) (c' : Nat) (zs : List Int), e = .returned (.slice A' zs.length c') ∧ Divided cents parts zs ∧ Rd w' w.heap.size A' 1 encI zs ∧ Nx w w' := by
  obtain ⟨cn, rfl⟩ := Int.eq_ofNat_of_zero_le hc0.1
  generalize hn : parts.length = n at *
  have HR := hide hR
  have HN := hide hn
  have HP := hide hp0
  have HS0 := hide hs0
  clear hR hn hp0 hs0
  have hsb := hide (fun k => sumL_bd (parts.take k) 0 1000000000 (fun x hx => HP.out x (List.mem_of_mem_take hx)))
  go_enter Tryz.func111, Tryz.ntmps111
  go_wp2
  go_loop [5, 7, 21] (fun s _ i => ∃ k : Nat, k ≤ n ∧ i = .int .i64 k ∧ s = .int .i64 (sumL (parts.take k))) (fun _ _ i => n - (intOf i).toNat)
  case atStart => exact ⟨0, Nat.zero_le _, rfl, rfl⟩
  case round =>
    obtain ⟨k, hk, rfl, rfl⟩ := hrel
    have hb := hsb.out k
    have hkl : (parts.take k).length ≤ k := List.length_take_le _ _
    by_cases hlt : k < n
    · have hlt' : k < parts.length := by have := HN.out; omega
      have HT := hide (sumL_take parts k hlt')
      generalize sumL (parts.take k) = s at *
      have hpk := HP.out parts[k] (List.getElem_mem hlt')
      obtain ⟨b, off, rfl, _, hb, _, hc⟩ := HR.out.open_ (Nx.refl w) (by omega)
      have c0 : w.cell? ⟨b, off + k, none⟩ = some (.int .i64 parts[k]) := by have := hc k hlt' 0 _ rfl; simpa using this
      clear hc
      go_wp2
      go_round
      case rel => exact ⟨k + 1, by omega, by go_num, by rw [HT.out]⟩
      case measure => simp [intOf]; omega
    · have HK := hide (show parts.take k = parts from List.take_of_length_le (by have := HN.out; omega))
      have hS1 := HS0.out
      rw [← HK.out] at hS1
      generalize hSd : sumL (parts.take k) = S at *
      have HSD := hide (show sumL parts = S by rw [← HK.out, hSd])
      clear hSd
      have ek : k = n := by omega
      subst ek
      clear hlt hk
      obtain ⟨sn, rfl⟩ := Int.eq_ofNat_of_zero_le (show 0 ≤ S by omega)
      have hsn : 0 < sn := by omega
      have hsn2 : sn ≤ 20000000000 := by omega
      go_wp2_with fail
      obtain ⟨nums, hnums⟩ : ∃ x, x = numsD (cn : Int) parts := ⟨_, rfl⟩
      have HNU := hide hnums
      have hnl : nums.length = k := by rw [hnums]; unfold numsD; rw [List.length_map]; exact HN.out
      have HNL := hide hnl
      clear hnums hnl
      have HQ1 := hide (fun (pn : Nat) (hm : (pn : Int) ∈ parts) => (show 0 ≤ (cn : Int) * (pn : Int) / (sn : Int) ∧ (cn : Int) * (pn : Int) / (sn : Int) ≤ 1000000000 from by
        have := q_bd (cents := (cn : Int)) (by omega) (fun p hp => (HP.out p hp).1) HSD.out (by omega) ((cn : Int) * (pn : Int) / (sn : Int)) (by unfold qsN numsD; rw [List.map_map]; exact List.mem_map.2 ⟨_, hm, rfl⟩)
        omega))
      have HQB := hide (fun j => (show 0 ≤ sumL ((qsN nums sn).take j) ∧ sumL ((qsN nums sn).take j) ≤ 20000000000 from by
        have h1 := sumL_bd ((qsN nums sn).take j) 0 1000000000 (fun x hx => by
          have h2 := List.mem_of_mem_take hx
          rw [HNU.out] at h2
          have := q_bd (cents := (cn : Int)) (by omega) (fun p hp => (HP.out p hp).1) HSD.out (by omega) x h2
          omega)
        have h2 : ((qsN nums sn).take j).length ≤ (qsN nums sn).length := by rw [List.length_take]; omega
        rw [qsN_len, HNL.out] at h2
        omega))
      go_loopw [8, 9, 10, 32] (fun v8 v9 l i wr => ∃ j : Nat, j ≤ k ∧ i = .int .i64 j ∧ wr.ownsRow w.heap.size 3 1 v8 ((qsN nums sn).take j).length (((qsN nums sn).take j).flatMap encI) ∧ wr.ownsRow w.heap.size 203 2 v9 (restsN (rsN nums sn) j).length ((restsN (rsN nums sn) j).flatMap encRest) ∧ l = .int .i64 ((cn : Int) - sumL ((qsN nums sn).take j)) ∧ Nx w wr) (fun _ _ _ i _ => k - (intOf i).toNat)
      case atStart => exact ⟨0, Nat.zero_le _, rfl, World.ownsRow_nil _ _ _ _, World.ownsRow_nil _ _ _ _, by simp [sumL], Nx.refl _⟩
      case round =>
        obtain ⟨j, hj, rfl, h8, h9, rfl, hbw⟩ := hrel
        by_cases hlt : j < k
        · have hlt' : j < parts.length := by have := HN.out; omega
          have hpk := HP.out parts[j] (List.getElem_mem hlt')
          obtain ⟨b, off, rfl, _, hb, hbr, hc⟩ := HR.out.open_ hbw (by omega)
          have c0 : wr.cell? ⟨b, off + j, none⟩ = some (.int .i64 parts[j]) := by have := hc j hlt' 0 _ rfl; simpa using this
          clear hc
          have HT := hide (show (qsN nums sn).take (j + 1) = (qsN nums sn).take j ++ [(cn : Int) * parts[j] / sn] by rw [HNU.out]; exact qs_take _ _ _ _ hlt')
          have HX := hide (show restsN (rsN nums sn) (j + 1) = restsN (rsN nums sn) j ++ [(j, (cn : Int) * parts[j] % sn)] by rw [restsN_snoc, HNU.out, rs_at _ _ _ _ hlt'])
          have hsb8 := HQB.out j
          have hln : ((qsN nums sn).take j).length ≤ j := List.length_take_le _ _
          have hln9 : (restsN (rsN nums sn) j).length = j := restsN_len _ _
          have HLN9 := hide hln9
          clear hln9
          generalize (qsN nums sn).take j = L8 at *
          generalize restsN (rsN nums sn) j = L9 at *
          obtain ⟨pn, hpn⟩ := Int.eq_ofNat_of_zero_le hpk.1
          rw [hpn] at c0 hpk HT HX
          have hmb : cn * pn ≤ 1000000000 * 1000000000 := Nat.mul_le_mul (by omega) (by omega)
          have hqb := HQ1.out pn (by rw [← hpn]; exact List.getElem_mem hlt')
          have eq1 : (cn : Int) * (pn : Int) / (sn : Int) = ((cn * pn / sn : Nat) : Int) := by rw [Int.natCast_ediv, Int.natCast_mul]
          have eq2 : (cn : Int) * (pn : Int) % (sn : Int) = ((cn * pn % sn : Nat) : Int) := by rw [Int.natCast_emod, Int.natCast_mul]
          rw [eq1] at HT hqb
          rw [eq2] at HX
          clear hpn eq1 eq2
          generalize hz : cn * pn = z at *
          have hrb : z % sn < sn := Nat.mod_lt _ hsn
          generalize hqd : z / sn = q at *
          generalize hrd : z % sn = r at *
          have HM := hide (fun w => w_Mul64 cn pn z w (by omega) (by omega) hz)
          have HDv := hide (fun w => w_Div64 z sn q r w (by omega) hsn (by omega) hqd hrd)
          have HAP := hide (own_apart h8 h9 (by decide))
          have HAP2 := hide (own_apart h9 h8 (by decide))
          clear hz hqd hrd
          have u1 : IntKind.u64.wrap (cn : Int) = (cn : Int) := by rw [IntKind.wrap_u64]; omega
          have u2 : IntKind.u64.wrap (pn : Int) = (pn : Int) := by rw [IntKind.wrap_u64]; omega
          have u3 : IntKind.u64.wrap (sn : Int) = (sn : Int) := by rw [IntKind.wrap_u64]; omega
          have hsz := hbw.sz
          go_wp2_with (first
            | (go_at_call 147; refine (HM.out _).mono ?_; rintro e w1 ⟨rfl, rfl⟩)
            | (go_at_call 148; refine (HDv.out _).mono ?_; rintro e w1 ⟨rfl, m1, rfl⟩)
            | (at_builtin; refine wpApp rfl _ _ _ rfl el_Int encI encI_len encI_one (by omega) (by omega) w.heap.size _ L8 rfl ((own_nx h8 ((Nx.refl _).drewN m1)).alloc _) _ (q : Int) _ rfl (hnew rfl) rfl (by omega) (by simp; omega) ?_; intro v2 w2 hown2 hg2; (have h9' := ((own_nx h9 ((Nx.refl _).drewN m1)).alloc (.cells #[.int .i64 (q : Int)] 3)).kept hg2 HAP2.out); (have hbw2 := ((hbw.drewN m1).alloc (.cells #[.int .i64 (q : Int)] 3)).grown hg2 (own_blk_lt h8)))
            | (at_builtin; refine wpApp rfl _ _ _ rfl el_Rest encRest encRest_len encRest_one (by omega) (by omega) w.heap.size _ L9 rfl (h9'.alloc _) _ (j, (r : Int)) _ rfl (hnew rfl) rfl (by have := HLN9.out; omega) (by have := hbw2.sz; simp; omega) ?_; intro v3 w3 hown3 hg3))
          have h8' := (hown2.alloc (.cells #[.int .i64 (j : Int), .int .u64 (r : Int)] 203)).kept hg3 (own_apart hown2 h9' (by decide))
          have hbw3 := (hbw2.alloc (.cells #[.int .i64 (j : Int), .int .u64 (r : Int)] 203)).grown hg3 (own_blk_lt h9')
          go_roundw
          case rel => exact ⟨j + 1, by omega, by go_num, by rw [HT.out]; exact h8', by rw [HX.out]; exact hown3, by rw [HT.out, sumL_snoc]; go_num, hbw3⟩
          case measure => simp [intOf]; omega
        · have ej : j = k := by omega
          subst ej
          clear hlt hj
          have hql : (qsN nums sn).length = j := by rw [qsN_len, HNL.out]
          have hrl : (rsN nums sn).length = j := by rw [rsN_len, HNL.out]
          have hj1 : 0 < j := by
            rcases Nat.eq_zero_or_pos j with h0 | h0
            · have e1 : parts = [] := List.eq_nil_of_length_eq_zero (by rw [HN.out, h0])
              have e2 := HSD.out
              rw [e1] at e2
              simp only [sumL] at e2
              omega
            · exact h0
          rw [restsN_len] at h9
          have e8 : (qsN nums sn).take j = qsN nums sn := List.take_of_length_le (by omega)
          rw [e8] at h8 ⊢
          rw [hql] at h8
          have hLb := leftN_bd (nums := nums) (F := (sn : Int)) (c := (cn : Int)) (by omega) (by rw [HNU.out, numsD_sum, HSD.out])
          have HLd := hide (show leftN (cn : Int) nums sn = (cn : Int) - sumL (qsN nums sn) from rfl)
          rw [← HLd.out]
          rw [HNL.out] at hLb
          generalize hLe : leftN (cn : Int) nums sn = L at *
          obtain ⟨ln, rfl⟩ := Int.eq_ofNat_of_zero_le hLb.1
          have HLE := hide hLe
          have hR9 := hide hrl
          have hQ8 := hide hql
          clear hLe e8 hql
          have HAP := own_apart h8 h9 (by decide)
          have HAP2 := own_apart h9 h8 (by decide)
          rcases h9.2 with ⟨rfl, h0⟩ | ⟨g9, cap9, cur9, rfl, hg9, hh9, hjc9, hcm9, _⟩
          · omega
          rcases h8.2 with ⟨rfl, h0⟩ | ⟨g8, cap8, cur8, rfl, hg8, hh8, _, _⟩
          · omega
          clear hh9 hh8
          have HSo := hide (fun W (h : W.ownsRow w.heap.size 203 2 (.slice (some ⟨g9, 0, none⟩) j cap9) j ((restsN (rsN nums sn) j).flatMap encRest)) => w_SortRests (w := W) (restsN (rsN nums sn) j) (restsN_len _ _) hl (restsN_pw _ _) h)
          have hne : g8 ≠ g9 := by
            rcases HAP with h | h
            · cases h
            · intro e; exact h (by rw [e]; rfl)
          unfold maxLen at hcm9
          go_wp2_with (go_at_call 149; refine (HSo.out _ h9).mono ?_; rintro e w3 ⟨rfl, ys, hperm, hpw, h9', hgr9⟩)
          have h8' := h8.kept hgr9 HAP
          have hbw3 := hbw.grown hgr9 (fun k hk => by injection hk with hk; omega)
          have HUP := hide (fun m => sorted_up (rs := rsN nums sn) (ys := ys) (by rw [hR9.out]; exact hperm) hpw m)
          have hyl : ys.length = j := by rw [hperm.length_eq, restsN_len]
          have HYL := hide hyl
          have HYM := hide (fun a (ha : a ∈ ys) => (show a.1 < j from by
            have := hperm.mem_iff.1 ha
            unfold restsN at this
            obtain ⟨i, hi, rfl⟩ := List.mem_map.1 this
            exact List.mem_range.1 hi))
          have HQE := hide (fun q (hq : q ∈ qsN nums sn) => (show 0 ≤ q ∧ q ≤ 1000000000 from by
            rw [HNU.out] at hq
            have := q_bd (cents := (cn : Int)) (by omega) (fun p hp => (HP.out p hp).1) HSD.out (by omega) q hq
            omega))
          clear hyl hperm hpw HAP HAP2 h8 h9 hbw
          go_loopw [18, 75] (fun _ i wr => ∃ m : Nat, m ≤ ln ∧ i = .int .i64 m ∧ wr.ownsRow w.heap.size 3 1 (.slice (some ⟨g8, 0, none⟩) j cap8) j ((bump (qsN nums sn) ((ys.map (·.1)).take m)).flatMap encI) ∧ wr.ownsRow w.heap.size 203 2 (.slice (some ⟨g9, 0, none⟩) j cap9) j (ys.flatMap encRest) ∧ Nx w wr) (fun _ i _ => ln - (intOf i).toNat)
          case atStart => exact ⟨0, Nat.zero_le _, rfl, by rw [List.take_zero, bump_nil]; exact h8', h9', hbw3⟩
          case round =>
            clear h8' h9' hbw3
            obtain ⟨m, hm, rfl, h8, h9, hbw⟩ := hrel
            by_cases hlt : m < ln
            · have hmy : m < ys.length := by have := HYL.out; omega
              have hcx : ((ys.map (·.1)).take (m + 1)) = (ys.map (·.1)).take m ++ [ys[m].1] := by rw [List.take_succ_eq_append_getElem (by simpa using hmy)]; simp
              have hnd := (HUP.out (m + 1)).nd
              rw [hcx] at hnd
              have hnot : ys[m].1 ∉ (ys.map (·.1)).take m := fun h => (List.nodup_append.1 hnd).2.2 _ h _ (by simp) rfl
              have haj := HYM.out ys[m] (List.getElem_mem hmy)
              have c0 : wr.cell? ⟨g9, m * 2, none⟩ = some (.int .i64 (ys[m].1 : Int)) := own_cell encRest_len HYL.out h9 m hmy 0 _ rfl
              have c1 : wr.cell? ⟨g9, m * 2 + 1, none⟩ = some (.int .u64 ys[m].2) := own_cell encRest_len HYL.out h9 m hmy 1 _ rfl
              have hbl : (bump (qsN nums sn) ((ys.map (·.1)).take m)).length = j := by rw [bump_len, hQ8.out]
              have hin : ys[m].1 < (bump (qsN nums sn) ((ys.map (·.1)).take m)).length := by omega
              have hbs := bump_snoc (qsN nums sn) _ _ hnot hin
              have hbg := bump_get (qsN nums sn) ((ys.map (·.1)).take m) ys[m].1 hin
              rw [if_neg hnot] at hbg
              have hqb := HQE.out _ (List.getElem_mem (l := qsN nums sn) (n := ys[m].1) (by rw [hQ8.out]; exact haj))
              rw [← hbg] at hqb
              have d0 : wr.cell? ⟨g8, ys[m].1, none⟩ = some (.int .i64 ((bump (qsN nums sn) ((ys.map (·.1)).take m))[ys[m].1]'hin)) := by have := own_cell encI_len hbl h8 ys[m].1 hin 0 _ rfl; simpa using this
              have f0 : wr.frozen? ⟨g8, ys[m].1, none⟩ = false := h8.frozenAt _
              rw [← hcx] at hbs
              clear hbg hnd hnot hcx
              generalize (bump (qsN nums sn) ((ys.map (·.1)).take m)) = B at *
              have HBS := hide hbs
              clear hbs
              have hlt8 := h8.lt g8 rfl
              have hlt9 := h9.lt g9 rfl
              have h8s := (own_set encI_len hbl h8 ys[m].1 hin 0 (by omega) (.int .i64 (B[ys[m].1]'hin + 1)) (B[ys[m].1]'hin + 1) rfl ys[m].1 (by omega)).alloc (.cells #[.int .i64 (ys[m].1 : Int), .int .u64 ys[m].2] 203)
              have h9s := (h9.kept ((Gr.refl g8 _).setS (p := ⟨g8, ys[m].1, none⟩) (.inl rfl) (.int .i64 (B[ys[m].1]'hin + 1))) (.inr (by intro e; injection e with e; exact hne e.symm))).alloc (.cells #[.int .i64 (ys[m].1 : Int), .int .u64 ys[m].2] 203)
              have hbws := (hbw.setCell (p := ⟨g8, ys[m].1, none⟩) hg8 (.int .i64 (B[ys[m].1]'hin + 1))).alloc (.cells #[.int .i64 (ys[m].1 : Int), .int .u64 ys[m].2] 203)
              generalize (B[ys[m].1]'hin) = z at *
              generalize hyd : ys[m].1 = a at *
              generalize ys[m].2 = r2 at *
              go_wp2
              go_roundw
              case rel => exact ⟨m + 1, by omega, by go_num, by rw [← HBS.out]; exact h8s, h9s, hbws⟩
              case measure => simp [intOf]; omega
            · have em : m = ln := by omega
              go_wp2
              go_ret
              have hz : (bump (qsN nums sn) ((ys.map (·.1)).take m)).length = j := by rw [bump_len, hQ8.out]
              obtain ⟨A', c', ev, hR', _⟩ := Rd.of_own encI_len hz.symm h8
              refine ⟨A', c', _, congrArg Ending.returned ev, ?_, hR', hbw⟩
              unfold Divided Handed
              rw [HSD.out, ← HNU.out, HLE.out]
              refine ⟨_, HUP.out m, ?_, rfl⟩
              rw [List.length_take, List.length_map, HYL.out, em]
              show min ln j = ((ln : Nat) : Int).toNat
              rw [Int.toNat_natCast]
              omega
end Go.Proofs.YthlhomcgjgfdhaaGreatDoor
