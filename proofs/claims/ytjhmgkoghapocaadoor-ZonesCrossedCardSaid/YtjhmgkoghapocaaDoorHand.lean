/- What is handed out: the reference's. -/
import Derived.Test.YtjhmgkoghapocaaDoorPriced
import Derived.Test.YtjhmgkoghapocaaDoorLib2
import Derived.Laws.OwnMore
namespace Go.Proofs.YtjhmgkoghapocaaDoor
open Go.RowKit Go.Sort Go.Proofs Go.Shelf

theorem run_make_ints (n : Nat) (hn : n ≤ 100000) (w : World) : (Instr.makeSlice 22 (.int .i64 (n : Int)) (.int .i64 (n : Int))).run Tryd.prog w = .ok (.slice (some ⟨w.heap.size, 0, none⟩) n n) (w.alloc (.cells (madeCells #[.int .i64 0] n) 3)) := by
  obtain ⟨i, h1, h2, h3, h4⟩ := info_parts (show (Tryd.prog.info? 3).map (fun i => (i.zero, i.size, i.bytes)) = some (some (.int .i64 0), 1, 8) by kernel_rfl)
  have h := run_make (P := Tryd.prog) w 22 3 i (.int .i64 0) Tryd.underlying22 h1 h2 .i64 .i64 (n : Int) (n : Int) (by omega) (by omega) (by rw [h4]; omega) (by omega)
  rw [h]
  simp [h3, Value.cells]
theorem made_ints (n : Nat) : (madeCells #[.int .i64 0] n).toList = (List.replicate n (0 : Int)).flatMap encI := by
  rw [toList_madeCells_one]
  induction n with
  | zero => rfl
  | succ n ih => rw [List.replicate_succ, List.replicate_succ, List.flatMap_cons, ih]; rfl
theorem own_made (w : World) (n base : Nat) (hn : n ≤ 100000) (hb : base ≤ w.heap.size) {Z : Array Value} (hZ : Z.toList = (List.replicate n (0 : Int)).flatMap encI) : (w.alloc (.cells Z 3)).ownsRow base 3 1 (.slice (some ⟨w.heap.size, 0, none⟩) n n) n ((List.replicate n (0 : Int)).flatMap encI) := by
  have := own_lit (w := w.alloc (.cells Z 3)) (e := 3) (g := w.heap.size) (n := n) (m := n) (base := base) (xs := List.replicate n (0 : Int)) encI_len (hnew rfl) hb hZ (by simp) (Nat.le_refl _) (by unfold maxLen; omega)
  rwa [List.take_of_length_le (by simp)] at this
/-- A list filled up to k, the rest 0. -/
def fillN (L : List Int) (k : Nat) : List Int := L.take k ++ List.replicate (L.length - k) 0
theorem fillN_len (L : List Int) (k : Nat) (hk : k ≤ L.length) : (fillN L k).length = L.length := by unfold fillN; simp; omega
theorem fillN_zero (L : List Int) : fillN L 0 = List.replicate L.length 0 := by simp [fillN]
theorem fillN_all (L : List Int) : fillN L L.length = L := by simp [fillN]
theorem fillN_set (L : List Int) (k : Nat) (hk : k < L.length) : (fillN L k).set k L[k] = fillN L (k + 1) := by
  unfold fillN
  obtain ⟨m, hm⟩ : ∃ m, L.length - k = m + 1 := ⟨L.length - k - 1, by omega⟩
  have hm2 : L.length - (k + 1) = m := by omega
  have hl : (L.take k).length = k := by rw [List.length_take]; omega
  rw [hm, hm2, List.replicate_succ, List.set_append_right _ _ (by omega), hl, Nat.sub_self, List.set_cons_zero, List.take_succ_eq_append_getElem hk, List.append_assoc]; rfl
/-- The first of the greatest of the first k. -/
structure FM (cs : List Int) (k b : Nat) : Prop where
  at_ : b < cs.length
  in_ : b < k ∨ (k = 0 ∧ b = 0)
  up : ∀ j, j < k → cs.getD j 0 < cs.getD b 0 ∨ (cs.getD j 0 = cs.getD b 0 ∧ b ≤ j)
theorem FM.start {cs : List Int} (h : 0 < cs.length) : FM cs 0 0 := ⟨h, .inr ⟨rfl, rfl⟩, fun j hj => by omega⟩
theorem FM.more {cs : List Int} {k b : Nat} (h : FM cs k b) (hk : k < cs.length) (hlt : cs.getD b 0 < cs.getD k 0) : FM cs (k + 1) k :=
  ⟨hk, .inl (by omega), fun j hj => by
    rcases Nat.lt_or_ge j k with h1 | h1
    · have := h.up j h1; omega
    · have e : j = k := by omega
      subst e; exact .inr ⟨rfl, Nat.le_refl _⟩⟩
theorem FM.same {cs : List Int} {k b : Nat} (h : FM cs k b) (hlt : ¬ cs.getD b 0 < cs.getD k 0) : FM cs (k + 1) b :=
  ⟨h.at_, .inl (by have := h.in_; omega), fun j hj => by
    rcases Nat.lt_or_ge j k with h1 | h1
    · exact h.up j h1
    · have e : j = k := by omega
      subst e
      have := h.in_
      omega⟩
theorem FM.done {cs : List Int} {b : Nat} (h : FM cs cs.length b) : FirstMax cs b := ⟨h.at_, h.up⟩
theorem getD_at {l : List Int} {k : Nat} (h : k < l.length) : l.getD k 0 = l[k] := by rw [List.getD_eq_getElem?_getD, List.getElem?_eq_getElem h]; rfl

set_option maxRecDepth 100000 in
set_option maxHeartbeats 4000000 in
theorem w_handed (lo : Nat) (A : Option Addr) (c : Nat) (all F : Int) (nums : List Int) (w : World) (hR : Rd w lo A 1 encI nums) (hl : nums.length < 20) (hF : 1 ≤ F ∧ F ≤ 4611686018427387904) (hn0 : ∀ x ∈ nums, -4611686018427387904 ≤ x ∧ x ≤ 4611686018427387904) (hq0 : ∀ x ∈ nums, -10000000000000 ≤ x / F ∧ x / F ≤ 10000000000000) (hall : 0 ≤ all ∧ all ≤ 1000000000) (hs : sumL nums = F * all) :
    Calls Tryd.prog 55 #[.int .i64 all, .slice A nums.length c, .int .i64 F] w fun e w' => ∃ (A' : Option Addr) (c' : Nat) (zs : List Int), e = .returned (.slice A' zs.length c') ∧ Handed all nums F zs ∧ Rd w' w.heap.size A' 1 encI zs ∧ Nx w w' := by
  have hLb := leftN_bd (nums := nums) (F := F) (c := all) (by omega) hs
  have HQB := hide (fun k => (show -200000000000000 ≤ sumL ((qsN nums F).take k) ∧ sumL ((qsN nums F).take k) ≤ 200000000000000 from by
    have h1 := sumL_bd ((qsN nums F).take k) (-10000000000000) 10000000000000 (fun x hx => by
      have h2 := List.mem_of_mem_take hx
      obtain ⟨y, hy, rfl⟩ := List.mem_map.1 h2
      exact hq0 y hy)
    have h2 : ((qsN nums F).take k).length ≤ (qsN nums F).length := by rw [List.length_take]; omega
    rw [qsN_len] at h2
    omega))
  have HQE := hide (fun q (hq : q ∈ qsN nums F) => (show -10000000000000 ≤ q ∧ q ≤ 10000000000000 from by
    obtain ⟨y, hy, rfl⟩ := List.mem_map.1 hq
    exact hq0 y hy))
  have HRP := hide (fun i => rsN_nonneg (nums := nums) (F := F) (by omega) i)
  generalize hn : nums.length = n at *
  have HR := hide hR
  have HN := hide hn
  have HN0 := hide hn0
  have hql : (qsN nums F).length = n := by rw [qsN_len, hn]
  have hrl : (rsN nums F).length = n := by rw [rsN_len, hn]
  have HQL := hide hql
  have HRL := hide hrl
  clear hR hn hn0 hq0 hs hql hrl
  obtain ⟨Z, hZ⟩ : ∃ Z, Z = madeCells #[.int .i64 0] n := ⟨_, rfl⟩
  have hmk := fun w => run_make_ints n (by omega) w
  have HZ := hide (made_ints n)
  rw [← hZ] at hmk HZ
  clear hZ
  go_enter Tryd.func55, Tryd.ntmps55
  go_wp2
  clear hmk
  have h7 := (own_made w n w.heap.size (by omega) (Nat.le_refl _) HZ.out).alloc (.cells Z 3)
  have h9 := own_made (w.alloc (.cells Z 3)) n w.heap.size (by omega) (by simp) HZ.out
  have hw : Nx w ((w.alloc (.cells Z 3)).alloc (.cells Z 3)) := ((Nx.refl _).alloc _).alloc _
  have hzs : (w.alloc (.cells Z 3)).heap.size = w.heap.size + 1 := by simp
  rw [hzs] at h9
  generalize (w.alloc (.cells Z 3)).alloc (.cells Z 3) = w2 at *
  clear hzs HZ
  rw [show List.replicate n (0 : Int) = fillN (qsN nums F) 0 by rw [fillN_zero, HQL.out]] at h7
  rw [show List.replicate n (0 : Int) = fillN (rsN nums F) 0 by rw [fillN_zero, HRL.out]] at h9
  have H7 := hide h7
  have H9 := hide h9
  clear h7 h9
  go_loopw [8, 10, 11, 23] (fun l _ _ i wr => ∃ k : Nat, k ≤ n ∧ i = .int .i64 k ∧ l = .int .i64 (all - sumL ((qsN nums F).take k)) ∧ wr.ownsRow w.heap.size 3 1 (.slice (some ⟨w.heap.size, 0, none⟩) n n) n ((fillN (qsN nums F) k).flatMap encI) ∧ wr.ownsRow w.heap.size 3 1 (.slice (some ⟨w.heap.size + 1, 0, none⟩) n n) n ((fillN (rsN nums F) k).flatMap encI) ∧ Nx w wr) (fun _ _ _ i _ => n - (intOf i).toNat)
  case atStart => exact ⟨0, Nat.zero_le _, rfl, by simp [sumL], H7.out, H9.out, hw⟩
  case round =>
    clear hw H7 H9
    obtain ⟨k, hk, rfl, rfl, h7, h9, hbw⟩ := hrel
    have hqb := HQB.out k
    have hb7 := h7.lt _ rfl
    have hb9 := h9.lt _ rfl
    by_cases hlt : k < n
    · have hlt' : k < nums.length := by have := HN.out; omega
      obtain ⟨b, off, rfl, _, hb, hbr, hc⟩ := HR.out.open_ hbw (by omega)
      have c0 : wr.cell? ⟨b, off + k, none⟩ = some (.int .i64 nums[k]) := by have := hc k hlt' 0 _ rfl; simpa using this
      clear hc
      have hxb := HN0.out nums[k] (List.getElem_mem hlt')
      have hkq : k < (qsN nums F).length := by rw [HQL.out]; exact hlt
      have hkr : k < (rsN nums F).length := by rw [HRL.out]; exact hlt
      have hfq : (fillN (qsN nums F) k).length = n := by rw [fillN_len _ _ (by omega), HQL.out]
      have hfr : (fillN (rsN nums F) k).length = n := by rw [fillN_len _ _ (by omega), HRL.out]
      have eq1 : (qsN nums F)[k] = nums[k] / F := by simp [qsN]
      have eq2 : (rsN nums F)[k] = nums[k] % F := by simp [rsN]
      have hqe := HQE.out _ (List.getElem_mem hkq)
      have hs7 := fillN_set (qsN nums F) k hkq
      have hs9 := fillN_set (rsN nums F) k hkr
      have hT := sumL_take (qsN nums F) k hkq
      rw [eq1] at hs7 hT hqe
      rw [eq2] at hs9
      have hmod1 := Int.mul_ediv_add_emod nums[k] F
      have hmod2 := Int.emod_nonneg nums[k] (b := F) (by omega)
      have hmod3 := Int.emod_lt_of_pos nums[k] (b := F) (by omega)
      have d7 : wr.cell? ⟨w.heap.size, k, none⟩ = some (.int .i64 ((fillN (qsN nums F) k)[k]'(by omega))) := by have := own_cell encI_len hfq h7 k (by omega) 0 _ rfl; simpa using this
      have d9 : wr.cell? ⟨w.heap.size + 1, k, none⟩ = some (.int .i64 ((fillN (rsN nums F) k)[k]'(by omega))) := by have := own_cell encI_len hfr h9 k (by omega) 0 _ rfl; simpa using this
      have f7 : wr.frozen? ⟨w.heap.size, k, none⟩ = false := h7.frozenAt _
      have f9 : wr.frozen? ⟨w.heap.size + 1, k, none⟩ = false := h9.frozenAt _
      have HFl := hide (fun w => w_floor nums[k] F w (by omega) hxb)
      generalize nums[k] % F = r at *
      generalize nums[k] / F = q at *
      generalize nums[k] = x at *
      have h7s := own_set encI_len hfq h7 k (by omega) 0 (by omega) (.int .i64 q) q rfl k (by omega)
      have h9s := (h9.kept ((Gr.refl w.heap.size _).setS (p := ⟨w.heap.size, k, none⟩) (.inl rfl) (.int .i64 q)) (.inr (by intro e; injection e with e; have e' : w.heap.size + 1 = w.heap.size := e; omega)))
      have h9t := own_set encI_len hfr h9s k (by omega) 0 (by omega) (.int .i64 r) r rfl k (by omega)
      have h7t := (h7s.kept ((Gr.refl (w.heap.size + 1) _).setS (p := ⟨w.heap.size + 1, k, none⟩) (.inl rfl) (.int .i64 r)) (.inr (by intro e; injection e with e; have e' : w.heap.size = w.heap.size + 1 := e; omega)))
      have hbt := (hbw.setCell (p := ⟨w.heap.size, k, none⟩) (Nat.le_refl _) (.int .i64 q)).setCell (p := ⟨w.heap.size + 1, k, none⟩) (by show w.heap.size ≤ w.heap.size + 1; omega) (.int .i64 r)
      have hqF : q * F = x - r := by rw [Int.mul_comm]; omega
      rw [hs7] at h7t
      rw [hs9] at h9t
      have HT := hide hT
      generalize sumL ((qsN nums F).take k) = s at *
      generalize (fillN (qsN nums F) k)[k]'(by omega) = y7 at d7
      generalize (fillN (rsN nums F) k)[k]'(by omega) = y9 at d9
      clear hs7 hs9 hT h7 h9 h7s h9s hmod1 eq1 eq2 hfq hfr
      go_wp2_with (go_at_call 84; refine (HFl.out _).mono ?_; rintro e w' ⟨rfl, rfl⟩)
      rw [show x - (x - r) = r by omega]
      go_roundw
      case rel => exact ⟨k + 1, by omega, by go_num, by rw [HT.out]; go_num, h7t, h9t, hbt⟩
      case measure => simp [intOf]; omega
    · have ek : k = n := by omega
      subst ek
      clear hlt hk
      have e7 : (qsN nums F).take k = qsN nums F := List.take_of_length_le (by have := HQL.out; omega)
      have e8 : fillN (qsN nums F) k = bump (qsN nums F) [] := by rw [bump_nil, ← HQL.out, fillN_all]
      have e9 : fillN (rsN nums F) k = cur (rsN nums F) [] := by
        rw [show cur (rsN nums F) [] = rsN nums F from by apply List.ext_getElem <;> simp [cur], ← HRL.out, fillN_all]
      have HLd := hide (show leftN all nums F = all - sumL (qsN nums F) from rfl)
      rw [e8] at h7
      rw [e9] at h9
      rw [e7, ← HLd.out]
      clear e7 e8 e9
      generalize hLe : leftN all nums F = L at *
      obtain ⟨ln, rfl⟩ := Int.eq_ofNat_of_zero_le hLb.1
      have HLE := hide hLe
      have H7 := hide h7
      have H9 := hide h9
      clear hLe h7 h9 hqb hb7 hb9
      go_wp2_with fail
      go_loopw [8, 12] (fun l _ wr => ∃ T : List Nat, T.length ≤ ln ∧ l = .int .i64 ((ln : Int) - (T.length : Int)) ∧ UpSet (rsN nums F) T ∧ wr.ownsRow w.heap.size 3 1 (.slice (some ⟨w.heap.size, 0, none⟩) k k) k ((bump (qsN nums F) T).flatMap encI) ∧ wr.ownsRow w.heap.size 3 1 (.slice (some ⟨w.heap.size + 1, 0, none⟩) k k) k ((cur (rsN nums F) T).flatMap encI) ∧ Nx w wr) (fun l _ _ => (intOf l).toNat)
      case atStart => exact ⟨[], by simp, by simp, UpSet.nil _, H7.out, H9.out, hbw⟩
      case round =>
        clear hbw H7 H9
        obtain ⟨T, hTl, rfl, hup, h7, h9, hbw⟩ := hrel
        have HUP := hide hup
        have hb7 := h7.lt _ rfl
        have hb9 := h9.lt _ rfl
        have hcl : (cur (rsN nums F) T).length = k := by rw [cur_len, HRL.out]
        have hbl : (bump (qsN nums F) T).length = k := by rw [bump_len, HQL.out]
        have HCL := hide hcl
        have HBL := hide hbl
        have H7 := hide h7
        have H9 := hide h9
        have HNXT := hide (fun (hlt : T.length < ln) b (h : FM (cur (rsN nums F) T) k b) => hup.next (fun i _ => HRP.out i) (by rw [HRL.out]; omega) (by rw [← hcl] at h; exact h.done))
        by_cases hlt : T.length < ln
        · have t1 : decide ((0 : Int) < (ln : Int) - (T.length : Int)) = true := decide_eq_true (by omega)
          have hnx := HNXT.out hlt
          have HNX := hide hnx
          have HST := hide (FM.start (cs := cur (rsN nums F) T) (by omega))
          clear hnx HNXT hup h7 h9 hcl hbl
          go_wp2_with fail
          go_loopw [12, 13, 58] (fun b _ i wr2 => ∃ (m b' : Nat), m ≤ k ∧ i = .int .i64 m ∧ b = .int .i64 b' ∧ FM (cur (rsN nums F) T) m b' ∧ Nx wr wr2) (fun _ _ i _ => k - (intOf i).toNat)
          case atStart => exact ⟨0, 0, Nat.zero_le _, rfl, rfl, HST.out, Nx.refl _⟩
          case round =>
            obtain ⟨m, b, hm, rfl, rfl, hfm, hn2⟩ := hrel
            have HFM := hide hfm
            have hba := hfm.at_
            rw [HCL.out] at hba
            clear hfm
            by_cases hlm : m < k
            · have c9 := own_nx H9.out hn2
              have cm : wr.cell? ⟨w.heap.size + 1, m, none⟩ = some (.int .i64 ((cur (rsN nums F) T).getD m 0)) := by
                have := own_cell encI_len HCL.out c9 m (by have := HCL.out; omega) 0 _ rfl
                rw [getD_at (by have := HCL.out; omega)]; simpa using this
              have cb : wr.cell? ⟨w.heap.size + 1, b, none⟩ = some (.int .i64 ((cur (rsN nums F) T).getD b 0)) := by
                have := own_cell encI_len HCL.out c9 b (by have := HCL.out; omega) 0 _ rfl
                rw [getD_at (by have := HCL.out; omega)]; simpa using this
              clear c9
              have HMO := hide (fun h => HFM.out.more (by have := HCL.out; omega) h)
              have HSA := hide (fun h => HFM.out.same h)
              generalize (cur (rsN nums F) T).getD m 0 = zm at *
              generalize (cur (rsN nums F) T).getD b 0 = zb at *
              have q1 : (0 : Int) ≤ (m : Int) := by omega
              have q2 : (m : Int) < (k : Int) := by omega
              have q3 : (0 : Int) ≤ (b : Int) := by omega
              have q4 : (b : Int) < (k : Int) := by omega
              go_wp2_with fail
              go_quiet (fail)
              by_cases hgt : zb < zm
              · go_wp2
                go_roundw
                case rel => exact ⟨m + 1, m, by omega, by go_num, rfl, HMO.out hgt, hn2.drewN _⟩
                case measure => simp [intOf]; omega
              · go_wp2
                go_roundw
                case rel => exact ⟨m + 1, b, by omega, by go_num, rfl, HSA.out (by omega), hn2.drewN _⟩
                case measure => simp [intOf]; omega
            · have em : m = k := by omega
              subst em
              have hnx := HNX.out b HFM.out
              have h7 := own_nx H7.out hn2
              have h9 := own_nx H9.out hn2
              have hin : b < (bump (qsN nums F) T).length := by rw [HBL.out]; exact hba
              have hin9 : b < (cur (rsN nums F) T).length := by rw [HCL.out]; exact hba
              have hbs := bump_snoc (qsN nums F) T b hnx.1 hin
              have hcs := cur_snoc (rsN nums F) T b
              have hbg := bump_get (qsN nums F) T b hin
              rw [if_neg hnx.1] at hbg
              have hqe := HQE.out _ (List.getElem_mem (l := qsN nums F) (n := b) (by rw [HQL.out]; exact hba))
              rw [← hbg] at hqe
              have HUP2 := hide hnx.2
              have d7 : wr.cell? ⟨w.heap.size, b, none⟩ = some (.int .i64 ((bump (qsN nums F) T)[b]'hin)) := by have := own_cell encI_len HBL.out h7 b hin 0 _ rfl; simpa using this
              have d9 : wr.cell? ⟨w.heap.size + 1, b, none⟩ = some (.int .i64 ((cur (rsN nums F) T)[b]'hin9)) := by have := own_cell encI_len HCL.out h9 b hin9 0 _ rfl; simpa using this
              have f7 : wr.frozen? ⟨w.heap.size, b, none⟩ = false := h7.frozenAt _
              have f9 : wr.frozen? ⟨w.heap.size + 1, b, none⟩ = false := h9.frozenAt _
              clear hbg
              generalize (bump (qsN nums F) T)[b]'hin = z at *
              generalize (cur (rsN nums F) T)[b]'hin9 = z9 at *
              have h7s := own_set encI_len HBL.out h7 b hin 0 (by omega) (.int .i64 (z + 1)) (z + 1) rfl b (by omega)
              have h9s := (h9.kept ((Gr.refl w.heap.size _).setS (p := ⟨w.heap.size, b, none⟩) (.inl rfl) (.int .i64 (z + 1))) (.inr (by intro e; injection e with e; have e' : w.heap.size + 1 = w.heap.size := e; omega)))
              have h9t := own_set encI_len HCL.out h9s b hin9 0 (by omega) (.int .i64 (-1)) (-1) rfl b (by omega)
              have h7t := (h7s.kept ((Gr.refl (w.heap.size + 1) _).setS (p := ⟨w.heap.size + 1, b, none⟩) (.inl rfl) (.int .i64 (-1))) (.inr (by intro e; injection e with e; have e' : w.heap.size = w.heap.size + 1 := e; omega)))
              have hbt := ((hbw.trans hn2).setCell (p := ⟨w.heap.size, b, none⟩) (Nat.le_refl _) (.int .i64 (z + 1))).setCell (p := ⟨w.heap.size + 1, b, none⟩) (by show w.heap.size ≤ w.heap.size + 1; omega) (.int .i64 (-1))
              rw [hbs] at h7t
              rw [hcs] at h9t
              have hn3 := hn2.sz
              clear hbs hcs h7 h9 h7s h9s hnx
              go_wp2
              go_roundw
              case rel => exact ⟨T ++ [b], by simp; omega, by simp; go_num, HUP2.out, h7t, h9t, hbt⟩
              case measure => simp [intOf]; omega
        · have t1 : decide ((0 : Int) < (ln : Int) - (T.length : Int)) = false := decide_eq_false (by omega)
          have HTE := hide (show T.length = ln by omega)
          clear HNXT
          go_wp2
          go_ret
          obtain ⟨A', c', ev, hR', _⟩ := Rd.of_own encI_len HBL.out.symm h7
          refine ⟨A', c', _, congrArg Ending.returned ev, ?_, hR', hbw⟩
          unfold Handed
          rw [HLE.out]
          exact ⟨T, HUP.out, HTE.out, rfl⟩
end Go.Proofs.YtjhmgkoghapocaaDoor
