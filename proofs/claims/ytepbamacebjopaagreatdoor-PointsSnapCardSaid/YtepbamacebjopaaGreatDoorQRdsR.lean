/- The stream's right roads. -/
import Derived.Test.YtepbamacebjopaaGreatDoorQG23
import Derived.Test.YtepbamacebjopaaGreatDoorQG34
import Derived.Test.YtepbamacebjopaaGreatDoorQShelfI
import Derived.Deep.DeepCutAuto
import Derived.Deep.AppendLies
namespace Go.Proofs.YtepbamacebjopaaGreatDoor
open Go.RowKit Go.Proofs Go.Shelf

/-- Right roads: three rows of the call's own. -/
def StrRR (s k : Nat) (w : World) (e : Ending) (w' : World) : Prop :=
  ∃ (vN vA vB : Value) (ns : List Node) (rs : List Arc) (bs : List Ban), e = .returned (.agg #[vN, vA, vB]) ∧ OwnR w' w.heap.size vN vA vB ns rs bs ∧ 0 < ns.length ∧ ns.length ≤ 5 ∧ rs.length ≤ 9 ∧ bs.length ≤ 100 ∧ Gr s w w' ∧ Str w' s k
theorem w_Itoa (n : Nat) (w : World) (hn : n < 100) : Calls Tryz.prog 68 #[.int .i64 (n : Int)] w fun e w' => ∃ t : ByteArray, e = .returned (.string t) ∧ t.size ≤ 1000 ∧ w = w' := by
  refine (Any.strconv_Itoa_small Tryz.itoa n hn w).mono ?_
  rintro e w' ⟨rfl, rfl⟩
  refine ⟨_, rfl, ?_, rfl⟩
  show (Lib.decDigits n).toArray.size ≤ 1000
  rw [List.size_toArray]
  by_cases h : n < 10
  · rw [Lib.decDigits_one h]; simp
  · rw [Lib.decDigits_two h hn]; simp
theorem own_neT {w : World} {base : Nat} {e t : TypeId} {K n : Nat} {v : Value} {xs : List Value} {G : Nat} {cs : Array Value} (h : w.ownsRow base e K v n xs) (hb : w.heap[G]? = some (.cells cs t (0, 0))) (hne : t ≠ e) : v.ownBlock ≠ some G := by
  rcases h.2 with ⟨rfl, _⟩ | ⟨g, cap, cur, rfl, _, hg, _⟩
  · intro e; cases e
  · intro e
    injection e with e
    subst e
    rw [hb] at hg
    injection hg with hg
    injection hg with _ h2 _
    exact hne h2
theorem nLs_getD (i : Nat) : (nLs.getD i default).size ≤ 1000000 := by
  rcases Nat.lt_or_ge i nLs.length with h | h
  · rw [List.getD_eq_getElem?_getD, List.getElem?_eq_getElem h]; exact nLs_small _ (List.getElem_mem h)
  · rw [List.getD_eq_getElem?_getD, List.getElem?_eq_none h]; decide
theorem RM.litc {w0 w : World} {s K : Nat} {vN vA vB : Value} {ns : List Node} {rs : List Arc} {bs : List Ban} (h : RM w0 s w vN vA vB ns rs bs K) (i : Nat) (hi : i < 5) : w.cell? ⟨w0.heap.size + 1 + 1, i, none⟩ = some (.string (nLs.getD i default)) := by
  have hi' : i < nLs.length := hi
  refine (cell_of_row w _ i _ _ _ h.lit).trans ?_
  rw [← Array.getElem?_toList]
  simp [List.getElem?_map, List.getElem?_eq_getElem hi']
set_option maxRecDepth 100000 in
set_option maxHeartbeats 8000000 in
theorem w_RightRoads (s k : Nat) (w : World) (hS : Str w s k) (hk : k < 600000) :
    Calls Tryz.prog 27 #[.pointer (some ⟨s, 0, none⟩)] w (StrRR s (k + 400) w) := by
  have hsl := hS.lt
  have HZ : ∃ Z : Array Value, Z = #[.slice none 0 0, .slice none 0 0, .slice none 0 0] := ⟨_, rfl⟩
  obtain ⟨wI, hwI⟩ : ∃ wI, wI = ((w.alloc (.cells #[.slice none 0 0, .slice none 0 0, .slice none 0 0] 30)).alloc (.cells #[.slice none 0 0, .slice none 0 0, .slice none 0 0] 30)).alloc (.cells #[.string ⟨#[110, 97]⟩, .string ⟨#[110, 98]⟩, .string ⟨#[110, 99]⟩, .string ⟨#[110, 100]⟩, .string ⟨#[110, 101]⟩] 9) := ⟨_, rfl⟩
  have hRM0 : RM w s wI (.slice none 0 0) (.slice none 0 0) (.slice none 0 0) [] [] [] k := by
    have n3 : Nx w wI := by rw [hwI]; exact (((Nx.refl w).alloc _).alloc _).alloc _
    refine ⟨OwnR.nil _ _, ?_, ⟨#[.slice none 0 0, .slice none 0 0, .slice none 0 0], ?_, rfl⟩, ?_, Gr.of_nx n3, hS.nx n3, hsl⟩
    · rw [hwI]
      exact ((((Nx.refl _).alloc _).block _ (by simp)).trans (hnew (by simp)))
    · rw [hwI]
      exact (((((Nx.refl _).alloc _).alloc _).block _ (by simp)).trans (hnew rfl))
    · rw [hwI]
      exact hnew (by simp)
  have HRM0 := hide hRM0
  clear hRM0 HZ hS
  go_enter Tryz.func27, Tryz.ntmps27
  go_wp2_with fail
  rw [← hwI]
  have HWI := hide hwI
  clear hwI
  refine (w_Range 2 5 _ _ _ HRM0.out.str (by omega) (by omega) (by omega)).mono ?_
  rintro e w1 ⟨q, hq1, hq2, rfl, hg1, hS1⟩
  have HRM1 := hide (HRM0.out.gr hg1 hS1)
  obtain ⟨q, rfl⟩ := Int.eq_ofNat_of_zero_le (show 0 ≤ q by omega)
  clear HRM0 hg1 hS1
  go_wp2_with fail
  go_loopw [20] (fun i wr => ∃ (j : Nat) (vN : Value) (ns : List Node), j ≤ q ∧ i = .int .i64 j ∧ ns.length = j ∧ RM w s wr vN (.slice none 0 0) (.slice none 0 0) ns [] [] (k + 1 + 2 * j)) (fun i _ => q - (intOf i).toNat)
  case atStart => exact ⟨0, _, [], Nat.zero_le _, rfl, rfl, HRM1.out⟩
  case round =>
    clear HRM1
    obtain ⟨j, vN, ns, hj, rfl, hnl, hRM⟩ := hrel
    by_cases hlt : j < q
    · have hjn : j < nLs.length := by show j < 5; omega
      have c0 : wr.cell? ⟨w.heap.size + 1 + 1, j, none⟩ = some (.string nLs[j]) := (cell_of_row wr _ j _ _ _ hRM.lit).trans (by rw [← Array.getElem?_toList]; simp [List.getElem?_map, List.getElem?_eq_getElem hjn])
      have hks := nLs_small _ (List.getElem_mem hjn)
      generalize nLs[j] = ky at *
      have cb : wr.cell? ⟨w.heap.size + 1, 0, none⟩ = some vN := hRM.cellN
      have cbA : ∀ o, (wr.alloc o).cell? ⟨w.heap.size + 1, 0, none⟩ = some vN := fun o => (hRM.nx ((Nx.refl wr).alloc o)).cellN
      have cbB : ∀ o1 o2, ((wr.alloc o1).alloc o2).cell? ⟨w.heap.size + 1, 0, none⟩ = some vN := fun o1 o2 => (hRM.nx (((Nx.refl wr).alloc o1).alloc o2)).cellN
      have hSr := hRM.str
      have hsr := hSr.lt
      have HRM := hide hRM
      have HNL := hide hnl
      have hnl5 : ns.length ≤ 5 := by omega
      clear hnl
      obtain ⟨iN, zN, e1, e2, e3, e4, e5⟩ := el_NodeO.hi
      have E1 := hide e1
      have E2 := hide e2
      have E3 := hide e3
      have E4 := hide e4
      have E5 := hide e5
      clear hRM e1 e2 e3 e4 e5
      go_upto_region 6 with fail
      go_region_law
        (first
          | (go_simp; go_at_call 5; refine (w_PickI _ [0, 10, 40, -20, -10000] _ _ _ _ (hS2.nx (by repeat (first | with_reducible exact Nx.refl _ | with_reducible refine Nx.drew ?_ | with_reducible refine Nx.alloc ?_ _))) (by omega) (by first | exact hnew (by simp) | exact (World.grownBy.block (row := some s) hg2 _ (by simp <;> omega) (by simp <;> omega)).trans (blkA _ _ _) | exact (World.grownBy.block (row := some s) hg2 _ (by simp <;> omega) (by simp <;> omega)).trans (blkB _ _ _)) (by omega) rfl (by simp) (by simp)).mono ?_; rintro e w3 ⟨r2, _, rfl, hg3, hS3⟩; (have hRM3 := hRM2.gr (Gr.trans (by repeat (first | with_reducible exact Gr.refl _ _ | with_reducible refine Gr.drew ?_ | with_reducible refine Gr.alloc ?_ _)) hg3) hS3); (have cb3 := hRM3.cellN); (have cb3A : ∀ o, (w3.alloc o).cell? ⟨w.heap.size + 1, 0, none⟩ = some vN := fun o => (hRM3.nx ((Nx.refl w3).alloc o)).cellN))
          | (go_simp; go_at_call 5; refine (w_PickI _ [0, 10, 50, -30, 10000] _ _ _ _ (hSr.nx (by repeat (first | with_reducible exact Nx.refl _ | with_reducible refine Nx.drew ?_ | with_reducible refine Nx.alloc ?_ _))) (by omega) (by first | exact blkA _ _ _ | exact blkB _ _ _ | exact hnew_drew (by simp)) (by omega) rfl (by simp) (by simp)).mono ?_; rintro e w2 ⟨r1, _, rfl, hg2, hS2⟩; (have hRM2 := HRM.out.gr (Gr.trans (by repeat (first | with_reducible exact Gr.refl _ _ | with_reducible refine Gr.drew ?_ | with_reducible refine Gr.alloc ?_ _)) hg2) hS2); (have hs2 := hS2.lt); (have cb2 := hRM2.cellN); (have cb2A : ∀ o, (w2.alloc o).cell? ⟨w.heap.size + 1, 0, none⟩ = some vN := fun o => (hRM2.nx ((Nx.refl w2).alloc o)).cellN))
          | (refine step_append_lies _ rfl _ _ _ rfl (w.heap.size + 3) _ iN zN 3 32 Tryz.underlying26 E1.out E2.out E3.out E4.out E5.out (by omega) vN ns.length (ns.flatMap encNode) rfl (hRM3.own.rowN.alloc _) _ 1 1 [.string ky, .int .i64 r1, .int .i64 r2] rfl rfl (news_of (hnew rfl) rfl) (by intro u hu; simp at hu; rcases hu with rfl | rfl | rfl <;> rfl) (by omega) (by unfold maxLen; omega) (by omega) (by have := hRM3.sz; simp; omega) _ rfl ?_; intro g5 c5 w5 hown5 hg5 hat5 hlt5; (have hRM4 := hRM3.nx ((Nx.refl w3).alloc (.cells #[.string ky, .int .i64 r1, .int .i64 r2] 74))); (have hb5 := hRM4.blk hg5 (own_blk_lt hRM4.own.rowN)); (have hd5 : w5.cell? ⟨w.heap.size + 1, 0, none⟩ = some vN := cell_of_row w5 _ 0 _ _ _ hb5); (have hf5 : w5.frozen? ⟨w.heap.size + 1, 0, none⟩ = false := frozen_blk hb5)))
      all_goals
        go_wp2_with fail
        have hsm : SmallN (ns ++ [⟨ky, r1, r2⟩]) := by
          intro x hx
          rcases List.mem_append.1 hx with hx | hx
          · exact HRM.out.own.smN x hx
          · simp at hx; subst hx; exact hks
        have hRM5 := RM.set (j := 0) hRM4 hg5 (own_blk_lt hRM4.own.rowN) (hRM4.own.appN (ns' := ns ++ [⟨ky, r1, r2⟩]) hg5 (by rw [List.length_append, List.flatMap_append]; exact hown5) hsm) rfl
        go_roundw
        case rel => exact ⟨j + 1, _, _, by omega, by go_num, by rw [List.length_append, HNL.out]; rfl, hRM5.more (by omega)⟩
        case measure => simp [intOf]; omega
    · obtain rfl : q = j := by omega
      clear hlt
      go_wp2_with fail
      have hn0 : 0 < ns.length := by omega
      refine (w_Range 0 9 _ _ _ hRM.str (by omega) (by omega) (by omega)).mono ?_
      rintro e w2 ⟨m, hm1, hm2, rfl, hg2, hS2⟩
      obtain ⟨m, rfl⟩ := Int.eq_ofNat_of_zero_le (show 0 ≤ m by omega)
      have HRM2 := hide (hRM.gr hg2 hS2)
      clear hRM hg2 hS2
      go_wp2_with fail
      go_loopw [40] (fun i wr => ∃ (j : Nat) (vA : Value) (rs : List Arc), j ≤ m ∧ i = .int .i64 j ∧ rs.length ≤ j ∧ RM w s wr vN vA (.slice none 0 0) ns rs [] (k + 12 + 24 * j)) (fun i _ => m - (intOf i).toNat)
      case atStart => exact ⟨0, _, [], Nat.zero_le _, rfl, Nat.le_refl _, HRM2.out.more (by omega)⟩
      case round =>
        clear HRM2
        obtain ⟨j, vA, rs, hj, rfl, hrl, hRM⟩ := hrel
        by_cases hlt : j < m
        · have hSr := hRM.str
          have hsr := hSr.lt
          have hszr := hRM.sz
          have HRM := hide hRM
          clear hRM
          go_upto_region 11 with fail
          have q1 : (1 : Int) ≤ (q : Int) := by omega
          go_cut [8, 9] (fun v8 v9 wx => ∃ s1 s2 : ByteArray, v8 = .string s1 ∧ v9 = .string s2 ∧ s1.size ≤ 1000000 ∧ s2.size ≤ 1000000 ∧ RM w s wx vN vA (.slice none 0 0) ns rs [] (k + 12 + 24 * j + 2))
          case first =>
            have hq5 : q ≤ 5 := by omega
            go_region_law
              (first
                | (go_simp; go_at_call 28; refine (w_Next (q : Int) _ _ _ hS3 (by omega) (by omega)).mono ?_; rintro e w4 ⟨x2, hx21, hx22, rfl, hg4, hS4⟩; (obtain ⟨x2, rfl⟩ := Int.eq_ofNat_of_zero_le hx21); (have hRM4 := hRM3.gr hg4 hS4); (have hx23 : (x2 : Int) < (q : Int) := by omega); (have d3 := hRM4.litc x1 (by omega)); (have d4 := hRM4.litc x2 (by omega)))
                | (go_simp; go_at_call 28; refine (w_Next (q : Int) _ _ _ (hSr.nx (Nx.refl wr).drew) (by omega) (by omega)).mono ?_; rintro e w3 ⟨x1, hx11, hx12, rfl, hg3, hS3⟩; (obtain ⟨x1, rfl⟩ := Int.eq_ofNat_of_zero_le hx11); (have hRM3 := HRM.out.gr ((Gr.refl s wr).drew.trans hg3) hS3); (have hx13 : (x1 : Int) < (q : Int) := by omega); (have d1 := hRM3.litc x1 (by omega))))
            all_goals
              go_wp2
              go_meet
              exact ⟨_, _, rfl, rfl, nLs_getD _, nLs_getD _, hRM4⟩
          case rest =>
            obtain ⟨s1, s2, rfl, rfl, hs1, hs2, hRM3⟩ := hcut
            by_cases hne : s1 = s2
            · have te : (s1.toList == s2.toList) = true := by rw [eqS_iff]; exact decide_eq_true hne
              clear hne
              go_wp2_with fail
              go_roundw
              case rel => exact ⟨j + 1, vA, rs, by omega, by go_num, by omega, hRM3.more (by omega)⟩
              case measure => simp [intOf]; omega
            · have te : (s1.toList == s2.toList) = false := by rw [eqS_iff]; exact decide_eq_false hne
              clear hne
              go_upto_region 13 with fail
              have cb : wc.cell? ⟨w.heap.size + 1, 1, none⟩ = some vA := hRM3.cellA
              have cbA : ∀ o, (wc.alloc o).cell? ⟨w.heap.size + 1, 1, none⟩ = some vA := fun o => (hRM3.nx ((Nx.refl wc).alloc o)).cellA
              have HRM3 := hide hRM3
              have hs3 := hRM3.str.lt
              have hz3 := hRM3.sz
              obtain ⟨iA, zA, e1, e2, e3, e4, e5⟩ := el_ArcO.hi
              have E1 := hide e1
              have E2 := hide e2
              have E3 := hide e3
              have E4 := hide e4
              have E5 := hide e5
              have j100 : j < 100 := by omega
              clear hRM3 e1 e2 e3 e4 e5
              go_region_law
                (first
                  | (go_simp; go_at_call 68; refine (w_Itoa j _ j100).mono ?_; rintro e w' ⟨tx, rfl, htx, rfl⟩; (have hcat : ¬ 9223372036854775807 < 1 + tx.size := by omega))
                  | (go_simp; go_at_call 5; refine (w_PickI _ [1, 100, 950, 2000] _ _ _ _ (HRM3.out.str.nx (by repeat (first | with_reducible exact Nx.refl _ | with_reducible refine Nx.drew ?_ | with_reducible refine Nx.alloc ?_ _))) (by omega) (hnew_drew (by simp)) (by omega) rfl (by simp) (by simp)).mono ?_; rintro e w4 ⟨r1, _, rfl, hg4, hS4⟩; (have hRM4 := HRM3.out.gr (Gr.trans (by repeat (first | with_reducible exact Gr.refl _ _ | with_reducible refine Gr.drew ?_ | with_reducible refine Gr.alloc ?_ _)) hg4) hS4); (have hz4 := hRM4.sz); (have cb4 := hRM4.cellA))
                  | (go_simp; go_at_call 30; refine (w_knots s _ _ hS4 (by omega)).mono ?_; rintro e w5 ⟨v5, l5, rfl, hown5, hl5, hg5, hS5⟩; (obtain ⟨A5, c5, rfl, _, _⟩ := Rd.of_own encKnot_len rfl hown5); (have hRM5 := hRM4.gr hg5 hS5); (have cb5 := hRM5.cellA); (have cb5A : ∀ o, (w5.alloc o).cell? ⟨w.heap.size + 1, 1, none⟩ = some vA := fun o => (hRM5.nx ((Nx.refl w5).alloc o)).cellA); (have HK5 := hide hown5); clear hown5)
                  | (refine step_append_lies _ rfl _ _ _ rfl (w.heap.size + 3) _ iA zA 5 80 Tryz.underlying27 E1.out E2.out E3.out E4.out E5.out (by omega) vA rs.length (rs.flatMap encArc) rfl (hRM5.own.rowA.alloc _) _ 1 1 [.string _, .string s1, .string s2, .int .i64 r1, .slice A5 l5.length c5] rfl rfl (news_of (hnew rfl) rfl) (by intro u hu; simp at hu; rcases hu with rfl | rfl | rfl | rfl | rfl <;> rfl) (by omega) (by unfold maxLen; omega) (by omega) (by have := hRM5.sz; simp; omega) _ rfl ?_; intro g6 c6 w6 hown6 hg6 hat6 hlt6; (have hb6 := (hRM5.nx ((Nx.refl w5).alloc _)).blk hg6 (own_blk_lt hRM5.own.rowA)); (have hd6 : w6.cell? ⟨w.heap.size + 1, 1, none⟩ = some vA := cell_of_row w6 _ 1 _ _ _ hb6); (have hf6 : w6.frozen? ⟨w.heap.size + 1, 1, none⟩ = false := frozen_blk hb6)))
              all_goals
                go_wp2_with fail
                have hRM6 := hRM5.nx ((Nx.refl w5).alloc (.cells #[.string (⟨#[97]⟩ ++ tx), .string s1, .string s2, .int .i64 r1, .slice A5 l5.length c5] 37))
                have hRM7 := RM.set (j := 1) hRM6 hg6 (own_blk_lt hRM6.own.rowA) (hRM6.own.appA (rs' := rs ++ [⟨⟨#[97]⟩ ++ tx, s1, s2, r1, A5, c5, l5⟩]) hg6 (by rw [List.length_append, List.flatMap_append]; exact hown6) (fun a ha => by
                  rcases List.mem_append.1 ha with ha | ha
                  · exact ⟨hRM6.own.smA a ha, hRM6.own.each a ha⟩
                  · simp at ha
                    subst ha
                    exact ⟨⟨by show l5.length ≤ 400; omega, by show (_ : ByteArray).size ≤ 1000000; rw [ByteArray.size_append]; show 1 + tx.size ≤ 1000000; omega, hs1, hs2⟩, (HK5.out.mono (by omega)).alloc _⟩)) rfl
                go_roundw
                case rel => exact ⟨j + 1, _, _, by omega, by go_num, by rw [List.length_append]; show rs.length + 1 ≤ j + 1; omega, hRM7.more (by omega)⟩
                case measure => simp [intOf]; omega
        · obtain rfl : m = j := by omega
          clear hlt
          obtain ⟨A, B, C, ca, cb, cc, e1, e2, e3, hRN, hRA, hRB⟩ := hRM.own.rd
          subst e1 e2
          clear e3 hRB hRN hRA
          have hrl9 : rs.length ≤ 9 := by omega
          have hRMb := hRM.more (show k + 12 + 24 * m ≤ k + 240 by omega)
          have bx1 := hRMb.cellA
          have HRMb := hide hRMb
          have HS := hide hRMb.own.smA
          clear hRM hRMb
          generalize hnn : rs.length = n at *
          have HN := hide hnn
          clear hnn
          go_wp2_with fail
          clear bx1
          go_loopw [80] (fun i wr => ∃ (i' : Nat) (vB : Value) (bs : List Ban), i' ≤ n ∧ i = .int .i64 i' ∧ bs.length ≤ 10 * i' ∧ RM w s wr (.slice A ns.length ca) (.slice B n cb) vB ns rs bs (k + 240 + 10 * i')) (fun i _ => n - (intOf i).toNat)
          case atStart => exact ⟨0, _, [], Nat.zero_le _, rfl, Nat.le_refl _, HRMb.out⟩
          case round =>
            clear HRMb
            obtain ⟨i, vB, bs, hi, rfl, hbl, hRM⟩ := hrel
            by_cases hlt : i < n
            · have hi' : i < rs.length := by have := HN.out; omega
              have hrow := hRM.own.rowA
              rw [← HN.out] at hrow
              have hRA := rd_ownK encArc_len rfl hrow
              obtain ⟨b, off, rfl, _, hb, hbr, hc⟩ := hRA.open_ (Nx.refl _) (by omega)
              have c0 : wr.cell? ⟨b, off + i * 5, none⟩ = some (.string rs[i].key) := hc i hi' 0 _ rfl
              have c1 : wr.cell? ⟨b, off + i * 5 + 1, none⟩ = some (.string rs[i].from_) := hc i hi' 1 _ rfl
              have c2 : wr.cell? ⟨b, off + i * 5 + 2, none⟩ = some (.string rs[i].to_) := hc i hi' 2 _ rfl
              have c3 : wr.cell? ⟨b, off + i * 5 + 3, none⟩ = some (.int .i64 rs[i].long) := hc i hi' 3 _ rfl
              have c4 : wr.cell? ⟨b, off + i * 5 + 4, none⟩ = some (.slice rs[i].ka rs[i].knots.length rs[i].kc) := hc i hi' 4 _ rfl
              generalize rs[i] = x at *
              generalize x.knots.length = xn at *
              have bx1 : ∀ o, (wr.alloc o).cell? ⟨w.heap.size + 1, 1, none⟩ = some (.slice (some ⟨b, off, none⟩) n cb) := fun o => (hRM.nx ((Nx.refl wr).alloc o)).cellA
              have hRMk := hRM.nx ((Nx.refl wr).alloc (.cells #[.string x.key, .string x.from_, .string x.to_, .int .i64 x.long, .slice x.ka xn x.kc] 37))
              have hblk : (wr.alloc (.cells #[.string x.key, .string x.from_, .string x.to_, .int .i64 x.long, .slice x.ka xn x.kc] 37)).heap[wr.heap.size]? = some (.cells #[.string x.key, .string x.from_, .string x.to_, .int .i64 x.long, .slice x.ka xn x.kc] 37 (0, 0)) := hnew rfl
              have hg11 : w.heap.size + 2 < wr.heap.size := hRM.sz
              have hs11 : s < wr.heap.size := hRM.str.lt
              have HRMK := hide (And.intro hRMk hblk)
              clear hRMk hblk hRM hrow hRA hc
              go_wp2_with fail
              generalize wr.heap.size = g11 at *
              clear bx1 c0 c1 c2 c3 c4
              go_loopw [87] (fun i2 wi => ∃ (j2 : Nat) (vB : Value) (bs : List Ban), j2 ≤ n ∧ i2 = .int .i64 j2 ∧ bs.length ≤ 10 * i + j2 ∧ RM w s wi (.slice A ns.length ca) (.slice (some ⟨b, off, none⟩) n cb) vB ns rs bs (k + 240 + 10 * i + j2) ∧ wi.heap[g11]? = some (.cells #[.string x.key, .string x.from_, .string x.to_, .int .i64 x.long, .slice x.ka xn x.kc] 37 (0, 0))) (fun i2 _ => n - (intOf i2).toNat)
              case atStart => exact ⟨0, vB, bs, Nat.zero_le _, rfl, by omega, HRMK.out.1, HRMK.out.2⟩
              case round =>
                clear HRMK hbl
                obtain ⟨j2, vB, bs, hj2, rfl, hbl, hRM, hblk⟩ := hrel
                by_cases hlt2 : j2 < n
                · have hj' : j2 < rs.length := by have := HN.out; omega
                  have hrow := hRM.own.rowA
                  rw [← HN.out] at hrow
                  have hRA := rd_ownK encArc_len rfl hrow
                  obtain ⟨b', off', ebo, _, _, hbr2, hc⟩ := hRA.open_ (Nx.refl _) (by omega)
                  injection ebo with ebo
                  injection ebo with eb1 eb2 eb3
                  subst eb1 eb2
                  have c0 : wr.cell? ⟨b, off + j2 * 5, none⟩ = some (.string rs[j2].key) := hc j2 hj' 0 _ rfl
                  have c1 : wr.cell? ⟨b, off + j2 * 5 + 1, none⟩ = some (.string rs[j2].from_) := hc j2 hj' 1 _ rfl
                  have c2 : wr.cell? ⟨b, off + j2 * 5 + 2, none⟩ = some (.string rs[j2].to_) := hc j2 hj' 2 _ rfl
                  have c3 : wr.cell? ⟨b, off + j2 * 5 + 3, none⟩ = some (.int .i64 rs[j2].long) := hc j2 hj' 3 _ rfl
                  have c4 : wr.cell? ⟨b, off + j2 * 5 + 4, none⟩ = some (.slice rs[j2].ka rs[j2].knots.length rs[j2].kc) := hc j2 hj' 4 _ rfl
                  generalize rs[j2] = y at *
                  generalize y.knots.length = yn at *
                  clear hrow hRA hc
                  go_upto_region 21 with fail
                  have hRMj := hRM.nx ((Nx.refl wr).alloc (.cells #[.string y.key, .string y.from_, .string y.to_, .int .i64 y.long, .slice y.ka yn y.kc] 37))
                  have hb11 : (wr.alloc (.cells #[.string y.key, .string y.from_, .string y.to_, .int .i64 y.long, .slice y.ka yn y.kc] 37)).heap[g11]? = some (.cells #[.string x.key, .string x.from_, .string x.to_, .int .i64 x.long, .slice x.ka xn x.kc] 37 (0, 0)) := (((Nx.refl wr).alloc _).block _ (Array.getElem?_eq_some_iff.1 hblk).1).trans hblk
                  have hb13 : (wr.alloc (.cells #[.string y.key, .string y.from_, .string y.to_, .int .i64 y.long, .slice y.ka yn y.kc] 37)).heap[wr.heap.size]? = some (.cells #[.string y.key, .string y.from_, .string y.to_, .int .i64 y.long, .slice y.ka yn y.kc] 37 (0, 0)) := hnew rfl
                  have hg13 : s < wr.heap.size := hRM.str.lt
                  clear hRM hblk c0 c1 c2 c3 c4
                  generalize wr.alloc (.cells #[.string y.key, .string y.from_, .string y.to_, .int .i64 y.long, .slice y.ka yn y.kc] 37) = wj at *
                  generalize wr.heap.size = g13 at *
                  have d0 : wj.cell? ⟨g11, 0, none⟩ = some (.string x.key) := cell_of_row wj _ 0 _ _ _ hb11
                  have d2 : wj.cell? ⟨g11, 2, none⟩ = some (.string x.to_) := cell_of_row wj _ 2 _ _ _ hb11
                  have d3 : wj.cell? ⟨g13, 0, none⟩ = some (.string y.key) := cell_of_row wj _ 0 _ _ _ hb13
                  have d4 : wj.cell? ⟨g13, 1, none⟩ = some (.string y.from_) := cell_of_row wj _ 1 _ _ _ hb13
                  by_cases heq : x.to_ = y.from_
                  · have te : (x.to_.toList == y.from_.toList) = true := by rw [eqS_iff]; exact decide_eq_true heq
                    clear heq
                    go_wp2_with fail
                    refine (w_Flip 6 _ _ _ hRMj.str (by omega) (by omega)).mono ?_
                    rintro e w4 ⟨fl, rfl, hg4, hS4⟩
                    have hRM4 := hRMj.gr hg4 hS4
                    have hc11 := (World.grownBy.block (row := some s) hg4 _ (Array.getElem?_eq_some_iff.1 hb11).1 (by simp; omega)).trans hb11
                    have hc13 := (World.grownBy.block (row := some s) hg4 _ (Array.getElem?_eq_some_iff.1 hb13).1 (by simp; omega)).trans hb13
                    clear hRMj hg4 hS4 d0 d2 d3 d4 hb11 hb13
                    cases fl
                    · go_wp2_with fail
                      go_roundw
                      case rel => exact ⟨j2 + 1, vB, bs, by omega, by go_num, by omega, hRM4.more (by omega), hc11⟩
                      case measure => simp [intOf]; omega
                    · have d0 : w4.cell? ⟨g11, 0, none⟩ = some (.string x.key) := cell_of_row w4 _ 0 _ _ _ hc11
                      have d3 : w4.cell? ⟨g13, 0, none⟩ = some (.string y.key) := cell_of_row w4 _ 0 _ _ _ hc13
                      have cb2 : w4.cell? ⟨w.heap.size + 1, 2, none⟩ = some vB := hRM4.cellB
                      have hRM5 := hRM4.nx ((Nx.refl w4).alloc (.cells #[.string x.key, .string y.key] 80))
                      have hc11' := (((Nx.refl w4).alloc (.cells #[.string x.key, .string y.key] 80)).block _ (Array.getElem?_eq_some_iff.1 hc11).1).trans hc11
                      have HRM5 := hide hRM5
                      have hsz4 := hRM4.sz
                      have HC11 := hide hc11'
                      clear hRM5 hRM4 hc11 hc13 hc11'
                      go_wp2_with (at_builtin; refine wpApp rfl _ _ _ rfl el_BanO encBan encBan_len encBan_one (by omega) (by omega) (w.heap.size + 3) vB bs rfl HRM5.out.own.rowB _ ⟨x.key, y.key⟩ _ rfl (hnew rfl) rfl (by omega) (by simp; omega) ?_; intro v5 w5 hown5 hg5; (obtain ⟨A5, c5, rfl, _, _⟩ := Rd.of_own encBan_len rfl hown5); (have hb5 := HRM5.out.blk hg5 (own_blk_lt HRM5.out.own.rowB)); (have hd5 : w5.cell? ⟨w.heap.size + 1, 2, none⟩ = some vB := cell_of_row w5 _ 2 _ _ _ hb5); (have hf5 : w5.frozen? ⟨w.heap.size + 1, 2, none⟩ = false := frozen_blk hb5); (have HO5 := hide hown5); clear hown5)
                      have hRM6 : RM w s (w5.setCell ⟨w.heap.size + 1, 2, none⟩ (.slice A5 (bs.length + 1) c5)) (.slice A ns.length ca) (.slice (some ⟨b, off, none⟩) n cb) (.slice A5 (bs.length + 1) c5) ns rs (bs ++ [⟨x.key, y.key⟩]) (k + 240 + 10 * i + j2 + 1) := by
                        have h := RM.set (j := 2) HRM5.out hg5 (own_blk_lt HRM5.out.own.rowB) (HRM5.out.own.appB hg5 HO5.out) rfl
                        rw [List.length_append] at h
                        exact h
                      have hc5 := (World.grownBy.block hg5 _ (Array.getElem?_eq_some_iff.1 HC11.out).1 (fun e => own_neT HRM5.out.own.rowB HC11.out (by decide) e.symm)).trans HC11.out
                      have hc6 := fun u => (World.grownBy.block (row := some (w.heap.size + 1)) ((Gr.refl (w.heap.size + 1) w5).setS (p := ⟨w.heap.size + 1, 2, none⟩) (.inl rfl) u) _ (Array.getElem?_eq_some_iff.1 hc5).1 (by simp; omega)).trans hc5
                      go_roundw
                      case rel => exact ⟨j2 + 1, _, bs ++ [⟨x.key, y.key⟩], by omega, by go_num, by rw [List.length_append]; show bs.length + 1 ≤ _; omega, hRM6.more (by omega), hc6 _⟩
                      case measure => simp [intOf]; omega
                  · have te : (x.to_.toList == y.from_.toList) = false := by rw [eqS_iff]; exact decide_eq_false heq
                    clear heq
                    go_wp2_with fail
                    go_roundw
                    case rel => exact ⟨j2 + 1, vB, bs, by omega, by go_num, by omega, hRMj.more (by omega), hb11⟩
                    case measure => simp [intOf]; omega
                · obtain rfl : n = j2 := by omega
                  go_wp2_with fail
                  go_roundw
                  case rel => exact ⟨i + 1, vB, bs, by omega, by go_num, by omega, hRM.more (by omega)⟩
                  case measure => simp [intOf]; omega
            · obtain rfl : n = i := by omega
              obtain ⟨_, _, C', _, _, cc', _, _, e3, _, _, _⟩ := hRM.own.rd
              subst e3
              have hres := hRM.res
              have bb0 := hRM.cellN
              have bb1 := hRM.cellA
              have bb2 := hRM.cellB
              obtain ⟨cs, hr1, hr2⟩ := hres
              have hf : ∀ j, wr.frozen? ⟨w.heap.size, j, none⟩ = false := fun j => frozen_blk hr1
              have s0 : wr.cell? ⟨w.heap.size, 0, none⟩ = some (cs[0]'(by omega)) := (cell_of_row wr _ 0 _ _ _ hr1).trans (Array.getElem?_eq_getElem (by omega))
              have s1 : wr.cell? ⟨w.heap.size, 1, none⟩ = some (cs[1]'(by omega)) := (cell_of_row wr _ 1 _ _ _ hr1).trans (Array.getElem?_eq_getElem (by omega))
              have s2 : wr.cell? ⟨w.heap.size, 2, none⟩ = some (cs[2]'(by omega)) := (cell_of_row wr _ 2 _ _ _ hr1).trans (Array.getElem?_eq_getElem (by omega))
              have hf0 := hf 0
              have hf1 := hf 1
              have hf2 := hf 2
              generalize cs[0] = y0 at *
              generalize cs[1] = y1 at *
              generalize cs[2] = y2 at *
              clear hf
              go_wp2_with fail
              have hset : ∀ u0 u1 u2, Gr w.heap.size wr (((wr.setCell ⟨w.heap.size, 0, none⟩ u0).setCell ⟨w.heap.size, 1, none⟩ u1).setCell ⟨w.heap.size, 2, none⟩ u2) := fun u0 u1 u2 => (((Gr.refl _ wr).setS (p := ⟨w.heap.size, 0, none⟩) (.inl rfl) u0).setS (p := ⟨w.heap.size, 1, none⟩) (.inl rfl) u1).setS (p := ⟨w.heap.size, 2, none⟩) (.inl rfl) u2
              have z0 : ∀ u0 u1 u2, (((wr.setCell ⟨w.heap.size, 0, none⟩ u0).setCell ⟨w.heap.size, 1, none⟩ u1).setCell ⟨w.heap.size, 2, none⟩ u2).cell? ⟨w.heap.size, 0, none⟩ = some u0 := fun u0 u1 u2 => cell_of_row _ _ 0 _ _ _ (heap_set (i := 2) (u := u2) (heap_set (i := 1) (u := u1) (heap_set (i := 0) (u := u0) hr1))) |>.trans (by simp [hr2])
              have z1 : ∀ u0 u1 u2, (((wr.setCell ⟨w.heap.size, 0, none⟩ u0).setCell ⟨w.heap.size, 1, none⟩ u1).setCell ⟨w.heap.size, 2, none⟩ u2).cell? ⟨w.heap.size, 1, none⟩ = some u1 := fun u0 u1 u2 => cell_of_row _ _ 1 _ _ _ (heap_set (i := 2) (u := u2) (heap_set (i := 1) (u := u1) (heap_set (i := 0) (u := u0) hr1))) |>.trans (by simp [hr2])
              have z2 : ∀ u0 u1 u2, (((wr.setCell ⟨w.heap.size, 0, none⟩ u0).setCell ⟨w.heap.size, 1, none⟩ u1).setCell ⟨w.heap.size, 2, none⟩ u2).cell? ⟨w.heap.size, 2, none⟩ = some u2 := fun u0 u1 u2 => cell_of_row _ _ 2 _ _ _ (heap_set (i := 2) (u := u2) (heap_set (i := 1) (u := u1) (heap_set (i := 0) (u := u0) hr1))) |>.trans (by simp [hr2])
              refine bodyPost_ret (v := .agg #[.slice A ns.length ca, .slice B rs.length cb, .slice C' bs.length cc']) (by simp [results, Tryz.results27, go_sem, z0, z1, z2, hnl]) rfl ?_
              exact ⟨_, _, _, ns, rs, bs, rfl, (hRM.own.gr (hset _ _ _) (by omega)).low (by omega), hn0, by omega, by omega, by omega,
                ((hRM.gr_.setS (p := ⟨w.heap.size, 0, none⟩) (.inr (Nat.le_refl _)) _).setS (p := ⟨w.heap.size, 1, none⟩) (.inr (Nat.le_refl _)) _).setS (p := ⟨w.heap.size, 2, none⟩) (.inr (Nat.le_refl _)) _,
                (hRM.str.row (hset _ _ _) (fun j hj => by injection hj with hj; omega)).more (by omega)⟩
end Go.Proofs.YtepbamacebjopaaGreatDoor
