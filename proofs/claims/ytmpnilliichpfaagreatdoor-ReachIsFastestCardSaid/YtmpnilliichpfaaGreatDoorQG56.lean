/- slices.Equal of two rows of pairs that are the same. -/
import Derived.Test.YtmpnilliichpfaaGreatDoorQG8
import Derived.Test.YtmpnilliichpfaaGreatDoorQG11
import Derived.Test.YtmpnilliichpfaaGreatDoorQG3
import Derived.Laws.StructEq
import Derived.Deep.DeepCutAuto
import Derived.Test.YtmpnilliichpfaaGreatDoorQG13
import Derived.Test.YtmpnilliichpfaaGreatDoorQG46
import Derived.Test.YtmpnilliichpfaaGreatDoorQG21
import Derived.Test.YtmpnilliichpfaaGreatDoorQSrchV
namespace Go.Proofs.YtmpnilliichpfaaGreatDoor
open Go.RowKit

theorem gd_Pair : Tryz.prog.eqGuardType Tryz.prog.depth 99 = false := by kernel_rfl
theorem sin_Pair (d : Nat) (x y a b : ByteArray) (w : World) : (Op.equalIn (d + 2) 99 (.agg #[.string x, .string y]) (.agg #[.string a, .string b])).run Tryz.prog w = .ok (x.toList == a.toList && y.toList == b.toList) w := by
  have u3 := Tryz.underlying9
  have a3 := Tryz.isAgg9
  have z3 := Tryz.sizeOf9
  have hS : Tryz.prog.underlying 99 = some (.struct (Tryz.prog.fieldsOf 99)) := by kernel_rfl
  have hp : Tryz.prog.stoodInHeld 99 = false := by kernel_rfl
  rw [run_equalIn_agg w (d + 1) 99 _ _ hS hp]
  simp only [Program.fieldsOf, Tryz.underlying99]
  go_simp
  cases h1 : x.toList == a.toList <;> cases h2 : y.toList == b.toList <;> simp_all
theorem neq_Pair (x y a b : ByteArray) (w : World) : (binOp .neq 99 (.agg #[.string x, .string y]) (.agg #[.string a, .string b])).run Tryz.prog w = .ok (.bool (!(x.toList == a.toList && y.toList == b.toList))) w := by
  rw [run_neq_struct, show (10000 : Nat) = 9998 + 2 from rfl, sin_Pair]; rfl
attribute [local go_sem ↓] neq_Pair

end Go.Proofs.YtmpnilliichpfaaGreatDoor
/- Is a name among pairs? -/
namespace Go.Proofs.YtmpnilliichpfaaGreatDoor
open Go.RowKit

set_option maxRecDepth 100000 in
set_option maxHeartbeats 1000000 in
theorem w_IndexFP (g : Nat) (p : PairS → Bool) (cap : Value) (eg : Enters g) (lo : Nat) (A : Option Addr) (c : Nat) (l : List PairS) (w : World) (hcl : ∀ (y : PairS) W, Nx w W → Calls Tryz.prog g #[.agg #[.string y.name, .string y.val], cap] W fun e w' => e = .returned (.bool (p y)) ∧ Nx W w')
    (hR : Rd w lo A 2 encPair l) (hl : l.length ≤ 65536) :
    Calls Tryz.prog 128 #[.slice A l.length c, .func (.func g) #[] #[cap]] w fun e w' => e = .returned (.int .i64 (findI p l)) ∧ Nx w w' := by
  generalize hn : l.length = n at *
  have HR := hide hR
  have HN := hide hn
  have HC0 := hide hcl
  clear hR hn hcl
  unfold Enters at eg
  go_enter Tryz.func128, Tryz.ntmps128
  go_wp2
  go_loopw [5, 8] (fun _ i wr => ∃ k : Nat, k ≤ n ∧ i = .int .i64 k ∧ Nx w wr ∧ findI p l = idxP p (l.drop k) k) (fun _ i _ => n - (intOf i).toNat)
  case atStart => exact ⟨0, Nat.zero_le _, rfl, Nx.refl _, rfl⟩
  case round =>
    obtain ⟨k, hk, rfl, hbw, hq⟩ := hrel
    have HQ := hide hq
    clear hq
    by_cases hlt : k < n
    · have hlt' : k < l.length := by have := HN.out; omega
      obtain ⟨b, off, rfl, _, hb, hbr, hc⟩ := HR.out.open_ hbw (by omega)
      have c0 : wr.cell? ⟨b, off + k * 2, none⟩ = some (.string l[k].name) := hc k hlt' 0 _ rfl
      have c1 : wr.cell? ⟨b, off + k * 2 + 1, none⟩ = some (.string l[k].val) := hc k hlt' 1 _ rfl
      clear hc
      have HD := hide (idxP_drop p l k hlt')
      have hcl := fun W (h : Nx w W) => HC0.out l[k] W h
      generalize l[k] = y at *
      cases hbig : p y
      all_goals
        have HB := hide hbig
        rw [hbig] at hcl
        have HCL := hide hcl
        clear hbig hcl
        go_wp2_with (go_at_fn g; refine (HCL.out _ hbw).mono ?_; rintro e w2 ⟨rfl, hn2⟩)
      · go_roundw
        case rel => exact ⟨k + 1, by omega, by go_num, hbw.trans hn2, by rw [HQ.out, HD.out, HB.out, if_neg (by simp)]⟩
        case measure => simp [intOf]; omega
      · go_ret
        exact ⟨ret_int (by rw [HQ.out, HD.out, HB.out, if_pos rfl]), hbw.trans hn2⟩
    · go_wp2
      go_ret
      exact ⟨ret_int (by rw [HQ.out, List.drop_of_length_le (by have := HN.out; omega)]; rfl), hbw⟩
set_option maxRecDepth 100000 in
set_option maxHeartbeats 1000000 in
theorem w_ContFP (g : Nat) (p : PairS → Bool) (cap : Value) (eg : Enters g) (lo : Nat) (A : Option Addr) (c : Nat) (l : List PairS) (w : World) (hcl : ∀ (y : PairS) W, Nx w W → Calls Tryz.prog g #[.agg #[.string y.name, .string y.val], cap] W fun e w' => e = .returned (.bool (p y)) ∧ Nx W w')
    (hR : Rd w lo A 2 encPair l) (hl : l.length ≤ 65536) :
    Calls Tryz.prog 53 #[.slice A l.length c, .func (.func g) #[] #[cap]] w fun e w' => e = .returned (.bool (l.any p)) ∧ Nx w w' := by
  have HC := hide (w_IndexFP g p cap eg lo A c l w hcl hR hl)
  have HA := hide (idxP_any p l 0)
  rw [show idxP p l 0 = findI p l from rfl] at HA
  generalize findI p l = r at *
  generalize l.any p = z at *
  clear hcl eg hR hl
  generalize l.length = n at *
  have h1 := HA.out
  have h2 : decide (r ≥ 0) = z := h1
  go_enter Tryz.func53, Tryz.ntmps53
  go_wp2_with (go_at_call 128; refine HC.out.mono ?_; rintro e w2 ⟨rfl, hn2⟩)
  go_ret
  exact ⟨rfl, hn2⟩
theorem w_ris1 (s : ByteArray) (y : PairS) (q : Nat) (w : World) (hq : w.cell? ⟨q, 0, none⟩ = some (.string s)) (hql : q < w.heap.size) :
    Calls Tryz.prog 54 #[.agg #[.string y.name, .string y.val], .pointer (some ⟨q, 0, none⟩)] w fun e w' => e = .returned (.bool (decide (y.name = s))) ∧ Nx w w' := by
  have hq2 : ∀ o, (w.alloc o).cell? ⟨q, 0, none⟩ = some (.string s) := fun o => nx_cell ((Nx.refl w).alloc o) hql hq
  go_enter Tryz.func54, Tryz.ntmps54
  go_wp2
  go_ret
  exact ⟨congrArg (fun b => Ending.returned (.bool b)) (eqS_iff _ _), (Nx.refl _).alloc _⟩
theorem w_ris2 (s : ByteArray) (y : PairS) (q : Nat) (w : World) (hq : w.cell? ⟨q, 0, none⟩ = some (.string s)) (hql : q < w.heap.size) :
    Calls Tryz.prog 55 #[.agg #[.string y.name, .string y.val], .pointer (some ⟨q, 0, none⟩)] w fun e w' => e = .returned (.bool (decide (y.name = s))) ∧ Nx w w' := by
  have hq2 : ∀ o, (w.alloc o).cell? ⟨q, 0, none⟩ = some (.string s) := fun o => nx_cell ((Nx.refl w).alloc o) hql hq
  go_enter Tryz.func55, Tryz.ntmps55
  go_wp2
  go_ret
  exact ⟨congrArg (fun b => Ending.returned (.bool b)) (eqS_iff _ _), (Nx.refl _).alloc _⟩
theorem eg_ris1 : Enters 54 := enters_of Tryz.func54 (by kernel_rfl) rfl
theorem eg_ris2 : Enters 55 := enters_of Tryz.func55 (by kernel_rfl) rfl
end Go.Proofs.YtmpnilliichpfaaGreatDoor
/- The nodes that are reached in a time: the program. -/
namespace Go.Proofs.YtmpnilliichpfaaGreatDoor
open Go.RowKit

theorem el_Pair : ElemOf Tryz.prog 94 99 2 32 := ElemOf.mk' (z := .agg #[.string ByteArray.empty, .string ByteArray.empty]) Tryz.underlying94 (by kernel_rfl) rfl
def ReachOut (w : World) (L : List PairS) (F : Int) (e : Ending) (w' : World) : Prop := ∃ (Z : Option Addr) (c : Nat), e = .returned (.tuple #[.slice Z L.length c, .int .i64 F]) ∧ Rd w' 0 Z 2 encPair L ∧ Nx w w'
set_option maxRecDepth 100000 in
set_option maxHeartbeats 8000000 in
theorem w_Reach (lo : Nat) (A B C : Option Addr) (ca cb cc : Nat) (ns : List Node) (rs : List Arc) (bs : List Ban) (f : ByteArray) (ad wi : Int) (w : World)
    (hN : Rd w lo A 3 encNode ns) (hA : RdArcs w lo B rs) (hB : Rd w lo C 2 encBan bs) (hnl : ns.length ≤ 400) (hal : rs.length ≤ 400) (hbl : bs.length ≤ 400) (hS : SmallN ns) (htab : PowTab w) :
    Calls Tryz.prog 52 #[.agg #[.slice A ns.length ca, .slice B rs.length cb, .slice C bs.length cc], .string f, .int .i64 ad, .int .i64 wi] w (ReachOut w (reachL ns rs bs f ad wi) (reachF ns rs bs f ad wi)) := by
  obtain ⟨wa, hwa⟩ : ∃ wa, wa = w.alloc (.cells #[.slice A ns.length ca, .slice B rs.length cb, .slice C bs.length cc] 30) := ⟨_, rfl⟩
  have hna : Nx w wa := hwa ▸ (Nx.refl w).alloc _
  have hgw : w.heap.size < wa.heap.size := by rw [hwa]; simp
  have b0 : wa.cell? ⟨w.heap.size, 0, none⟩ = some (.slice A ns.length ca) := by rw [hwa]; go_simp
  have b1 : wa.cell? ⟨w.heap.size, 1, none⟩ = some (.slice B rs.length cb) := by rw [hwa]; go_simp
  have b2 : wa.cell? ⟨w.heap.size, 2, none⟩ = some (.slice C bs.length cc) := by rw [hwa]; go_simp
  have hBox : BoxR wa w.heap.size lo A B C ca cb cc ns rs bs := ⟨b0, b1, b2, hgw, hN.nx hna, hA.nx hna, hB.nx hna, hnl, hal, hbl⟩
  have HF := hide (show reachF ns rs bs f ad wi = if endsF ns rs bs f f ad = 0 then (if outB wi 0 86400000 then 1 else 0) else endsF ns rs bs f f ad from rfl)
  have HL := hide (show reachL ns rs bs f ad wi = if reachF ns rs bs f ad wi = 0 then rOf (fun k => arrG (gphOf ns rs bs) (nodeN ns f) k ad) ad wi ns 0 else [] from rfl)
  by_cases hE : endsF ns rs bs f f ad = 0
  · obtain ⟨o1, o2, _, o4⟩ := endsF_ok hE
    have hC := (roads_ok o1).2.1
    have hmb := momB_true.1 o4
    have hil : nodeN ns f < ns.length := nodeN_lt o2
    have hi : nodeI ns f = ((nodeN ns f : Nat) : Int) := by unfold nodeN; omega
    have HEN := hide (fun W (hx : Nx wa W) => w_Ends w.heap.size lo A B C ca cb cc ns rs bs f f ad (nodeN ns f) (nodeN ns f) W (hBox.nx hx) hS o1 (newOk_of o1) hi hi o4)
    have HF := hide (HF.out.trans (if_pos hE))
    have HC := hide hC
    obtain ⟨V, hV⟩ : ∃ V : Nat → Int, V = fun k => arrG (gphOf ns rs bs) (nodeN ns f) k ad := ⟨_, rfl⟩
    rw [← hV] at HL
    have HIX := hide (fun k (hk : k < ns.length) => (show (gi (searchG (gphOf ns rs bs) (nodeN ns f) ad).first k < 0 ∧ V k = endT) ∨ (0 ≤ gi (searchG (gphOf ns rs bs) (nodeN ns f) ad).first k ∧ V k = gi (searchG (gphOf ns rs bs) (nodeN ns f) ad).first k ∧ gi (searchG (gphOf ns rs bs) (nodeN ns f) ad).first k < endT ∧ ad ≤ gi (searchG (gphOf ns rs bs) (nodeN ns f) ad).first k) by rw [hV]; exact arr_ix (bs := bs) hC hil hk hmb.1 (show ad < endT by unfold endT; omega)))
    clear hV
    have HNN := hide (hN.nx hna)
    have HTAB := hide (tab_nx htab hna)
    clear hE hBox b0 b1 b2 hN hA hB o1 o2 o4 hi hC htab
    generalize reachF ns rs bs f ad wi = F at *
    generalize reachL ns rs bs f ad wi = L at *
    generalize nodeN ns f = i at *
    have HWA := hide hwa
    clear hwa
    go_enter Tryz.func52, Tryz.ntmps52
    go_upto_region 1 with fail
    rw [← HWA.out]
    go_wp2_with fail
    refine (HEN.out wa (Nx.refl _)).mono ?_
    rintro e w1 ⟨bm, M, rfl, hbm, hM, hn1⟩
    have HM := hide hM
    have HN1 := hide hn1
    clear hM hbm hn1 HEN
    go_wp2_with fail
    refine (w_Out _ _ _ _).mono ?_
    rintro e w' ⟨rfl, rfl⟩
    cases ho : outB wi 0 86400000
    · have hwi := outB_false.1 ho
      have HF := hide (show F = 0 by rw [HF.out, ho]; rfl)
      have HL := hide (HL.out.trans (if_pos HF.out))
      clear ho
      go_wp2_with fail
      refine (w_Search w1 bm i ad w.heap.size lo A B C ca cb cc M ns rs bs HM.out HC.out hil hmb).mono ?_
      rintro e w2 ⟨a, rfl, hSM⟩
      have HTR := hide hSM.tree
      have hn2 := HN1.out.trans hSM.nx
      have HNR := hide (HNN.out.nx hn2)
      have HTB := hide (tab_nx HTAB.out hn2)
      have HN2 := hide (hna.trans hn2)
      have g0 := (HM.out.box.nx hSM.nx).g0
      clear hSM hn2 HNN HTAB HN1
      have HLN := hide (rOf_len V ad wi ns 0)
      have hF := HF.out
      subst hF
      generalize searchG (gphOf ns rs bs) i ad = R at *
      generalize hnn : ns.length = nn at *
      have HNN := hide hnn
      clear hnn HF HM HC
      go_wp2_with fail
      go_loopw [15, 40] (fun v u wr => ∃ (k : Nat) (acc : List PairS), k ≤ nn ∧ u = .int .i64 k ∧ wr.ownsRow w2.heap.size 99 2 v acc.length (acc.flatMap encPair) ∧ acc.length ≤ k ∧ L = acc ++ rOf V ad wi (ns.drop k) k ∧ Nx w2 wr) (fun _ u _ => nn - (intOf u).toNat)
      case atStart => exact ⟨0, [], Nat.zero_le _, rfl, World.ownsRow_nil _ _ _ _, Nat.le_refl _, by rw [HL.out]; rfl, Nx.refl _⟩
      case round =>
        obtain ⟨k, acc, hk, rfl, hown, hal2, hq, hbw⟩ := hrel
        have HQ := hide hq
        have HO := hide hown
        clear hq hown
        by_cases hlt : k < nn
        · have hlt' : k < ns.length := by have := HNN.out; omega
          have HD := hide (rOf_drop V ad wi ns k hlt')
          obtain ⟨b, off, rfl, _, hb, hbr, hc⟩ := HNR.out.open_ hbw (by omega)
          have c0 : wr.cell? ⟨b, off + k * 3, none⟩ = some (.string ns[k].key) := hc k hlt' 0 _ rfl
          have c1 : wr.cell? ⟨b, off + k * 3 + 1, none⟩ = some (.int .i64 ns[k].x) := hc k hlt' 1 _ rfl
          have c2 : wr.cell? ⟨b, off + k * 3 + 2, none⟩ = some (.int .i64 ns[k].y) := hc k hlt' 2 _ rfl
          clear hc
          have hix := HIX.out k hlt
          have HT := hide (reach_test (wi := wi) hix)
          have hzb : gi R.first k < 345686400000 := by unfold endT at hix; omega
          have HVZ := hide (fun h : 0 ≤ gi R.first k => (show V k = gi R.first k ∧ ad ≤ gi R.first k by rcases hix with h1 | h1 <;> omega))
          have x0 := intRow_cell HTR.out.hF (i := k) (by rw [HTR.out.lF]; exact hlt)
          generalize ns[k].key = ky at *
          generalize ns[k].x = xx at *
          generalize ns[k].y = yy at *
          generalize V k = vk at *
          generalize gi R.first k = z at *
          clear hix
          obtain ⟨wv, hwv⟩ : ∃ wv, wv = wr.alloc (.cells #[.string ky, .int .i64 xx, .int .i64 yy] 39) := ⟨_, rfl⟩
          have hnv : Nx wr wv := hwv ▸ (Nx.refl wr).alloc _
          have d0 : wv.cell? ⟨wr.heap.size, 0, none⟩ = some (.string ky) := by rw [hwv]; go_simp
          have hql : wr.heap.size < wv.heap.size := by rw [hwv]; simp
          have HWV := hide hwv
          clear hwv
          have HNQ := hide (fun j hj => (HO.out.lt j hj).2)
          go_upto_region 11 with fail
          rw [← HWV.out]
          clear c0 c1 c2
          generalize wr.heap.size = q at *
          have hx2 := hbw.trans hnv
          have t3 := nx_cell hx2 (lt_of_heap HTR.out.hT) ((cell_of_row w2 _ 3 _ _ _ HTR.out.hT).trans rfl)
          have x1 := nx_cell hx2 (lt_of_heap HTR.out.hF) x0
          have hTl := Nat.lt_of_lt_of_le (lt_of_heap HTR.out.hT) hx2.sz
          have i1 : (0 : Int) ≤ (k : Int) := by omega
          have i2 : (k : Int) < (nn : Int) := by omega
          have t3 : wv.cell? ⟨a.T, 3, none⟩ = some (.slice (some ⟨a.gF, 0, none⟩) nn nn) := t3
          clear x0
          by_cases h1 : 0 ≤ z
          · have e1 : decide (z ≥ 0) = true := decide_eq_true h1
            have e1' : decide (0 ≤ z) = true := decide_eq_true h1
            have k1 : IntKind.i64.wrap (z - ad) = z - ad := IntWalk.i64_in _ (by omega)
            by_cases h2 : z - ad ≤ wi
            · have e2 : decide (z - ad ≤ wi) = true := decide_eq_true h2
              obtain ⟨hvz, hdz⟩ := HVZ.out h1
              subst hvz
              have HD2 := hide (HD.out.trans (if_pos (HT.out.1 ⟨h1, h2⟩)))
              have hO := own_nx HO.out hnv
              have HOV := hide hO
              clear HD HT HVZ h2 hO
              go_upto_region 13 with fail
              clear t3 x1 e1 e1' e2
              refine wp_region_held_drew (S := fun w' => w'.cell? ⟨q, 0, none⟩ = some (.string ky)) (by kernel_rfl) ?_ (fun hHeld => ?_)
              · exact nx_cell (Nx.refl wv).drew hql d0
              refine wpAnyH_take (i := 0) (oi := ⟨some 61, _, _, _, _, _⟩) (v := ?_) rfl (by kernel_rfl) (by kernel_rfl) (by kernel_rfl) (fun _ _ _ h => h) (Or.inl ⟨by rfl, ?_⟩) (by assumption) ?_
              rotate_left 1
              · intro w hSw
                (try dsimp only at hSw)
                go_simp
                try with_reducible rfl
              try simp only [Act.put, List.setIfInBounds_toArray, List.set_cons_zero, List.set_cons_succ]
              refine wpAnyH_take (i := 1) (oi := ⟨some 62, _, _, _, _, _⟩) (v := ?_) rfl (by kernel_rfl) (by kernel_rfl) (by kernel_rfl) (fun _ _ _ h => h) (Or.inl ⟨by rfl, ?_⟩) (by assumption) ?_
              rotate_left 1
              · intro w hSw
                (try dsimp only at hSw)
                go_simp
                try with_reducible rfl
              try simp only [Act.put, List.setIfInBounds_toArray, List.set_cons_zero, List.set_cons_succ]
              refine wpAnyH_take (i := 2) (oi := ⟨some 63, _, _, _, _, _⟩) (v := ?_) rfl (by kernel_rfl) (by kernel_rfl) (by kernel_rfl) (fun _ _ _ h => h) (Or.inl ⟨by rfl, ?_⟩) (by assumption) ?_
              rotate_left 1
              · intro w hSw
                (try dsimp only at hSw)
                go_simp
                try with_reducible rfl
              try simp only [Act.put, List.setIfInBounds_toArray, List.set_cons_zero, List.set_cons_succ]
              refine wpAnyH_take (i := 3) (oi := ⟨some 64, _, _, _, _, _⟩) (v := ?_) rfl (by kernel_rfl) (by kernel_rfl) (by kernel_rfl) (fun _ _ _ h => h) (Or.inl ⟨by rfl, ?_⟩) (by assumption) ?_
              rotate_left 1
              · intro w hSw
                (try dsimp only at hSw)
                go_simp
                try with_reducible rfl
              try simp only [Act.put, List.setIfInBounds_toArray, List.set_cons_zero, List.set_cons_succ]
              refine wpAnyH_take (i := 4) (oi := ⟨some 65, _, _, _, _, _⟩) (v := ?_) rfl (by kernel_rfl) (by kernel_rfl) (by kernel_rfl) (fun _ _ _ h => h) (Or.inl ⟨by rfl, ?_⟩) (by assumption) ?_
              rotate_left 1
              · intro w hSw
                (try dsimp only at hSw)
                go_simp
                try with_reducible rfl
              try simp only [Act.put, List.setIfInBounds_toArray, List.set_cons_zero, List.set_cons_succ]
              refine wpAnyH_take (i := 5) (oi := ⟨some 66, _, _, _, _, _⟩) (v := ?_) rfl (by kernel_rfl) (by kernel_rfl) (by kernel_rfl) (fun _ _ _ h => h) (Or.inl ⟨by rfl, ?_⟩) (by assumption) ?_
              rotate_left 1
              · intro w hSw
                (try dsimp only at hSw)
                go_simp
                try with_reducible rfl
              try simp only [Act.put, List.setIfInBounds_toArray, List.set_cons_zero, List.set_cons_succ]
              refine wpAnyH_ready (rs := [6]) (by kernel_rfl) (by simp) ?_
              refine AllReadyH.cons rfl (fun K hK => ?_) AllReadyH.nil
              go_simp
              go_at_call 117
              refine (w_ItoaN (vk - ad) (by omega) (by omega) _ (tab_nx HTB.out (hx2.trans (Nx.refl wv).drew))).mono ?_
              rintro e w5 ⟨rfl, hn5⟩
              have h5 : Nx wv w5 := (Nx.refl wv).drew.trans hn5
              go_simp
              refine hK.out _ _ (nx_cell h5 hql d0) (fun hHeld => ?_)
              clear hK K
              try simp only [Act.put, List.setIfInBounds_toArray, List.set_cons_zero, List.set_cons_succ]
              refine wpAnyH_take (i := 7) (oi := ⟨some 68, _, _, _, _, _⟩) (v := ?_) rfl (by kernel_rfl) (by kernel_rfl) (by kernel_rfl) (fun _ _ _ h => h) (Or.inl ⟨by rfl, ?_⟩) (by assumption) ?_
              rotate_left 1
              · intro w hSw
                (try dsimp only at hSw)
                go_simp
                try with_reducible rfl
              try simp only [Act.put, List.setIfInBounds_toArray, List.set_cons_zero, List.set_cons_succ]
              refine wpAnyH_ready (rs := [8]) (by kernel_rfl) (by simp) ?_
              refine AllReadyH.cons rfl (fun K hK => ?_) AllReadyH.nil
              go_simp
              refine hK.out _ _ (nx_cell (h5.alloc _) hql d0) (fun hHeld => ?_)
              clear hK K
              try simp only [Act.put, List.setIfInBounds_toArray, List.set_cons_zero, List.set_cons_succ]
              refine wpAnyH_ready (rs := [9]) (by kernel_rfl) (by simp) ?_
              refine AllReadyH.cons rfl (fun K hK => ?_) AllReadyH.nil
              refine step_app rfl _ _ _ rfl el_Pair encPair encPair_len encPair_one (by omega) (by omega) w2.heap.size _ acc rfl ((own_nx HOV.out h5).alloc _) _ ⟨ky, itoaS (vk - ad)⟩ _ rfl (hnew rfl) rfl (by omega) (by have := hx2.sz; have := h5.sz; simp; omega) ?_
              intro v6 w6 hown6 hg6 _
              have hn6 : Nx w2 w6 := (((hx2.trans h5).alloc _).grown hg6 (fun j hj => own_blk_lt HOV.out j hj))
              have HO6 := hide hown6
              clear hown6
              refine hK.out _ _ (World.grownBy.cell hg6 (nx_cell (h5.alloc _) hql d0) ?_) (fun hHeld => ?_)
              · intro e; exact absurd (HNQ.out q e.symm) (Nat.lt_irrefl _)
              clear hK K
              try simp only [Act.put, List.setIfInBounds_toArray]
              refine wpAnyH_take (i := 10) (oi := ⟨some 15, _, _, _, _, _⟩) (v := ?_) rfl (by kernel_rfl) (by kernel_rfl) (by kernel_rfl) (fun _ _ _ h => h) (Or.inl ⟨by rfl, ?_⟩) (by assumption) ?_
              rotate_left 1
              · intro w hSw
                (try dsimp only at hSw)
                go_simp
                try with_reducible rfl
              try simp only [Act.put]
              refine wpAnyH_done (by kernel_rfl) ?_ _
              go_wp2_with fail
              go_roundw
              case rel => exact ⟨k + 1, acc ++ [⟨ky, itoaS (vk - ad)⟩], by omega, by go_num, HO6.out, by simp; omega, by rw [HQ.out, HD2.out]; simp, hn6⟩
              case measure => simp [intOf]; omega
            · have e2 : decide (z - ad ≤ wi) = false := decide_eq_false h2
              have HD2 := hide (HD.out.trans (if_neg (fun h => h2 (HT.out.2 h).2)))
              clear HD HT HVZ h2 h1
              go_wp2_with fail
              go_roundw
              case rel => exact ⟨k + 1, acc, by omega, by go_num, own_nx HO.out hnv, by omega, by rw [HQ.out, HD2.out], hx2⟩
              case measure => simp [intOf]; omega
          · have e1 : decide (z ≥ 0) = false := decide_eq_false h1
            have e1' : decide (0 ≤ z) = false := decide_eq_false h1
            have HD2 := hide (HD.out.trans (if_neg (fun h => h1 (HT.out.2 h).1)))
            clear HD HT HVZ h1
            go_wp2_with fail
            go_roundw
            case rel => exact ⟨k + 1, acc, by omega, by go_num, own_nx HO.out hnv, by omega, by rw [HQ.out, HD2.out], hx2⟩
            case measure => simp [intOf]; omega
        · obtain rfl : nn = k := by omega
          have hLL : L = acc := by rw [HQ.out, List.drop_of_length_le (by have := HNN.out; omega)]; simp [rOf]
          subst hLL
          obtain ⟨Z, c, rfl, hRd, _⟩ := Rd.of_own encPair_len rfl HO.out
          have HRd := hide hRd
          clear hRd HO HQ
          go_wp2_with fail
          exact bodyPost_ret (v := .tuple #[.slice Z L.length c, .int .i64 0]) (by simp [results, Tryz.results52, go_sem]) rfl ⟨Z, c, rfl, HRd.out.low (Nat.zero_le _), HN2.out.trans hbw⟩
    · have HF := hide (show F = 1 by rw [HF.out, ho]; rfl)
      have hL : L = [] := HL.out.trans (if_neg (by rw [HF.out]; decide))
      subst hL
      have hF := HF.out
      subst hF
      clear ho
      go_wp2_with fail
      exact bodyPost_ret (v := .tuple #[.slice none 0 0, .int .i64 1]) (by simp [results, Tryz.results52, go_sem]) rfl ⟨none, 0, rfl, Rd.nil, hna.trans HN1.out⟩
  · have HEN := hide (fun W (hx : Nx wa W) => w_EndsBad w.heap.size lo A B C ca cb cc ns rs bs f f ad W (hBox.nx hx) hS hE)
    have hF := HF.out.trans (if_neg hE)
    have hL : reachL ns rs bs f ad wi = [] := HL.out.trans (if_neg (by rw [hF]; exact hE))
    rw [hL, hF]
    clear hBox b0 b1 b2 hN hA hB HF HL hF hL htab
    generalize endsF ns rs bs f f ad = E at *
    have tE : (E == 0) = false := by simpa using hE
    have tE2 : (E != 0) = true := by simpa using hE
    clear hE
    have HWA := hide hwa
    clear hwa
    go_enter Tryz.func52, Tryz.ntmps52
    go_upto_region 1 with fail
    rw [← HWA.out]
    go_wp2_with fail
    refine (HEN.out wa (Nx.refl _)).mono ?_
    rintro e w1 ⟨rfl, hn1⟩
    go_wp2_with fail
    exact bodyPost_ret (v := .tuple #[.slice none 0 0, .int .i64 E]) (by simp [results, Tryz.results52, go_sem]) rfl ⟨none, 0, rfl, Rd.nil, hna.trans hn1⟩
end Go.Proofs.YtmpnilliichpfaaGreatDoor
