/- Where a node or an arc is: the reference's search. -/
import Derived.Test.YtklgknepamebdaaGreatDoorQG4
import Derived.Test.YtklgknepamebdaaGreatDoorQCheckR
namespace Go.Proofs.YtklgknepamebdaaGreatDoor
open Go.RowKit

set_option maxRecDepth 100000 in
set_option maxHeartbeats 1000000 in
theorem w_IndexFN (g : Nat) (p : Node → Bool) (cap : Value) (eg : Enters g) (lo : Nat) (A : Option Addr) (c : Nat) (l : List Node) (w : World) (hcl : ∀ (y : Node) W, Nx w W → Calls Tryz.prog g #[.agg #[.string y.key, .int .i64 y.x, .int .i64 y.y], cap] W fun e w' => e = .returned (.bool (p y)) ∧ Nx W w')
    (hR : Rd w lo A 3 encNode l) (hl : l.length ≤ 65536) :
    Calls Tryz.prog 134 #[.slice A l.length c, .func (.func g) #[] #[cap]] w fun e w' => e = .returned (.int .i64 (findI p l)) ∧ Nx w w' := by
  generalize hn : l.length = n at *
  have HR := hide hR
  have HN := hide hn
  have HC0 := hide hcl
  clear hR hn hcl
  unfold Enters at eg
  go_enter Tryz.func134, Tryz.ntmps134
  go_wp2
  go_loopw [5, 8] (fun _ i wr => ∃ k : Nat, k ≤ n ∧ i = .int .i64 k ∧ Nx w wr ∧ findI p l = idxP p (l.drop k) k) (fun _ i _ => n - (intOf i).toNat)
  case atStart => exact ⟨0, Nat.zero_le _, rfl, Nx.refl _, rfl⟩
  case round =>
    obtain ⟨k, hk, rfl, hbw, hq⟩ := hrel
    have HQ := hide hq
    clear hq
    by_cases hlt : k < n
    · have hlt' : k < l.length := by have := HN.out; omega
      obtain ⟨b, off, rfl, _, hb, hbr, hc⟩ := HR.out.open_ hbw (by omega)
      have c0 : wr.cell? ⟨b, off + k * 3, none⟩ = some (.string l[k].key) := hc k hlt' 0 _ rfl
      have c1 : wr.cell? ⟨b, off + k * 3 + 1, none⟩ = some (.int .i64 l[k].x) := hc k hlt' 1 _ rfl
      have c2 : wr.cell? ⟨b, off + k * 3 + 2, none⟩ = some (.int .i64 l[k].y) := hc k hlt' 2 _ rfl
      clear hc
      have HD := hide (idxP_drop p l k hlt')
      have hcl := fun W (h : Nx w W) => HC0.out l[k] W h
      generalize l[k] = y at *
      cases hbig : p y
      all_goals
        have HB := hide hbig
        rw [hbig] at hcl
        have HCL := hide hcl
        clear hbig hcl
        go_wp2_with (go_at_fn g; refine (HCL.out _ hbw).mono ?_; rintro e w2 ⟨rfl, hn2⟩)
      · go_roundw
        case rel => exact ⟨k + 1, by omega, by go_num, hbw.trans hn2, by rw [HQ.out, HD.out, HB.out, if_neg (by simp)]⟩
        case measure => simp [intOf]; omega
      · go_ret
        exact ⟨ret_int (by rw [HQ.out, HD.out, HB.out, if_pos rfl]), hbw.trans hn2⟩
    · go_wp2
      go_ret
      exact ⟨ret_int (by rw [HQ.out, List.drop_of_length_le (by have := HN.out; omega)]; rfl), hbw⟩
set_option maxRecDepth 100000 in
set_option maxHeartbeats 1000000 in
theorem w_IndexFA (g : Nat) (p : Arc → Bool) (cap : Value) (eg : Enters g) (lo : Nat) (A : Option Addr) (c : Nat) (l : List Arc) (w : World) (hcl : ∀ (y : Arc) W, Nx w W → Calls Tryz.prog g #[.agg #[.string y.key, .string y.from_, .string y.to_, .int .i64 y.long, .slice y.ka y.knots.length y.kc], cap] W fun e w' => e = .returned (.bool (p y)) ∧ Nx W w')
    (hR : Rd w lo A 5 encArc l) (hl : l.length ≤ 65536) :
    Calls Tryz.prog 153 #[.slice A l.length c, .func (.func g) #[] #[cap]] w fun e w' => e = .returned (.int .i64 (findI p l)) ∧ Nx w w' := by
  generalize hn : l.length = n at *
  have HR := hide hR
  have HN := hide hn
  have HC0 := hide hcl
  clear hR hn hcl
  unfold Enters at eg
  go_enter Tryz.func153, Tryz.ntmps153
  go_wp2
  go_loopw [5, 8] (fun _ i wr => ∃ k : Nat, k ≤ n ∧ i = .int .i64 k ∧ Nx w wr ∧ findI p l = idxP p (l.drop k) k) (fun _ i _ => n - (intOf i).toNat)
  case atStart => exact ⟨0, Nat.zero_le _, rfl, Nx.refl _, rfl⟩
  case round =>
    obtain ⟨k, hk, rfl, hbw, hq⟩ := hrel
    have HQ := hide hq
    clear hq
    by_cases hlt : k < n
    · have hlt' : k < l.length := by have := HN.out; omega
      obtain ⟨b, off, rfl, _, hb, hbr, hc⟩ := HR.out.open_ hbw (by omega)
      have c0 : wr.cell? ⟨b, off + k * 5, none⟩ = some (.string l[k].key) := hc k hlt' 0 _ rfl
      have c1 : wr.cell? ⟨b, off + k * 5 + 1, none⟩ = some (.string l[k].from_) := hc k hlt' 1 _ rfl
      have c2 : wr.cell? ⟨b, off + k * 5 + 2, none⟩ = some (.string l[k].to_) := hc k hlt' 2 _ rfl
      have c3 : wr.cell? ⟨b, off + k * 5 + 3, none⟩ = some (.int .i64 l[k].long) := hc k hlt' 3 _ rfl
      have c4 : wr.cell? ⟨b, off + k * 5 + 4, none⟩ = some (.slice l[k].ka l[k].knots.length l[k].kc) := hc k hlt' 4 _ rfl
      clear hc
      have HD := hide (idxP_drop p l k hlt')
      have hcl := fun W (h : Nx w W) => HC0.out l[k] W h
      generalize l[k] = y at *
      cases hbig : p y
      all_goals
        have HB := hide hbig
        rw [hbig] at hcl
        have HCL := hide hcl
        clear hbig hcl
        go_wp2_with (go_at_fn g; refine (HCL.out _ hbw).mono ?_; rintro e w2 ⟨rfl, hn2⟩)
      · go_roundw
        case rel => exact ⟨k + 1, by omega, by go_num, hbw.trans hn2, by rw [HQ.out, HD.out, HB.out, if_neg (by simp)]⟩
        case measure => simp [intOf]; omega
      · go_ret
        exact ⟨ret_int (by rw [HQ.out, HD.out, HB.out, if_pos rfl]), hbw.trans hn2⟩
    · go_wp2
      go_ret
      exact ⟨ret_int (by rw [HQ.out, List.drop_of_length_le (by have := HN.out; omega)]; rfl), hbw⟩

theorem w_NodeAt1 (s : ByteArray) (y : Node) (q : Nat) (w : World) (hq : w.cell? ⟨q, 0, none⟩ = some (.string s)) (hql : q < w.heap.size) :
    Calls Tryz.prog 135 #[.agg #[.string y.key, .int .i64 y.x, .int .i64 y.y], .pointer (some ⟨q, 0, none⟩)] w fun e w' => e = .returned (.bool (decide (y.key = s))) ∧ Nx w w' := by
  have hq2 : ∀ o, (w.alloc o).cell? ⟨q, 0, none⟩ = some (.string s) := fun o => nx_cell ((Nx.refl w).alloc o) hql hq
  go_enter Tryz.func135, Tryz.ntmps135
  go_wp2
  go_ret
  exact ⟨congrArg (fun b => Ending.returned (.bool b)) (eqS_iff _ _), (Nx.refl _).alloc _⟩
set_option maxHeartbeats 1000000 in
theorem w_NodeAt (lo : Nat) (A B C : Option Addr) (n1 n2 c1 c2 c3 : Nat) (l : List Node) (s : ByteArray) (w : World) (hR : Rd w lo A 3 encNode l) (hl : l.length ≤ 65536) :
    Calls Tryz.prog 73 #[.agg #[.slice A l.length c1, .slice B n1 c2, .slice C n2 c3], .string s] w fun e w' => e = .returned (.int .i64 (nodeI l s)) ∧ Nx w w' := by
  obtain ⟨wa, hwa⟩ : ∃ wa, wa = (w.alloc (.cells #[.slice A l.length c1, .slice B n1 c2, .slice C n2 c3] 30)).alloc (.cells #[.string s] 9) := ⟨_, rfl⟩
  have hna : Nx w wa := hwa ▸ ((Nx.refl w).alloc _).alloc _
  have hsz : wa.heap.size = w.heap.size + 1 + 1 := by rw [hwa]; simp
  have hq : wa.cell? ⟨w.heap.size + 1, 0, none⟩ = some (.string s) := by rw [hwa]; go_simp
  have hf : wa.cell? ⟨w.heap.size, 0, none⟩ = some (.slice A l.length c1) := by rw [hwa]; go_simp
  have HB := hide (w_IndexFN 135 (fun y => decide (y.key = s)) (.pointer (some ⟨w.heap.size + 1, 0, none⟩)) (enters_of Tryz.func135 (by kernel_rfl) rfl) lo A c1 l wa
    (fun y W h => w_NodeAt1 s y _ W (nx_cell h (by omega) hq) (Nat.lt_of_lt_of_le (by omega) h.sz)) (hR.nx hna) hl)
  clear hR hq
  generalize l.length = n at *
  go_enter Tryz.func73, Tryz.ntmps73
  go_wp2_with fail
  rw [← hwa]
  have HWA := hide hwa
  clear hwa
  go_wp2_with (go_at_call 134; refine HB.out.mono ?_; rintro e w2 ⟨rfl, hn2⟩)
  go_ret
  exact ⟨rfl, hna.trans hn2⟩

theorem w_ArcAt1 (s : ByteArray) (y : Arc) (q : Nat) (w : World) (hq : w.cell? ⟨q, 0, none⟩ = some (.string s)) (hql : q < w.heap.size) :
    Calls Tryz.prog 154 #[.agg #[.string y.key, .string y.from_, .string y.to_, .int .i64 y.long, .slice y.ka y.knots.length y.kc], .pointer (some ⟨q, 0, none⟩)] w fun e w' => e = .returned (.bool (decide (y.key = s))) ∧ Nx w w' := by
  have hq2 : ∀ o, (w.alloc o).cell? ⟨q, 0, none⟩ = some (.string s) := fun o => nx_cell ((Nx.refl w).alloc o) hql hq
  go_enter Tryz.func154, Tryz.ntmps154
  go_wp2
  go_ret
  exact ⟨congrArg (fun b => Ending.returned (.bool b)) (eqS_iff _ _), (Nx.refl _).alloc _⟩
set_option maxHeartbeats 1000000 in
theorem w_ArcAt (lo : Nat) (A B C : Option Addr) (n1 n2 c1 c2 c3 : Nat) (l : List Arc) (s : ByteArray) (w : World) (hR : Rd w lo B 5 encArc l) (hl : l.length ≤ 65536) :
    Calls Tryz.prog 90 #[.agg #[.slice A n1 c1, .slice B l.length c2, .slice C n2 c3], .string s] w fun e w' => e = .returned (.int .i64 (arcI l s)) ∧ Nx w w' := by
  obtain ⟨wa, hwa⟩ : ∃ wa, wa = (w.alloc (.cells #[.slice A n1 c1, .slice B l.length c2, .slice C n2 c3] 30)).alloc (.cells #[.string s] 9) := ⟨_, rfl⟩
  have hna : Nx w wa := hwa ▸ ((Nx.refl w).alloc _).alloc _
  have hsz : wa.heap.size = w.heap.size + 1 + 1 := by rw [hwa]; simp
  have hq : wa.cell? ⟨w.heap.size + 1, 0, none⟩ = some (.string s) := by rw [hwa]; go_simp
  have hf : wa.cell? ⟨w.heap.size, 1, none⟩ = some (.slice B l.length c2) := by rw [hwa]; go_simp
  have HB := hide (w_IndexFA 154 (fun y => decide (y.key = s)) (.pointer (some ⟨w.heap.size + 1, 0, none⟩)) (enters_of Tryz.func154 (by kernel_rfl) rfl) lo B c2 l wa
    (fun y W h => w_ArcAt1 s y _ W (nx_cell h (by omega) hq) (Nat.lt_of_lt_of_le (by omega) h.sz)) (hR.nx hna) hl)
  clear hR hq
  generalize l.length = n at *
  go_enter Tryz.func90, Tryz.ntmps90
  go_wp2_with fail
  rw [← hwa]
  have HWA := hide hwa
  clear hwa
  go_wp2_with (go_at_call 153; refine HB.out.mono ?_; rintro e w2 ⟨rfl, hn2⟩)
  go_ret
  exact ⟨rfl, hna.trans hn2⟩
end Go.Proofs.YtklgknepamebdaaGreatDoor
/- Bans: the reference's check. -/
namespace Go.Proofs.YtklgknepamebdaaGreatDoor
open Go.RowKit

set_option maxRecDepth 100000 in
set_option maxHeartbeats 4000000 in
theorem w_bansFaultQ (lo' lo'' : Nat) (A B C : Option Addr) (nn ca cb cc : Nat) (rs : List Arc) (bs : List Ban) (w : World)
    (hA : RdArcs w lo' B rs) (hal : rs.length ≤ 400) (hB : Rd w lo'' C 2 encBan bs) (hbl : bs.length ≤ 400) :
    Calls Tryz.prog 75 #[.agg #[.slice A nn ca, .slice B rs.length cb, .slice C bs.length cc]] w fun e w' => e = .returned (.int .i64 (chk (banF rs) none bs)) ∧ Nx w w' := by
  obtain ⟨wa, hwa⟩ : ∃ wa, wa = w.alloc (.cells #[.slice A nn ca, .slice B rs.length cb, .slice C bs.length cc] 30) := ⟨_, rfl⟩
  have hna : Nx w wa := hwa ▸ (Nx.refl w).alloc _
  have hgw : w.heap.size < wa.heap.size := by rw [hwa]; simp
  have b0 : wa.cell? ⟨w.heap.size, 0, none⟩ = some (.slice A nn ca) := by rw [hwa]; go_simp
  have b1 : wa.cell? ⟨w.heap.size, 1, none⟩ = some (.slice B rs.length cb) := by rw [hwa]; go_simp
  have b2 : wa.cell? ⟨w.heap.size, 2, none⟩ = some (.slice C bs.length cc) := by rw [hwa]; go_simp
  have HAR := hide (fun s W (hx : Nx wa W) => w_ArcAt lo' A B C nn bs.length ca cb cc rs s W ((hA.1.nx hna).nx hx) (by omega))
  have HRA := hide (hA.nx hna).1
  have HRB := hide (hB.nx hna)
  obtain ⟨V, hV⟩ : ∃ V, V = chk (banF rs) none bs := ⟨_, rfl⟩
  have HRF := hide hV
  rw [← hV]
  clear hA hB hV
  generalize hrl : rs.length = n at *
  generalize hbl' : bs.length = m at *
  have HRL := hide hrl
  have HBL := hide hbl'
  clear hrl hbl'
  have tm : decide ((m : Int) > 1000) = false := decide_eq_false (by omega)
  have tm2 : decide ((1000 : Int) < (m : Int)) = false := decide_eq_false (by omega)
  go_enter Tryz.func75, Tryz.ntmps75
  go_wp2_with fail
  rw [← hwa]
  have HWA := hide hwa
  clear hwa
  have hbw := Nx.refl wa
  generalize w.heap.size = gb at *
  go_wp2_with fail
  go_loopw [14] (fun i wr => ∃ k : Nat, k ≤ m ∧ i = .int .i64 k ∧ Nx wa wr ∧ chk (banF rs) none bs = chk (banF rs) (prevOf bs k) (bs.drop k)) (fun i _ => m - (intOf i).toNat)
  case atStart => exact ⟨0, Nat.zero_le _, rfl, hbw, rfl⟩
  case round =>
    clear hbw
    obtain ⟨k, hk, rfl, hbw, hq⟩ := hrel
    have HQ := hide hq
    clear hq
    by_cases hlt : k < m
    · have hlt' : k < bs.length := by have := HBL.out; omega
      have HD := hide (chk_drop (banF rs) bs k hlt')
      have HV := hide (banF_at rs bs k hlt')
      have HB1 := hide (nx_cell hbw hgw b1)
      have HB2 := hide (nx_cell hbw hgw b2)
      obtain ⟨b, off, rfl, _, hb, hbr, hc⟩ := HRB.out.open_ hbw (by have := HBL.out; omega)
      have c0 : wr.cell? ⟨b, off + k * 2, none⟩ = some (.string bs[k].from_) := hc k hlt' 0 _ rfl
      have c1 : wr.cell? ⟨b, off + k * 2 + 1, none⟩ = some (.string bs[k].to_) := hc k hlt' 1 _ rfl
      have HPC := hide (fun h0 : 0 < k => And.intro (show wr.cell? ⟨b, off + (k - 1) * 2, none⟩ = some (.string (bs[k - 1]'(by omega)).from_) from hc (k - 1) (by omega) 0 _ rfl) (show wr.cell? ⟨b, off + (k - 1) * 2 + 1, none⟩ = some (.string (bs[k - 1]'(by omega)).to_) from hc (k - 1) (by omega) 1 _ rfl))
      have HPV := hide (fun h0 : 0 < k => (show banBad bs k = decide (banC bs[k] (bs[k - 1]'(by omega)) ≤ 0) by
        unfold banBad
        rw [prevOf_pos _ k h0 (by omega), List.getD_eq_getElem?_getD, List.getElem?_eq_getElem hlt']; rfl))
      have HP0 := hide (fun h0 : k = 0 => (show banBad bs k = false by subst h0; rfl))
      clear hc
      generalize bs[k] = x at *
      generalize banBad bs k = bad at *
      go_upto_region 6 with fail
      obtain ⟨wk, hwk⟩ : ∃ wk, wk = wr.alloc (.cells #[.string x.from_, .string x.to_] 113) := ⟨_, rfl⟩
      have hnk : Nx wr wk := hwk ▸ (Nx.refl wr).alloc _
      have hsk : wr.heap.size < wk.heap.size := by rw [hwk]; simp
      have d0 : wk.cell? ⟨wr.heap.size, 0, none⟩ = some (.string x.from_) := by rw [hwk]; go_simp
      have d1 : wk.cell? ⟨wr.heap.size, 1, none⟩ = some (.string x.to_) := by rw [hwk]; go_simp
      rw [← hwk]
      have HWK := hide hwk
      clear hwk c0 c1
      have hnx := hbw.trans hnk
      have hgk := Nat.lt_of_lt_of_le hgw hnx.sz
      have bb0 := nx_cell hnx hgw b0
      have bb1 := nx_cell hnx hgw b1
      have bb2 := nx_cell hnx hgw b2
      obtain ⟨bx, hbx⟩ : ∃ bx, bx = wr.heap.size := ⟨_, rfl⟩
      rw [← hbx] at hsk d0 d1 ⊢
      have HBX := hide hbx
      clear hbx
      generalize hx1 : x.from_ = x1 at *
      generalize hx2 : x.to_ = x2 at *
      have HX := hide (And.intro hx1 hx2)
      clear hx1 hx2
      go_cut [5, 6] (fun v9 v10 wx => v9 = .int .i64 (arcI rs x1) ∧ v10 = .int .i64 (arcI rs x2) ∧ Nx wk wx)
      case first =>
        go_region_held3 (fun w' => w'.cell? ⟨bx, 0, none⟩ = some (.string x1) ∧ w'.cell? ⟨bx, 1, none⟩ = some (.string x2) ∧ w'.cell? ⟨gb, 0, none⟩ = some (.slice A nn ca) ∧ w'.cell? ⟨gb, 1, none⟩ = some (.slice B n cb) ∧ w'.cell? ⟨gb, 2, none⟩ = some (.slice (some ⟨b, off, none⟩) m cc))
          (first | (go_split_ands; exact ⟨nx_cell hn3 (Nat.lt_of_lt_of_le hsk hn2.sz) ‹_›, nx_cell hn3 (Nat.lt_of_lt_of_le hsk hn2.sz) ‹_›, nx_cell hn3 (Nat.lt_of_lt_of_le hgk hn2.sz) ‹_›, nx_cell hn3 (Nat.lt_of_lt_of_le hgk hn2.sz) ‹_›, nx_cell hn3 (Nat.lt_of_lt_of_le hgk hn2.sz) ‹_›⟩) | (go_split_ands; exact ⟨nx_cell hn2 hsk ‹_›, nx_cell hn2 hsk ‹_›, nx_cell hn2 hgk ‹_›, nx_cell hn2 hgk ‹_›, nx_cell hn2 hgk ‹_›⟩) | go_keep)
          (first
            | (go_at_call 90; refine (HAR.out _ _ (hnx.drew.trans hn2)).mono ?_; rintro e w3 ⟨rfl, hn3⟩)
            | (go_at_call 90; refine (HAR.out _ _ hnx.drew).mono ?_; rintro e w2 ⟨rfl, hn2⟩))
        go_wp2
        go_meet
        exact ⟨rfl, rfl, ((Nx.refl wk).drew.trans hn2).trans hn3⟩
      case rest =>
        obtain ⟨rfl, rfl, hx1⟩ := hcut
        have hnx1 := hnx.trans hx1
        clear bb0 bb1 bb2
        have HG := hide (show banG rs x = if arcI rs x1 < 0 ∨ arcI rs x2 < 0 then 8 else if (arcAt rs x1).to_ = (arcAt rs x2).from_ then 0 else 3 by unfold banG; rw [HX.out.1, HX.out.2])
        by_cases hf : arcI rs x1 < 0
        · have tf : decide (arcI rs x1 < 0) = true := decide_eq_true hf
          have HG8 := hide (HG.out.trans (if_pos (.inl hf)))
          clear hf d0 d1
          go_wp2_with fail
          go_ret
          exact ⟨ret_int (by rw [HRF.out, HQ.out, HD.out, HV.out, HG8.out]; rfl), hna.trans hnx1⟩
        by_cases ht : arcI rs x2 < 0
        · have tf : decide (arcI rs x1 < 0) = false := decide_eq_false hf
          have tt : decide (arcI rs x2 < 0) = true := decide_eq_true ht
          have HG8 := hide (HG.out.trans (if_pos (.inr ht)))
          clear hf ht d0 d1
          go_wp2_with fail
          go_ret
          exact ⟨ret_int (by rw [HRF.out, HQ.out, HD.out, HV.out, HG8.out]; rfl), hna.trans hnx1⟩
        obtain ⟨i, hi, ei⟩ : ∃ i : Nat, i < rs.length ∧ arcI rs x1 = (i : Int) := by
          rcases findI_bd (fun n : Arc => decide (n.key = x1)) rs with h | h
          · exact absurd (show arcI rs x1 < 0 by unfold arcI; omega) hf
          · exact h
        obtain ⟨j, hj, ej⟩ : ∃ i : Nat, i < rs.length ∧ arcI rs x2 = (i : Int) := by
          rcases findI_bd (fun n : Arc => decide (n.key = x2)) rs with h | h
          · exact absurd (show arcI rs x2 < 0 by unfold arcI; omega) ht
          · exact h
        have HG2 := hide (show banG rs x = if rs[i].to_ = rs[j].from_ then 0 else 3 by
          rw [HG.out, if_neg (by omega)]
          unfold arcAt
          rw [ei, ej, List.getD_eq_getElem?_getD, List.getD_eq_getElem?_getD, List.getElem?_eq_getElem (show (i : Int).toNat < rs.length from hi), List.getElem?_eq_getElem (show (j : Int).toNat < rs.length from hj)]
          rfl)
        rw [ei, ej]
        clear hf ht HG ei ej
        have B1 := nx_cell hnx1 hgw b1
        obtain ⟨ba, offa, rfl, _, hba, hbar, hca⟩ := HRA.out.open_ hnx1 (by omega)
        have a1 : wc.cell? ⟨ba, offa + i * 5 + 2, none⟩ = some (.string rs[i].to_) := hca i hi 2 _ rfl
        have a2 : wc.cell? ⟨ba, offa + j * 5 + 1, none⟩ = some (.string rs[j].from_) := hca j hj 1 _ rfl
        have hin : i < n := by have := HRL.out; omega
        have hjn : j < n := by have := HRL.out; omega
        have D0 := hide (nx_cell hx1 hsk d0)
        have D1 := hide (nx_cell hx1 hsk d1)
        clear hca d0 d1
        generalize rs[i].to_ = r1 at *
        generalize rs[j].from_ = r2 at *
        go_upto_region 9 with fail
        have i1 : (0 : Int) ≤ (i : Int) := by omega
        have i2 : (i : Int) < (n : Int) := by omega
        have i3 : (0 : Int) ≤ (j : Int) := by omega
        have i4 : (j : Int) < (n : Int) := by omega
        by_cases heq : r1 = r2
        · have te : (r1.toList == r2.toList) = true := by rw [eqS_iff]; exact decide_eq_true heq
          have HG3 := hide (HG2.out.trans (if_pos heq))
          clear heq HG2
          rw [HG3.out, if_pos rfl] at HV
          go_quiet (fail)
          clear i1 i2 i3 i4 a1 a2 te
          go_upto_region 11 with fail
          have hnx2 : Nx wa (wc.drewN nq) := hnx1.drewN _
          have E0 : (wc.drewN nq).cell? ⟨bx, 0, none⟩ = some (.string x1) := D0.out
          have E1 : (wc.drewN nq).cell? ⟨bx, 1, none⟩ = some (.string x2) := D1.out
          have hsk2 : bx < (wc.drewN nq).heap.size := Nat.lt_of_lt_of_le hsk hx1.sz
          have HWK2 := hide (hnk.trans (hx1.drewN nq))
          generalize wc.drewN nq = wd at *
          clear B1 D0 D1
          go_cut [48] (fun v wx => v = .bool bad ∧ Nx wd wx)
          case first =>
            by_cases hk0 : 0 < k
            · have p1 := nx_cell HWK2.out hbr (HPC.out hk0).1
              have p2 := nx_cell HWK2.out hbr (HPC.out hk0).2
              have B2 := nx_cell HWK2.out (Nat.lt_of_lt_of_le hgw hbw.sz) HB2.out
              have hbw2 := Nat.lt_of_lt_of_le hbr HWK2.out.sz
              have hgw2 := Nat.lt_of_lt_of_le (Nat.lt_of_lt_of_le hgw hbw.sz) HWK2.out.sz
              have hpv := HPV.out hk0
              have hxe : x = ⟨x1, x2⟩ := by obtain ⟨h1, h2⟩ := HX.out; rw [← h1, ← h2]
              rw [hxe] at hpv
              have hkz : k - 1 < bs.length := by have := HBL.out; omega
              generalize (bs[k - 1]'(by omega)) = q at *
              obtain ⟨q1, q2⟩ := q
              have k1 : IntKind.i64.wrap ((k : Int) - 1) = (k : Int) - 1 := IntWalk.i64_in _ (by omega)
              have k2 : (1 : Int) ≤ (k : Int) := by omega
              have k3 : ((k : Int) - 1).toNat = k - 1 := by omega
              have k4 : (k : Int) - 1 < (m : Int) := by omega
              have kp : decide ((k : Int) > 0) = true := decide_eq_true (by omega)
              have kp2 : decide ((0 : Int) < (k : Int)) = true := decide_eq_true (by omega)
              have t1 : decide (0 ≤ banC ⟨q1, q2⟩ ⟨x1, x2⟩) = bad := by rw [hpv]; exact decide_eq_decide.2 (banC_anti _ _).symm
              have HOR := hide (fun g c W (hg : W.heap[g]? = some (.cells #[.int .i64 (cmpS q1 x1), .int .i64 (cmpS q2 x2)] 3 (0, 0))) => w_OrI2 _ _ g c W hg)
              rw [show (if cmpS q1 x1 = 0 then cmpS q2 x2 else cmpS q1 x1) = banC ⟨q1, q2⟩ ⟨x1, x2⟩ from rfl] at HOR
              clear hpv
              generalize banC ⟨q1, q2⟩ ⟨x1, x2⟩ = bz at *
              go_region_held3 (fun w' => w'.cell? ⟨bx, 0, none⟩ = some (.string x1) ∧ w'.cell? ⟨bx, 1, none⟩ = some (.string x2) ∧ w'.cell? ⟨b, off + (k - 1) * 2, none⟩ = some (.string q1) ∧ w'.cell? ⟨b, off + (k - 1) * 2 + 1, none⟩ = some (.string q2) ∧ w'.cell? ⟨gb, 2, none⟩ = some (.slice (some ⟨b, off, none⟩) m cc))
                (go_keep)
                (first
                  | (go_at_call 137; refine (w_CompareS _ _ _).mono ?_; rintro e w' ⟨rfl, rfl⟩)
                  | (go_at_call 136; refine (HOR.out _ _ _ (hnew_drew rfl)).mono ?_; rintro e w' ⟨rfl, rfl⟩))
              go_wp2
              go_meet
              exact ⟨rfl, ((Nx.refl wd).alloc _).drew⟩
            · have kp : decide ((k : Int) > 0) = false := decide_eq_false (by omega)
              have kp2 : decide ((0 : Int) < (k : Int)) = false := decide_eq_false (by omega)
              have hb0 := HP0.out (by omega)
              go_quiet (fail)
              go_wp2
              go_meet
              exact ⟨by rw [hb0], (Nx.refl _).drewN _⟩
          case rest =>
            obtain ⟨rfl, hx2⟩ := hcut
            cases hbd : bad
            · rw [hbd, if_neg (by simp)] at HV
              go_wp2_with fail
              go_roundw
              case rel => exact ⟨k + 1, by omega, by go_num, hnx2.trans hx2, by rw [HQ.out, HD.out, HV.out, if_pos rfl]⟩
              case measure => simp [intOf]; omega
            · rw [hbd, if_pos rfl] at HV
              go_wp2_with fail
              go_ret
              exact ⟨ret_int (by rw [HRF.out, HQ.out, HD.out, HV.out]; rfl), hna.trans (hnx2.trans hx2)⟩
        · have te : (r1.toList == r2.toList) = false := by rw [eqS_iff]; exact decide_eq_false heq
          have HG3 := hide (HG2.out.trans (if_neg heq))
          clear heq HG2
          rw [HG3.out] at HV
          go_quiet (fail)
          clear i1 i2 i3 i4
          go_wp2_with fail
          go_ret
          exact ⟨ret_int (by rw [HRF.out, HQ.out, HD.out, HV.out]; rfl), hna.trans (hnx1.drewN _)⟩
    · go_wp2
      go_ret
      exact ⟨ret_int (by rw [HRF.out, HQ.out, List.drop_of_length_le (by have := HBL.out; omega)]; rfl), hna.trans hbw⟩
end Go.Proofs.YtklgknepamebdaaGreatDoor
