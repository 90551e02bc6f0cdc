/- Where a node or an arc is: the reference's search. -/
import Derived.Test.YtklgknepamebdaaGreatDoorQG4
import Derived.Test.YtklgknepamebdaaGreatDoorQCheckR
import Derived.Test.YtklgknepamebdaaGreatDoorQG2
import Derived.Test.YtklgknepamebdaaGreatDoorQG8
import Derived.Deep.DeepCutAuto
import Derived.Deep.AppendLies
import Derived.Test.YtklgknepamebdaaGreatDoorQG0
namespace Go.Proofs.YtklgknepamebdaaGreatDoor
open Go.RowKit

set_option maxRecDepth 100000 in
set_option maxHeartbeats 1000000 in
theorem w_IndexFN (g : Nat) (p : Node → Bool) (cap : Value) (eg : Enters g) (lo : Nat) (A : Option Addr) (c : Nat) (l : List Node) (w : World) (hcl : ∀ (y : Node) W, Nx w W → Calls Tryz.prog g #[.agg #[.string y.key, .int .i64 y.x, .int .i64 y.y], cap] W fun e w' => e = .returned (.bool (p y)) ∧ Nx W w')
    (hR : Rd w lo A 3 encNode l) (hl : l.length ≤ 65536) :
    Calls Tryz.prog 134 #[.slice A l.length c, .func (.func g) #[] #[cap]] w fun e w' => e = .returned (.int .i64 (findI p l)) ∧ Nx w w' := by
  generalize hn : l.length = n at *
  have HR := hide hR
  have HN := hide hn
  have HC0 := hide hcl
  clear hR hn hcl
  unfold Enters at eg
  go_enter Tryz.func134, Tryz.ntmps134
  go_wp2
  go_loopw [5, 8] (fun _ i wr => ∃ k : Nat, k ≤ n ∧ i = .int .i64 k ∧ Nx w wr ∧ findI p l = idxP p (l.drop k) k) (fun _ i _ => n - (intOf i).toNat)
  case atStart => exact ⟨0, Nat.zero_le _, rfl, Nx.refl _, rfl⟩
  case round =>
    obtain ⟨k, hk, rfl, hbw, hq⟩ := hrel
    have HQ := hide hq
    clear hq
    by_cases hlt : k < n
    · have hlt' : k < l.length := by have := HN.out; omega
      obtain ⟨b, off, rfl, _, hb, hbr, hc⟩ := HR.out.open_ hbw (by omega)
      have c0 : wr.cell? ⟨b, off + k * 3, none⟩ = some (.string l[k].key) := hc k hlt' 0 _ rfl
      have c1 : wr.cell? ⟨b, off + k * 3 + 1, none⟩ = some (.int .i64 l[k].x) := hc k hlt' 1 _ rfl
      have c2 : wr.cell? ⟨b, off + k * 3 + 2, none⟩ = some (.int .i64 l[k].y) := hc k hlt' 2 _ rfl
      clear hc
      have HD := hide (idxP_drop p l k hlt')
      have hcl := fun W (h : Nx w W) => HC0.out l[k] W h
      generalize l[k] = y at *
      cases hbig : p y
      all_goals
        have HB := hide hbig
        rw [hbig] at hcl
        have HCL := hide hcl
        clear hbig hcl
        go_wp2_with (go_at_fn g; refine (HCL.out _ hbw).mono ?_; rintro e w2 ⟨rfl, hn2⟩)
      · go_roundw
        case rel => exact ⟨k + 1, by omega, by go_num, hbw.trans hn2, by rw [HQ.out, HD.out, HB.out, if_neg (by simp)]⟩
        case measure => simp [intOf]; omega
      · go_ret
        exact ⟨ret_int (by rw [HQ.out, HD.out, HB.out, if_pos rfl]), hbw.trans hn2⟩
    · go_wp2
      go_ret
      exact ⟨ret_int (by rw [HQ.out, List.drop_of_length_le (by have := HN.out; omega)]; rfl), hbw⟩
set_option maxRecDepth 100000 in
set_option maxHeartbeats 1000000 in
theorem w_IndexFA (g : Nat) (p : Arc → Bool) (cap : Value) (eg : Enters g) (lo : Nat) (A : Option Addr) (c : Nat) (l : List Arc) (w : World) (hcl : ∀ (y : Arc) W, Nx w W → Calls Tryz.prog g #[.agg #[.string y.key, .string y.from_, .string y.to_, .int .i64 y.long, .slice y.ka y.knots.length y.kc], cap] W fun e w' => e = .returned (.bool (p y)) ∧ Nx W w')
    (hR : Rd w lo A 5 encArc l) (hl : l.length ≤ 65536) :
    Calls Tryz.prog 153 #[.slice A l.length c, .func (.func g) #[] #[cap]] w fun e w' => e = .returned (.int .i64 (findI p l)) ∧ Nx w w' := by
  generalize hn : l.length = n at *
  have HR := hide hR
  have HN := hide hn
  have HC0 := hide hcl
  clear hR hn hcl
  unfold Enters at eg
  go_enter Tryz.func153, Tryz.ntmps153
  go_wp2
  go_loopw [5, 8] (fun _ i wr => ∃ k : Nat, k ≤ n ∧ i = .int .i64 k ∧ Nx w wr ∧ findI p l = idxP p (l.drop k) k) (fun _ i _ => n - (intOf i).toNat)
  case atStart => exact ⟨0, Nat.zero_le _, rfl, Nx.refl _, rfl⟩
  case round =>
    obtain ⟨k, hk, rfl, hbw, hq⟩ := hrel
    have HQ := hide hq
    clear hq
    by_cases hlt : k < n
    · have hlt' : k < l.length := by have := HN.out; omega
      obtain ⟨b, off, rfl, _, hb, hbr, hc⟩ := HR.out.open_ hbw (by omega)
      have c0 : wr.cell? ⟨b, off + k * 5, none⟩ = some (.string l[k].key) := hc k hlt' 0 _ rfl
      have c1 : wr.cell? ⟨b, off + k * 5 + 1, none⟩ = some (.string l[k].from_) := hc k hlt' 1 _ rfl
      have c2 : wr.cell? ⟨b, off + k * 5 + 2, none⟩ = some (.string l[k].to_) := hc k hlt' 2 _ rfl
      have c3 : wr.cell? ⟨b, off + k * 5 + 3, none⟩ = some (.int .i64 l[k].long) := hc k hlt' 3 _ rfl
      have c4 : wr.cell? ⟨b, off + k * 5 + 4, none⟩ = some (.slice l[k].ka l[k].knots.length l[k].kc) := hc k hlt' 4 _ rfl
      clear hc
      have HD := hide (idxP_drop p l k hlt')
      have hcl := fun W (h : Nx w W) => HC0.out l[k] W h
      generalize l[k] = y at *
      cases hbig : p y
      all_goals
        have HB := hide hbig
        rw [hbig] at hcl
        have HCL := hide hcl
        clear hbig hcl
        go_wp2_with (go_at_fn g; refine (HCL.out _ hbw).mono ?_; rintro e w2 ⟨rfl, hn2⟩)
      · go_roundw
        case rel => exact ⟨k + 1, by omega, by go_num, hbw.trans hn2, by rw [HQ.out, HD.out, HB.out, if_neg (by simp)]⟩
        case measure => simp [intOf]; omega
      · go_ret
        exact ⟨ret_int (by rw [HQ.out, HD.out, HB.out, if_pos rfl]), hbw.trans hn2⟩
    · go_wp2
      go_ret
      exact ⟨ret_int (by rw [HQ.out, List.drop_of_length_le (by have := HN.out; omega)]; rfl), hbw⟩

theorem w_NodeAt1 (s : ByteArray) (y : Node) (q : Nat) (w : World) (hq : w.cell? ⟨q, 0, none⟩ = some (.string s)) (hql : q < w.heap.size) :
    Calls Tryz.prog 135 #[.agg #[.string y.key, .int .i64 y.x, .int .i64 y.y], .pointer (some ⟨q, 0, none⟩)] w fun e w' => e = .returned (.bool (decide (y.key = s))) ∧ Nx w w' := by
  have hq2 : ∀ o, (w.alloc o).cell? ⟨q, 0, none⟩ = some (.string s) := fun o => nx_cell ((Nx.refl w).alloc o) hql hq
  go_enter Tryz.func135, Tryz.ntmps135
  go_wp2
  go_ret
  exact ⟨congrArg (fun b => Ending.returned (.bool b)) (eqS_iff _ _), (Nx.refl _).alloc _⟩
set_option maxHeartbeats 1000000 in
theorem w_NodeAt (lo : Nat) (A B C : Option Addr) (n1 n2 c1 c2 c3 : Nat) (l : List Node) (s : ByteArray) (w : World) (hR : Rd w lo A 3 encNode l) (hl : l.length ≤ 65536) :
    Calls Tryz.prog 73 #[.agg #[.slice A l.length c1, .slice B n1 c2, .slice C n2 c3], .string s] w fun e w' => e = .returned (.int .i64 (nodeI l s)) ∧ Nx w w' := by
  obtain ⟨wa, hwa⟩ : ∃ wa, wa = (w.alloc (.cells #[.slice A l.length c1, .slice B n1 c2, .slice C n2 c3] 30)).alloc (.cells #[.string s] 9) := ⟨_, rfl⟩
  have hna : Nx w wa := hwa ▸ ((Nx.refl w).alloc _).alloc _
  have hsz : wa.heap.size = w.heap.size + 1 + 1 := by rw [hwa]; simp
  have hq : wa.cell? ⟨w.heap.size + 1, 0, none⟩ = some (.string s) := by rw [hwa]; go_simp
  have hf : wa.cell? ⟨w.heap.size, 0, none⟩ = some (.slice A l.length c1) := by rw [hwa]; go_simp
  have HB := hide (w_IndexFN 135 (fun y => decide (y.key = s)) (.pointer (some ⟨w.heap.size + 1, 0, none⟩)) (enters_of Tryz.func135 (by kernel_rfl) rfl) lo A c1 l wa
    (fun y W h => w_NodeAt1 s y _ W (nx_cell h (by omega) hq) (Nat.lt_of_lt_of_le (by omega) h.sz)) (hR.nx hna) hl)
  clear hR hq
  generalize l.length = n at *
  go_enter Tryz.func73, Tryz.ntmps73
  go_wp2_with fail
  rw [← hwa]
  have HWA := hide hwa
  clear hwa
  go_wp2_with (go_at_call 134; refine HB.out.mono ?_; rintro e w2 ⟨rfl, hn2⟩)
  go_ret
  exact ⟨rfl, hna.trans hn2⟩

theorem w_ArcAt1 (s : ByteArray) (y : Arc) (q : Nat) (w : World) (hq : w.cell? ⟨q, 0, none⟩ = some (.string s)) (hql : q < w.heap.size) :
    Calls Tryz.prog 154 #[.agg #[.string y.key, .string y.from_, .string y.to_, .int .i64 y.long, .slice y.ka y.knots.length y.kc], .pointer (some ⟨q, 0, none⟩)] w fun e w' => e = .returned (.bool (decide (y.key = s))) ∧ Nx w w' := by
  have hq2 : ∀ o, (w.alloc o).cell? ⟨q, 0, none⟩ = some (.string s) := fun o => nx_cell ((Nx.refl w).alloc o) hql hq
  go_enter Tryz.func154, Tryz.ntmps154
  go_wp2
  go_ret
  exact ⟨congrArg (fun b => Ending.returned (.bool b)) (eqS_iff _ _), (Nx.refl _).alloc _⟩
set_option maxHeartbeats 1000000 in
theorem w_ArcAt (lo : Nat) (A B C : Option Addr) (n1 n2 c1 c2 c3 : Nat) (l : List Arc) (s : ByteArray) (w : World) (hR : Rd w lo B 5 encArc l) (hl : l.length ≤ 65536) :
    Calls Tryz.prog 90 #[.agg #[.slice A n1 c1, .slice B l.length c2, .slice C n2 c3], .string s] w fun e w' => e = .returned (.int .i64 (arcI l s)) ∧ Nx w w' := by
  obtain ⟨wa, hwa⟩ : ∃ wa, wa = (w.alloc (.cells #[.slice A n1 c1, .slice B l.length c2, .slice C n2 c3] 30)).alloc (.cells #[.string s] 9) := ⟨_, rfl⟩
  have hna : Nx w wa := hwa ▸ ((Nx.refl w).alloc _).alloc _
  have hsz : wa.heap.size = w.heap.size + 1 + 1 := by rw [hwa]; simp
  have hq : wa.cell? ⟨w.heap.size + 1, 0, none⟩ = some (.string s) := by rw [hwa]; go_simp
  have hf : wa.cell? ⟨w.heap.size, 1, none⟩ = some (.slice B l.length c2) := by rw [hwa]; go_simp
  have HB := hide (w_IndexFA 154 (fun y => decide (y.key = s)) (.pointer (some ⟨w.heap.size + 1, 0, none⟩)) (enters_of Tryz.func154 (by kernel_rfl) rfl) lo B c2 l wa
    (fun y W h => w_ArcAt1 s y _ W (nx_cell h (by omega) hq) (Nat.lt_of_lt_of_le (by omega) h.sz)) (hR.nx hna) hl)
  clear hR hq
  generalize l.length = n at *
  go_enter Tryz.func90, Tryz.ntmps90
  go_wp2_with fail
  rw [← hwa]
  have HWA := hide hwa
  clear hwa
  go_wp2_with (go_at_call 153; refine HB.out.mono ?_; rintro e w2 ⟨rfl, hn2⟩)
  go_ret
  exact ⟨rfl, hna.trans hn2⟩
end Go.Proofs.YtklgknepamebdaaGreatDoor
/- Bans: the reference's check. -/
namespace Go.Proofs.YtklgknepamebdaaGreatDoor
open Go.RowKit

set_option maxRecDepth 100000 in
set_option maxHeartbeats 4000000 in
theorem w_bansFaultQ (lo' lo'' : Nat) (A B C : Option Addr) (nn ca cb cc : Nat) (rs : List Arc) (bs : List Ban) (w : World)
    (hA : RdArcs w lo' B rs) (hal : rs.length ≤ 400) (hB : Rd w lo'' C 2 encBan bs) (hbl : bs.length ≤ 400) :
    Calls Tryz.prog 75 #[.agg #[.slice A nn ca, .slice B rs.length cb, .slice C bs.length cc]] w fun e w' => e = .returned (.int .i64 (chk (banF rs) none bs)) ∧ Nx w w' := by
  obtain ⟨wa, hwa⟩ : ∃ wa, wa = w.alloc (.cells #[.slice A nn ca, .slice B rs.length cb, .slice C bs.length cc] 30) := ⟨_, rfl⟩
  have hna : Nx w wa := hwa ▸ (Nx.refl w).alloc _
  have hgw : w.heap.size < wa.heap.size := by rw [hwa]; simp
  have b0 : wa.cell? ⟨w.heap.size, 0, none⟩ = some (.slice A nn ca) := by rw [hwa]; go_simp
  have b1 : wa.cell? ⟨w.heap.size, 1, none⟩ = some (.slice B rs.length cb) := by rw [hwa]; go_simp
  have b2 : wa.cell? ⟨w.heap.size, 2, none⟩ = some (.slice C bs.length cc) := by rw [hwa]; go_simp
  have HAR := hide (fun s W (hx : Nx wa W) => w_ArcAt lo' A B C nn bs.length ca cb cc rs s W ((hA.1.nx hna).nx hx) (by omega))
  have HRA := hide (hA.nx hna).1
  have HRB := hide (hB.nx hna)
  obtain ⟨V, hV⟩ : ∃ V, V = chk (banF rs) none bs := ⟨_, rfl⟩
  have HRF := hide hV
  rw [← hV]
  clear hA hB hV
  generalize hrl : rs.length = n at *
  generalize hbl' : bs.length = m at *
  have HRL := hide hrl
  have HBL := hide hbl'
  clear hrl hbl'
  have tm : decide ((m : Int) > 1000) = false := decide_eq_false (by omega)
  have tm2 : decide ((1000 : Int) < (m : Int)) = false := decide_eq_false (by omega)
  go_enter Tryz.func75, Tryz.ntmps75
  go_wp2_with fail
  rw [← hwa]
  have HWA := hide hwa
  clear hwa
  have hbw := Nx.refl wa
  generalize w.heap.size = gb at *
  go_wp2_with fail
  go_loopw [14] (fun i wr => ∃ k : Nat, k ≤ m ∧ i = .int .i64 k ∧ Nx wa wr ∧ chk (banF rs) none bs = chk (banF rs) (prevOf bs k) (bs.drop k)) (fun i _ => m - (intOf i).toNat)
  case atStart => exact ⟨0, Nat.zero_le _, rfl, hbw, rfl⟩
  case round =>
    clear hbw
    obtain ⟨k, hk, rfl, hbw, hq⟩ := hrel
    have HQ := hide hq
    clear hq
    by_cases hlt : k < m
    · have hlt' : k < bs.length := by have := HBL.out; omega
      have HD := hide (chk_drop (banF rs) bs k hlt')
      have HV := hide (banF_at rs bs k hlt')
      have HB1 := hide (nx_cell hbw hgw b1)
      have HB2 := hide (nx_cell hbw hgw b2)
      obtain ⟨b, off, rfl, _, hb, hbr, hc⟩ := HRB.out.open_ hbw (by have := HBL.out; omega)
      have c0 : wr.cell? ⟨b, off + k * 2, none⟩ = some (.string bs[k].from_) := hc k hlt' 0 _ rfl
      have c1 : wr.cell? ⟨b, off + k * 2 + 1, none⟩ = some (.string bs[k].to_) := hc k hlt' 1 _ rfl
      have HPC := hide (fun h0 : 0 < k => And.intro (show wr.cell? ⟨b, off + (k - 1) * 2, none⟩ = some (.string (bs[k - 1]'(by omega)).from_) from hc (k - 1) (by omega) 0 _ rfl) (show wr.cell? ⟨b, off + (k - 1) * 2 + 1, none⟩ = some (.string (bs[k - 1]'(by omega)).to_) from hc (k - 1) (by omega) 1 _ rfl))
      have HPV := hide (fun h0 : 0 < k => (show banBad bs k = decide (banC bs[k] (bs[k - 1]'(by omega)) ≤ 0) by
        unfold banBad
        rw [prevOf_pos _ k h0 (by omega), List.getD_eq_getElem?_getD, List.getElem?_eq_getElem hlt']; rfl))
      have HP0 := hide (fun h0 : k = 0 => (show banBad bs k = false by subst h0; rfl))
      clear hc
      generalize bs[k] = x at *
      generalize banBad bs k = bad at *
      go_upto_region 6 with fail
      obtain ⟨wk, hwk⟩ : ∃ wk, wk = wr.alloc (.cells #[.string x.from_, .string x.to_] 113) := ⟨_, rfl⟩
      have hnk : Nx wr wk := hwk ▸ (Nx.refl wr).alloc _
      have hsk : wr.heap.size < wk.heap.size := by rw [hwk]; simp
      have d0 : wk.cell? ⟨wr.heap.size, 0, none⟩ = some (.string x.from_) := by rw [hwk]; go_simp
      have d1 : wk.cell? ⟨wr.heap.size, 1, none⟩ = some (.string x.to_) := by rw [hwk]; go_simp
      rw [← hwk]
      have HWK := hide hwk
      clear hwk c0 c1
      have hnx := hbw.trans hnk
      have hgk := Nat.lt_of_lt_of_le hgw hnx.sz
      have bb0 := nx_cell hnx hgw b0
      have bb1 := nx_cell hnx hgw b1
      have bb2 := nx_cell hnx hgw b2
      obtain ⟨bx, hbx⟩ : ∃ bx, bx = wr.heap.size := ⟨_, rfl⟩
      rw [← hbx] at hsk d0 d1 ⊢
      have HBX := hide hbx
      clear hbx
      generalize hx1 : x.from_ = x1 at *
      generalize hx2 : x.to_ = x2 at *
      have HX := hide (And.intro hx1 hx2)
      clear hx1 hx2
      go_cut [5, 6] (fun v9 v10 wx => v9 = .int .i64 (arcI rs x1) ∧ v10 = .int .i64 (arcI rs x2) ∧ Nx wk wx)
      case first =>
        go_region_held3 (fun w' => w'.cell? ⟨bx, 0, none⟩ = some (.string x1) ∧ w'.cell? ⟨bx, 1, none⟩ = some (.string x2) ∧ w'.cell? ⟨gb, 0, none⟩ = some (.slice A nn ca) ∧ w'.cell? ⟨gb, 1, none⟩ = some (.slice B n cb) ∧ w'.cell? ⟨gb, 2, none⟩ = some (.slice (some ⟨b, off, none⟩) m cc))
          (first | (go_split_ands; exact ⟨nx_cell hn3 (Nat.lt_of_lt_of_le hsk hn2.sz) ‹_›, nx_cell hn3 (Nat.lt_of_lt_of_le hsk hn2.sz) ‹_›, nx_cell hn3 (Nat.lt_of_lt_of_le hgk hn2.sz) ‹_›, nx_cell hn3 (Nat.lt_of_lt_of_le hgk hn2.sz) ‹_›, nx_cell hn3 (Nat.lt_of_lt_of_le hgk hn2.sz) ‹_›⟩) | (go_split_ands; exact ⟨nx_cell hn2 hsk ‹_›, nx_cell hn2 hsk ‹_›, nx_cell hn2 hgk ‹_›, nx_cell hn2 hgk ‹_›, nx_cell hn2 hgk ‹_›⟩) | go_keep)
          (first
            | (go_at_call 90; refine (HAR.out _ _ (hnx.drew.trans hn2)).mono ?_; rintro e w3 ⟨rfl, hn3⟩)
            | (go_at_call 90; refine (HAR.out _ _ hnx.drew).mono ?_; rintro e w2 ⟨rfl, hn2⟩))
        go_wp2
        go_meet
        exact ⟨rfl, rfl, ((Nx.refl wk).drew.trans hn2).trans hn3⟩
      case rest =>
        obtain ⟨rfl, rfl, hx1⟩ := hcut
        have hnx1 := hnx.trans hx1
        clear bb0 bb1 bb2
        have HG := hide (show banG rs x = if arcI rs x1 < 0 ∨ arcI rs x2 < 0 then 8 else if (arcAt rs x1).to_ = (arcAt rs x2).from_ then 0 else 3 by unfold banG; rw [HX.out.1, HX.out.2])
        by_cases hf : arcI rs x1 < 0
        · have tf : decide (arcI rs x1 < 0) = true := decide_eq_true hf
          have HG8 := hide (HG.out.trans (if_pos (.inl hf)))
          clear hf d0 d1
          go_wp2_with fail
          go_ret
          exact ⟨ret_int (by rw [HRF.out, HQ.out, HD.out, HV.out, HG8.out]; rfl), hna.trans hnx1⟩
        by_cases ht : arcI rs x2 < 0
        · have tf : decide (arcI rs x1 < 0) = false := decide_eq_false hf
          have tt : decide (arcI rs x2 < 0) = true := decide_eq_true ht
          have HG8 := hide (HG.out.trans (if_pos (.inr ht)))
          clear hf ht d0 d1
          go_wp2_with fail
          go_ret
          exact ⟨ret_int (by rw [HRF.out, HQ.out, HD.out, HV.out, HG8.out]; rfl), hna.trans hnx1⟩
        obtain ⟨i, hi, ei⟩ : ∃ i : Nat, i < rs.length ∧ arcI rs x1 = (i : Int) := by
          rcases findI_bd (fun n : Arc => decide (n.key = x1)) rs with h | h
          · exact absurd (show arcI rs x1 < 0 by unfold arcI; omega) hf
          · exact h
        obtain ⟨j, hj, ej⟩ : ∃ i : Nat, i < rs.length ∧ arcI rs x2 = (i : Int) := by
          rcases findI_bd (fun n : Arc => decide (n.key = x2)) rs with h | h
          · exact absurd (show arcI rs x2 < 0 by unfold arcI; omega) ht
          · exact h
        have HG2 := hide (show banG rs x = if rs[i].to_ = rs[j].from_ then 0 else 3 by
          rw [HG.out, if_neg (by omega)]
          unfold arcAt
          rw [ei, ej, List.getD_eq_getElem?_getD, List.getD_eq_getElem?_getD, List.getElem?_eq_getElem (show (i : Int).toNat < rs.length from hi), List.getElem?_eq_getElem (show (j : Int).toNat < rs.length from hj)]
          rfl)
        rw [ei, ej]
        clear hf ht HG ei ej
        have B1 := nx_cell hnx1 hgw b1
        obtain ⟨ba, offa, rfl, _, hba, hbar, hca⟩ := HRA.out.open_ hnx1 (by omega)
        have a1 : wc.cell? ⟨ba, offa + i * 5 + 2, none⟩ = some (.string rs[i].to_) := hca i hi 2 _ rfl
        have a2 : wc.cell? ⟨ba, offa + j * 5 + 1, none⟩ = some (.string rs[j].from_) := hca j hj 1 _ rfl
        have hin : i < n := by have := HRL.out; omega
        have hjn : j < n := by have := HRL.out; omega
        have D0 := hide (nx_cell hx1 hsk d0)
        have D1 := hide (nx_cell hx1 hsk d1)
        clear hca d0 d1
        generalize rs[i].to_ = r1 at *
        generalize rs[j].from_ = r2 at *
        go_upto_region 9 with fail
        have i1 : (0 : Int) ≤ (i : Int) := by omega
        have i2 : (i : Int) < (n : Int) := by omega
        have i3 : (0 : Int) ≤ (j : Int) := by omega
        have i4 : (j : Int) < (n : Int) := by omega
        by_cases heq : r1 = r2
        · have te : (r1.toList == r2.toList) = true := by rw [eqS_iff]; exact decide_eq_true heq
          have HG3 := hide (HG2.out.trans (if_pos heq))
          clear heq HG2
          rw [HG3.out, if_pos rfl] at HV
          go_quiet (fail)
          clear i1 i2 i3 i4 a1 a2 te
          go_upto_region 11 with fail
          have hnx2 : Nx wa (wc.drewN nq) := hnx1.drewN _
          have E0 : (wc.drewN nq).cell? ⟨bx, 0, none⟩ = some (.string x1) := D0.out
          have E1 : (wc.drewN nq).cell? ⟨bx, 1, none⟩ = some (.string x2) := D1.out
          have hsk2 : bx < (wc.drewN nq).heap.size := Nat.lt_of_lt_of_le hsk hx1.sz
          have HWK2 := hide (hnk.trans (hx1.drewN nq))
          generalize wc.drewN nq = wd at *
          clear B1 D0 D1
          go_cut [48] (fun v wx => v = .bool bad ∧ Nx wd wx)
          case first =>
            by_cases hk0 : 0 < k
            · have p1 := nx_cell HWK2.out hbr (HPC.out hk0).1
              have p2 := nx_cell HWK2.out hbr (HPC.out hk0).2
              have B2 := nx_cell HWK2.out (Nat.lt_of_lt_of_le hgw hbw.sz) HB2.out
              have hbw2 := Nat.lt_of_lt_of_le hbr HWK2.out.sz
              have hgw2 := Nat.lt_of_lt_of_le (Nat.lt_of_lt_of_le hgw hbw.sz) HWK2.out.sz
              have hpv := HPV.out hk0
              have hxe : x = ⟨x1, x2⟩ := by obtain ⟨h1, h2⟩ := HX.out; rw [← h1, ← h2]
              rw [hxe] at hpv
              have hkz : k - 1 < bs.length := by have := HBL.out; omega
              generalize (bs[k - 1]'(by omega)) = q at *
              obtain ⟨q1, q2⟩ := q
              have k1 : IntKind.i64.wrap ((k : Int) - 1) = (k : Int) - 1 := IntWalk.i64_in _ (by omega)
              have k2 : (1 : Int) ≤ (k : Int) := by omega
              have k3 : ((k : Int) - 1).toNat = k - 1 := by omega
              have k4 : (k : Int) - 1 < (m : Int) := by omega
              have kp : decide ((k : Int) > 0) = true := decide_eq_true (by omega)
              have kp2 : decide ((0 : Int) < (k : Int)) = true := decide_eq_true (by omega)
              have t1 : decide (0 ≤ banC ⟨q1, q2⟩ ⟨x1, x2⟩) = bad := by rw [hpv]; exact decide_eq_decide.2 (banC_anti _ _).symm
              have HOR := hide (fun g c W (hg : W.heap[g]? = some (.cells #[.int .i64 (cmpS q1 x1), .int .i64 (cmpS q2 x2)] 3 (0, 0))) => w_OrI2 _ _ g c W hg)
              rw [show (if cmpS q1 x1 = 0 then cmpS q2 x2 else cmpS q1 x1) = banC ⟨q1, q2⟩ ⟨x1, x2⟩ from rfl] at HOR
              clear hpv
              generalize banC ⟨q1, q2⟩ ⟨x1, x2⟩ = bz at *
              go_region_held3 (fun w' => w'.cell? ⟨bx, 0, none⟩ = some (.string x1) ∧ w'.cell? ⟨bx, 1, none⟩ = some (.string x2) ∧ w'.cell? ⟨b, off + (k - 1) * 2, none⟩ = some (.string q1) ∧ w'.cell? ⟨b, off + (k - 1) * 2 + 1, none⟩ = some (.string q2) ∧ w'.cell? ⟨gb, 2, none⟩ = some (.slice (some ⟨b, off, none⟩) m cc))
                (go_keep)
                (first
                  | (go_at_call 137; refine (w_CompareS _ _ _).mono ?_; rintro e w' ⟨rfl, rfl⟩)
                  | (go_at_call 136; refine (HOR.out _ _ _ (hnew_drew rfl)).mono ?_; rintro e w' ⟨rfl, rfl⟩))
              go_wp2
              go_meet
              exact ⟨rfl, ((Nx.refl wd).alloc _).drew⟩
            · have kp : decide ((k : Int) > 0) = false := decide_eq_false (by omega)
              have kp2 : decide ((0 : Int) < (k : Int)) = false := decide_eq_false (by omega)
              have hb0 := HP0.out (by omega)
              go_quiet (fail)
              go_wp2
              go_meet
              exact ⟨by rw [hb0], (Nx.refl _).drewN _⟩
          case rest =>
            obtain ⟨rfl, hx2⟩ := hcut
            cases hbd : bad
            · rw [hbd, if_neg (by simp)] at HV
              go_wp2_with fail
              go_roundw
              case rel => exact ⟨k + 1, by omega, by go_num, hnx2.trans hx2, by rw [HQ.out, HD.out, HV.out, if_pos rfl]⟩
              case measure => simp [intOf]; omega
            · rw [hbd, if_pos rfl] at HV
              go_wp2_with fail
              go_ret
              exact ⟨ret_int (by rw [HRF.out, HQ.out, HD.out, HV.out]; rfl), hna.trans (hnx2.trans hx2)⟩
        · have te : (r1.toList == r2.toList) = false := by rw [eqS_iff]; exact decide_eq_false heq
          have HG3 := hide (HG2.out.trans (if_neg heq))
          clear heq HG2
          rw [HG3.out] at HV
          go_quiet (fail)
          clear i1 i2 i3 i4
          go_wp2_with fail
          go_ret
          exact ⟨ret_int (by rw [HRF.out, HQ.out, HD.out, HV.out]; rfl), hna.trans (hnx1.drewN _)⟩
    · go_wp2
      go_ret
      exact ⟨ret_int (by rw [HRF.out, HQ.out, List.drop_of_length_le (by have := HBL.out; omega)]; rfl), hna.trans hbw⟩
end Go.Proofs.YtklgknepamebdaaGreatDoor
/- What is wrong with knots: the reference. -/
namespace Go.Proofs.YtklgknepamebdaaGreatDoor
open Go.RowKit

set_option maxRecDepth 100000 in
set_option maxHeartbeats 2000000 in
theorem w_knotsFaultQ (lo : Nat) (A : Option Addr) (c : Nat) (l : List Knot) (w : World) (hR : Rd w lo A 2 encKnot l) (hl : l.length ≤ 65536) :
    Calls Tryz.prog 74 #[.slice A l.length c] w fun e w' => e = .returned (.int .i64 (knotsF l)) ∧ Nx w w' := by
  generalize hn : l.length = n at *
  have HR := hide hR
  have HN := hide hn
  clear hR hn
  by_cases h0 : n = 0
  · have t0 : ((n : Int) == 0) = true := by simpa using h0
    have H0 := hide h0
    clear h0
    go_enter Tryz.func74, Tryz.ntmps74
    go_wp2
    go_ret
    exact ⟨ret_int (by unfold knotsF; rw [if_pos (by rw [HN.out]; exact H0.out)]), Nx.refl _⟩
  have t0 : ((n : Int) == 0) = false := by simpa using h0
  have h0' : 0 < n := by omega
  by_cases hbig : 48 < n
  · go_enter Tryz.func74, Tryz.ntmps74
    go_wp2
    go_ret
    exact ⟨ret_int (by unfold knotsF; rw [if_neg (by rw [HN.out]; exact h0), if_pos (by rw [HN.out]; exact hbig)]), Nx.refl _⟩
  · have HF := hide (show knotsF l = if chk knotF none l = 0 then fallF l l.length else chk knotF none l by unfold knotsF; rw [if_neg (by rw [HN.out]; exact h0), if_neg (by rw [HN.out]; exact hbig)])
    clear h0
    go_enter Tryz.func74, Tryz.ntmps74
    go_wp2
    go_loopw [2, 3, 4, 18] (fun _ _ _ i wr => ∃ k : Nat, k ≤ n ∧ i = .int .i64 k ∧ Nx w wr ∧ chk knotF none l = chk knotF (prevOf l k) (l.drop k) ∧ (∀ j, j < k → (0 ≤ (l.getD j default).at_ ∧ (l.getD j default).at_ ≤ 86399999) ∧ (1 ≤ (l.getD j default).time ∧ (l.getD j default).time ≤ 3600000))) (fun _ _ _ i _ => n - (intOf i).toNat)
    case atStart => exact ⟨0, Nat.zero_le _, rfl, Nx.refl _, rfl, fun j hj => by omega⟩
    case round =>
      obtain ⟨k, hk, rfl, hbw, hq, hbd⟩ := hrel
      have HQ := hide hq
      have HBD := hide hbd
      clear hq hbd
      by_cases hlt : k < n
      · have hlt' : k < l.length := by have := HN.out; omega
        obtain ⟨b, off, rfl, _, hb, hbr, hc⟩ := HR.out.open_ hbw (by omega)
        have c0 : wr.cell? ⟨b, off + k * 2, none⟩ = some (.int .i64 l[k].at_) := hc k hlt' 0 _ rfl
        have c1 : wr.cell? ⟨b, off + k * 2 + 1, none⟩ = some (.int .i64 l[k].time) := hc k hlt' 1 _ rfl
        have HC := hide hc
        clear hc
        have HD := hide (chk_drop knotF l k hlt')
        have HE := hide (knot_at hlt')
        cases ho1 : outB l[k].at_ 0 86399999
        · have f1 : inB l[k].at_ 0 86399999 = true := by rw [inB_out, ho1]; rfl
          cases ho2 : outB l[k].time 1 3600000
          · have f2 : inB l[k].time 1 3600000 = true := by rw [inB_out, ho2]; rfl
            have hb1 := outB_false.1 ho1
            have hb2 := outB_false.1 ho2
            have HX := hide (And.intro hb1 hb2)
            by_cases hk0 : 0 < k
            · have c4 : wr.cell? ⟨b, off + (k - 1) * 2, none⟩ = some (.int .i64 (l[k - 1]'(by omega)).at_) := HC.out (k - 1) (by omega) 0 _ rfl
              have HV := hide (show knotF (prevOf l k) l[k] = if l[k].at_ ≤ (l[k - 1]'(by omega)).at_ then 7 else 0 by rw [prevOf_pos l k hk0 (by omega)]; unfold knotF dayMs; rw [show (86400000 : Int) - 1 = 86399999 from rfl, ho1, ho2]; rfl)
              generalize (l[k - 1]'(by omega)).at_ = p0 at *
              have q0 : decide ((0 : Int) < (k : Int)) = true := by simpa using hk0
              have q00 : ((k : Int) == 0) = false := by simp; omega
              have q1 : IntKind.i64.wrap ((k : Int) - 1) = (k : Int) - 1 := IntWalk.i64_in _ (by omega)
              have q2 : (1 : Int) ≤ (k : Int) := by omega
              have q3 : ((k : Int) - 1).toNat = k - 1 := by omega
              have q4 : (k : Int) - 1 < (n : Int) := by omega
              by_cases hle : l[k].at_ ≤ p0
              · have t1 : decide (l[k].at_ ≤ p0) = true := by simpa using hle
                have HLE := hide hle
                clear hle
                go_wp2_with (go_at_call 72; refine (w_in _ _ _ _).mono ?_; rintro e w' ⟨rfl, rfl⟩)
                go_quiet (fail)
                go_wp2
                go_ret
                exact ⟨ret_int (by rw [HF.out, HQ.out, HD.out, HV.out, if_pos HLE.out]; rfl), (hbw.alloc _).drewN _⟩
              · have t1 : decide (l[k].at_ ≤ p0) = false := by simpa using hle
                have HLE := hide hle
                clear hle
                go_wp2_with (go_at_call 72; refine (w_in _ _ _ _).mono ?_; rintro e w' ⟨rfl, rfl⟩)
                go_quiet (fail)
                go_wp2
                go_roundw
                case rel => exact ⟨k + 1, by omega, by go_num, (hbw.alloc _).drewN _, by rw [HQ.out, HD.out, HV.out, if_neg (Int.not_le.2 HLE.out), if_pos rfl], fun j hj => by
                  rcases Nat.lt_or_ge j k with h1 | h1
                  · exact HBD.out j h1
                  · have : j = k := by omega
                    subst this; rw [HE.out]; exact HX.out⟩
                case measure => simp [intOf]; omega
            · have hk1 : k = 0 := by omega
              have HV := hide (show knotF (prevOf l k) l[k] = if l[k].at_ = 0 then 0 else 7 by subst hk1; rw [prevOf_zero]; unfold knotF dayMs; rw [show (86400000 : Int) - 1 = 86399999 from rfl, ho1, ho2]; rfl)
              clear hk1
              have q0 : decide ((0 : Int) < (k : Int)) = false := by simpa using hk0
              have q00 : ((k : Int) == 0) = true := by simp; omega
              by_cases hz : l[k].at_ = 0
              · have t1 : (l[k].at_ != 0) = false := by simpa using hz
                have HZ := hide hz
                clear hz
                go_wp2_with (go_at_call 72; refine (w_in _ _ _ _).mono ?_; rintro e w' ⟨rfl, rfl⟩)
                go_quiet (fail)
                go_wp2
                go_roundw
                case rel => exact ⟨k + 1, by omega, by go_num, (hbw.alloc _).drewN _, by rw [HQ.out, HD.out, HV.out, if_pos HZ.out, if_pos rfl], fun j hj => by
                  have : j = k := by omega
                  subst this; rw [HE.out]; exact HX.out⟩
                case measure => simp [intOf]; omega
              · have t1 : (l[k].at_ != 0) = true := by simpa using hz
                have HZ := hide hz
                clear hz
                go_wp2_with (go_at_call 72; refine (w_in _ _ _ _).mono ?_; rintro e w' ⟨rfl, rfl⟩)
                go_ret
                exact ⟨ret_int (by rw [HF.out, HQ.out, HD.out, HV.out, if_neg HZ.out]; rfl), hbw.alloc _⟩
          · have f2 : inB l[k].time 1 3600000 = false := by rw [inB_out, ho2]; rfl
            have HV := hide (show knotF (prevOf l k) l[k] = 1 by unfold knotF dayMs; rw [show (86400000 : Int) - 1 = 86399999 from rfl, ho1, ho2]; rfl)
            go_wp2_with (go_at_call 72; refine (w_in _ _ _ _).mono ?_; rintro e w' ⟨rfl, rfl⟩)
            go_ret
            exact ⟨ret_int (by rw [HF.out, HQ.out, HD.out, HV.out]; rfl), hbw.alloc _⟩
        · have f1 : inB l[k].at_ 0 86399999 = false := by rw [inB_out, ho1]; rfl
          have HV := hide (show knotF (prevOf l k) l[k] = 1 by unfold knotF dayMs; rw [show (86400000 : Int) - 1 = 86399999 from rfl, ho1]; rfl)
          go_wp2_with (go_at_call 72; refine (w_in _ _ _ _).mono ?_; rintro e w' ⟨rfl, rfl⟩)
          go_ret
          exact ⟨ret_int (by rw [HF.out, HQ.out, HD.out, HV.out]; rfl), hbw.alloc _⟩
      · have hkn : k = n := by omega
        subst hkn
        have H0 := hide (show chk knotF none l = 0 by rw [HQ.out, List.drop_of_length_le (by have := HN.out; omega)]; rfl)
        clear HQ hlt
        go_wp2_with fail
        go_loopw [2, 5, 6, 7, 58] (fun _ _ _ _ i wr => ∃ j : Nat, j ≤ k ∧ i = .int .i64 j ∧ Nx w wr ∧ fallF l l.length = fallF l (l.length - j)) (fun _ _ _ _ i _ => k - (intOf i).toNat)
        case atStart => exact ⟨0, Nat.zero_le _, rfl, hbw, rfl⟩
        case round =>
          clear hbw
          obtain ⟨j, hj, rfl, hbw, hq⟩ := hrel
          have HQ := hide hq
          clear hq
          by_cases hlt : j < k
          · have hlt' : j < l.length := by have := HN.out; omega
            have HFA := hide (fallF_at l j hlt')
            obtain ⟨b, off, rfl, _, hb, hbr, hc⟩ := HR.out.open_ hbw (by omega)
            have c0 : wr.cell? ⟨b, off + j * 2, none⟩ = some (.int .i64 l[j].at_) := hc j hlt' 0 _ rfl
            have c1 : wr.cell? ⟨b, off + j * 2 + 1, none⟩ = some (.int .i64 l[j].time) := hc j hlt' 1 _ rfl
            have cz : wr.cell? ⟨b, off + 1, none⟩ = some (.int .i64 (l[0]'(by omega)).time) := by have := hc 0 (by omega) 1 _ rfl; simpa using this
            have hx := HBD.out j hlt
            have hz := HBD.out 0 (by omega)
            rw [knot_at hlt'] at hx
            rw [knot_at (show 0 < l.length by omega)] at hz
            have HB := hide (show fallsB l j = decide ((afterK l j).at_ - l[j].at_ < l[j].time - (afterK l j).time) by unfold fallsB; rw [knot_at hlt'])
            obtain ⟨⟨hx1, hx2⟩, hx3, hx4⟩ := hx
            obtain ⟨⟨hz1, hz2⟩, hz3, hz4⟩ := hz
            have q1 : IntKind.i64.wrap ((j : Int) + 1) = ((j + 1 : Nat) : Int) := by rw [IntWalk.i64_in _ (by omega)]; rfl
            have q3 : ((j + 1 : Nat) : Int).toNat = j + 1 := by omega
            by_cases h1 : j + 1 < k
            · have hlt2 : j + 1 < l.length := by have := HN.out; omega
              have q2 : decide (((j + 1 : Nat) : Int) < (k : Int)) = true := decide_eq_true (by omega)
              have q4 : ((j + 1 : Nat) : Int) < (k : Int) := by omega
              have q5 : (0 : Int) ≤ ((j + 1 : Nat) : Int) := by omega
              have c2 : wr.cell? ⟨b, off + (j + 1) * 2, none⟩ = some (.int .i64 l[j + 1].at_) := hc (j + 1) hlt2 0 _ rfl
              have c3 : wr.cell? ⟨b, off + (j + 1) * 2 + 1, none⟩ = some (.int .i64 l[j + 1].time) := hc (j + 1) hlt2 1 _ rfl
              have HY := hide (show afterK l j = l[j + 1] by unfold afterK; rw [if_pos hlt2, knot_at hlt2])
              rw [HY.out] at HB
              have hy := HBD.out (j + 1) h1
              rw [knot_at hlt2] at hy
              obtain ⟨⟨hy1, hy2⟩, hy3, hy4⟩ := hy
              clear hc HY
              generalize l[j + 1] = y at *
              generalize l[j] = x at *
              generalize (l[0]'(by omega)).time = z at *
              by_cases hfall : y.at_ - x.at_ < x.time - y.time
              · have t1 : decide (y.at_ - x.at_ < x.time - y.time) = true := by simpa using hfall
                have HFL := hide hfall
                clear hfall
                go_wp2_with fail
                go_ret
                exact ⟨ret_int (by rw [HF.out, if_pos H0.out, HQ.out, HFA.out, HB.out, decide_eq_true HFL.out]; rfl), by repeat (first | exact hbw | refine Nx.alloc ?_ _ | refine Nx.setCell ?_ (by have := hbw.sz; simp; omega) _)⟩
              · have t1 : decide (y.at_ - x.at_ < x.time - y.time) = false := by simpa using hfall
                have HFL := hide hfall
                clear hfall
                go_wp2_with fail
                go_roundw
                case rel => exact ⟨j + 1, by omega, by go_num, (by repeat (first | exact hbw | refine Nx.alloc ?_ _ | refine Nx.setCell ?_ (by have := hbw.sz; simp; omega) _)), by rw [HQ.out, HFA.out, HB.out, decide_eq_false HFL.out]; rfl⟩
                case measure => simp [intOf]; omega
            · have q2 : decide (((j + 1 : Nat) : Int) < (k : Int)) = false := decide_eq_false (by omega)
              have HY := hide (show afterK l j = ⟨86400000, (l[0]'(by omega)).time⟩ by unfold afterK; rw [if_neg (by have := HN.out; omega), knot_at (by omega)]; rfl)
              rw [HY.out] at HB
              clear hc HY
              generalize l[j] = x at *
              generalize (l[0]'(by omega)).time = z at *
              by_cases hfall : 86400000 - x.at_ < x.time - z
              · have t1 : decide (86400000 - x.at_ < x.time - z) = true := by simpa using hfall
                have HFL := hide hfall
                clear hfall
                go_wp2_with fail
                go_ret
                exact ⟨ret_int (by rw [HF.out, if_pos H0.out, HQ.out, HFA.out, HB.out, decide_eq_true HFL.out]; rfl), by repeat (first | exact hbw | refine Nx.alloc ?_ _ | refine Nx.setCell ?_ (by have := hbw.sz; simp; omega) _)⟩
              · have t1 : decide (86400000 - x.at_ < x.time - z) = false := by simpa using hfall
                have HFL := hide hfall
                clear hfall
                go_wp2_with fail
                go_roundw
                case rel => exact ⟨j + 1, by omega, by go_num, (by repeat (first | exact hbw | refine Nx.alloc ?_ _ | refine Nx.setCell ?_ (by have := hbw.sz; simp; omega) _)), by rw [HQ.out, HFA.out, HB.out, decide_eq_false HFL.out]; rfl⟩
                case measure => simp [intOf]; omega
          · go_wp2
            go_ret
            exact ⟨ret_int (by rw [HF.out, if_pos H0.out, HQ.out, show l.length - j = 0 by have := HN.out; omega]; rfl), hbw⟩
end Go.Proofs.YtklgknepamebdaaGreatDoor
/- Roads: the reference's check. -/
namespace Go.Proofs.YtklgknepamebdaaGreatDoor
open Go.RowKit

def nodeBad (ns : List Node) (k : Nat) : Bool := match prevOf ns k with | some q => strLe (ns.getD k default).key q.key | none => false
theorem nodeF_at (ns : List Node) (k : Nat) (hk : k < ns.length) : nodeF (prevOf ns k) ns[k] = if keyB ns[k].key then (if nodeBad ns k then 7 else ptF ns[k].x ns[k].y) else 5 := by
  have e : ns.getD k default = ns[k] := by rw [List.getD_eq_getElem?_getD, List.getElem?_eq_getElem hk]; rfl
  unfold nodeF nodeBad
  rw [e]
  cases prevOf ns k with
  | none => simp
  | some q => rfl

set_option maxRecDepth 100000 in
set_option maxHeartbeats 4000000 in
theorem w_RoadsFault (lo lo' lo'' : Nat) (A B C : Option Addr) (ca cb cc : Nat) (ns : List Node) (rs : List Arc) (bs : List Ban) (w : World)
    (hN : Rd w lo A 3 encNode ns) (hS : SmallN ns) (hnl : ns.length ≤ 400) (hA : RdArcs w lo' B rs) (hal : rs.length ≤ 400) (hB : Rd w lo'' C 2 encBan bs) (hbl : bs.length ≤ 400) :
    Calls Tryz.prog 16 #[.agg #[.slice A ns.length ca, .slice B rs.length cb, .slice C bs.length cc]] w fun e w' => e = .returned (.int .i64 (roadsF ns rs bs)) ∧ Nx w w' := by
  obtain ⟨wa, hwa⟩ : ∃ wa, wa = w.alloc (.cells #[.slice A ns.length ca, .slice B rs.length cb, .slice C bs.length cc] 30) := ⟨_, rfl⟩
  have hna : Nx w wa := hwa ▸ (Nx.refl w).alloc _
  have hgw : w.heap.size < wa.heap.size := by rw [hwa]; simp
  have b0 : wa.cell? ⟨w.heap.size, 0, none⟩ = some (.slice A ns.length ca) := by rw [hwa]; go_simp
  have b1 : wa.cell? ⟨w.heap.size, 1, none⟩ = some (.slice B rs.length cb) := by rw [hwa]; go_simp
  have b2 : wa.cell? ⟨w.heap.size, 2, none⟩ = some (.slice C bs.length cc) := by rw [hwa]; go_simp
  have HND := hide (fun s W (hx : Nx wa W) => w_NodeAt lo A B C rs.length bs.length ca cb cc ns s W ((hN.nx hna).nx hx) (by omega))
  have HBF := hide (fun W (hx : Nx wa W) => w_bansFaultQ lo' lo'' A B C ns.length ca cb cc rs bs W ((hA.nx hna).nx hx) hal ((hB.nx hna).nx hx) hbl)
  have HRN := hide (hN.nx hna)
  have HSN := hide hS
  have HRA := hide (hA.nx hna).1
  have HKN := hide (hA.nx hna).2
  have HRF := hide (show roadsF ns rs bs = if nodesF ns = 0 then (if chk (arcF ns) none rs = 0 then chk (banF rs) none bs else chk (arcF ns) none rs) else nodesF ns from rfl)
  have HNF := hide (show nodesF ns = chk nodeF none ns by unfold nodesF; rw [if_neg (by omega)])
  clear hN hS hA hB
  generalize roadsF ns rs bs = V at *
  generalize hnl' : ns.length = l at *
  generalize hrl : rs.length = n at *
  generalize hbl' : bs.length = m at *
  have HNL := hide hnl'
  have HRL := hide hrl
  have HBL := hide hbl'
  clear hnl' hrl hbl'
  have tl : decide ((l : Int) > 500) = false := decide_eq_false (by omega)
  have tl2 : decide ((500 : Int) < (l : Int)) = false := decide_eq_false (by omega)
  have tn : decide ((n : Int) > 2000) = false := decide_eq_false (by omega)
  have tn2 : decide ((2000 : Int) < (n : Int)) = false := decide_eq_false (by omega)
  go_enter Tryz.func16, Tryz.ntmps16
  go_wp2_with fail
  rw [← hwa]
  have HWA := hide hwa
  clear hwa
  generalize w.heap.size = gb at *
  have hbw := Nx.refl wa
  go_wp2_with fail
  go_loopw [15] (fun i wr => ∃ k : Nat, k ≤ l ∧ i = .int .i64 k ∧ Nx wa wr ∧ chk nodeF none ns = chk nodeF (prevOf ns k) (ns.drop k)) (fun i _ => l - (intOf i).toNat)
  case atStart => exact ⟨0, Nat.zero_le _, rfl, hbw, rfl⟩
  case round =>
    clear hbw
    obtain ⟨k, hk, rfl, hbw, hq⟩ := hrel
    have HQ := hide hq
    clear hq
    by_cases hlt : k < l
    · have hlt' : k < ns.length := by have := HNL.out; omega
      have HD := hide (chk_drop nodeF ns k hlt')
      have HV := hide (nodeF_at ns k hlt')
      have HB0 := hide (nx_cell hbw hgw b0)
      obtain ⟨b, off, rfl, _, hb, hbr, hc⟩ := HRN.out.open_ hbw (by have := HNL.out; omega)
      have c0 : wr.cell? ⟨b, off + k * 3, none⟩ = some (.string ns[k].key) := hc k hlt' 0 _ rfl
      have c1 : wr.cell? ⟨b, off + k * 3 + 1, none⟩ = some (.int .i64 ns[k].x) := hc k hlt' 1 _ rfl
      have c2 : wr.cell? ⟨b, off + k * 3 + 2, none⟩ = some (.int .i64 ns[k].y) := hc k hlt' 2 _ rfl
      have HPC := hide (fun h0 : 0 < k => (show wr.cell? ⟨b, off + (k - 1) * 3, none⟩ = some (.string (ns[k - 1]'(by omega)).key) from hc (k - 1) (by omega) 0 _ rfl))
      have HPV := hide (fun h0 : 0 < k => (show nodeBad ns k = strLe ns[k].key (ns[k - 1]'(by omega)).key by
        unfold nodeBad
        rw [prevOf_pos _ k h0 (by omega), List.getD_eq_getElem?_getD, List.getElem?_eq_getElem hlt']; rfl))
      have HP0 := hide (fun h0 : k = 0 => (show nodeBad ns k = false by subst h0; rfl))
      clear hc
      have hSx := HSN.out ns[k] (List.getElem_mem hlt')
      generalize ns[k] = x at *
      generalize nodeBad ns k = bad at *
      go_wp2_with fail
      obtain ⟨wk, hwk⟩ : ∃ wk, wk = wr.alloc (.cells #[.string x.key, .int .i64 x.x, .int .i64 x.y] 39) := ⟨_, rfl⟩
      have hnk0 : Nx wr wk := hwk ▸ (Nx.refl wr).alloc _
      have hsk0 : wr.heap.size < wk.heap.size := by rw [hwk]; simp
      have d0 : wk.cell? ⟨wr.heap.size, 0, none⟩ = some (.string x.key) := by rw [hwk]; go_simp
      have d1 : wk.cell? ⟨wr.heap.size, 1, none⟩ = some (.int .i64 x.x) := by rw [hwk]; go_simp
      have d2 : wk.cell? ⟨wr.heap.size, 2, none⟩ = some (.int .i64 x.y) := by rw [hwk]; go_simp
      rw [← hwk]
      have HWK := hide hwk
      clear hwk c0 c1 c2
      refine (w_KeyR _ _ hSx).mono ?_
      rintro e wj ⟨rfl, hnj⟩
      replace d0 := nx_cell hnj hsk0 d0
      replace d1 := nx_cell hnj hsk0 d1
      replace d2 := nx_cell hnj hsk0 d2
      have hsk := Nat.lt_of_lt_of_le hsk0 hnj.sz
      have hnk := hnk0.trans hnj
      have hnx := hbw.trans hnk
      clear hnk0 hsk0
      cases hkb : keyB x.key
      · rw [hkb] at HV
        go_wp2_with fail
        go_ret
        exact ⟨ret_int (by rw [HRF.out, HNF.out, HQ.out, HD.out, HV.out]; rfl), hna.trans hnx⟩
      rw [hkb, if_pos rfl] at HV
      go_upto_region 8 with fail
      go_cut [25] (fun v wx => v = .bool bad ∧ Nx wj wx)
      case first =>
        clear d1 d2
        by_cases hk0 : 0 < k
        · have hp := nx_cell hnk hbr (HPC.out hk0)
          have B0 := nx_cell hnk (Nat.lt_of_lt_of_le hgw hbw.sz) HB0.out
          have hpv := HPV.out hk0
          have hkz : k - 1 < ns.length := by have := HNL.out; omega
          generalize (ns[k - 1]'(by omega)).key = p0 at *
          have k1 : IntKind.i64.wrap ((k : Int) - 1) = (k : Int) - 1 := IntWalk.i64_in _ (by omega)
          have k2 : (1 : Int) ≤ (k : Int) := by omega
          have k3 : ((k : Int) - 1).toNat = k - 1 := by omega
          have k4 : (k : Int) - 1 < (l : Int) := by omega
          have kp : decide ((k : Int) > 0) = true := decide_eq_true (by omega)
          have kp2 : decide ((0 : Int) < (k : Int)) = true := decide_eq_true (by omega)
          have t1 : (Op.bytesLess x.key.toList p0.toList || x.key.toList == p0.toList) = bad := hpv.symm
          clear hpv
          go_quiet (fail)
          go_wp2
          go_meet
          exact ⟨rfl, (Nx.refl _).drewN _⟩
        · have kp : decide ((k : Int) > 0) = false := decide_eq_false (by omega)
          have kp2 : decide ((0 : Int) < (k : Int)) = false := decide_eq_false (by omega)
          have hb0 := HP0.out (by omega)
          go_quiet (fail)
          go_wp2
          go_meet
          exact ⟨by rw [hb0], (Nx.refl _).drewN _⟩
      case rest =>
        obtain ⟨rfl, hx1⟩ := hcut
        cases hbd : bad
        · rw [hbd, if_neg (by simp)] at HV
          have e1 := nx_cell hx1 hsk d1
          have e2 := nx_cell hx1 hsk d2
          have hnx1 := hnx.trans hx1
          clear d0 d1 d2 HB0
          cases ho1 : outB x.x (-10000) 10000
          · have f1 : inB x.x (-10000) 10000 = true := by rw [inB_out, ho1]; rfl
            cases ho2 : outB x.y (-10000) 10000
            · have f2 : inB x.y (-10000) 10000 = true := by rw [inB_out, ho2]; rfl
              have HP := hide (show ptF x.x x.y = 0 by unfold ptF isPtB; rw [ho1, ho2]; rfl)
              go_wp2_with (go_at_call 72; refine (w_in _ _ _ _).mono ?_; rintro e w' ⟨rfl, rfl⟩)
              go_roundw
              case rel => exact ⟨k + 1, by omega, by go_num, hnx1, by rw [HQ.out, HD.out, HV.out, HP.out, if_pos rfl]⟩
              case measure => simp [intOf]; omega
            · have f2 : inB x.y (-10000) 10000 = false := by rw [inB_out, ho2]; rfl
              have HP := hide (show ptF x.x x.y = 1 by unfold ptF isPtB; rw [ho1, ho2]; rfl)
              go_wp2_with (go_at_call 72; refine (w_in _ _ _ _).mono ?_; rintro e w' ⟨rfl, rfl⟩)
              go_ret
              exact ⟨ret_int (by rw [HRF.out, HNF.out, HQ.out, HD.out, HV.out, HP.out]; rfl), hna.trans hnx1⟩
          · have f1 : inB x.x (-10000) 10000 = false := by rw [inB_out, ho1]; rfl
            have HP := hide (show ptF x.x x.y = 1 by unfold ptF isPtB; rw [ho1]; rfl)
            go_wp2_with (go_at_call 72; refine (w_in _ _ _ _).mono ?_; rintro e w' ⟨rfl, rfl⟩)
            go_ret
            exact ⟨ret_int (by rw [HRF.out, HNF.out, HQ.out, HD.out, HV.out, HP.out]; rfl), hna.trans hnx1⟩
        · rw [hbd, if_pos rfl] at HV
          go_wp2_with fail
          go_ret
          exact ⟨ret_int (by rw [HRF.out, HNF.out, HQ.out, HD.out, HV.out]; rfl), hna.trans (hnx.trans hx1)⟩
    · have H0 : nodesF ns = 0 := by rw [HNF.out, HQ.out, List.drop_of_length_le (by have := HNL.out; omega)]; rfl
      have HRF := hide (HRF.out.trans (if_pos H0))
      obtain rfl : l = k := by omega
      clear H0 HQ HNF HSN hlt hk
      have B1 := nx_cell hbw hgw b1
      go_wp2_with fail
      clear B1
      go_loopw [59] (fun i wr => ∃ k : Nat, k ≤ n ∧ i = .int .i64 k ∧ Nx wa wr ∧ chk (arcF ns) none rs = chk (arcF ns) (prevOf rs k) (rs.drop k)) (fun i _ => n - (intOf i).toNat)
      case atStart => exact ⟨0, Nat.zero_le _, rfl, hbw, rfl⟩
      case round =>
        clear hbw
        obtain ⟨k, hk, rfl, hbw, hq⟩ := hrel
        have HQ := hide hq
        clear hq
        by_cases hlt : k < n
        · have hlt' : k < rs.length := by have := HRL.out; omega
          have HD := hide (chk_drop (arcF ns) rs k hlt')
          have HV := hide (arcF_at ns rs k hlt')
          have HB1 := hide (nx_cell hbw hgw b1)
          obtain ⟨b, off, rfl, _, hb, hbr, hc⟩ := HRA.out.open_ hbw (by have := HRL.out; omega)
          have c0 : wr.cell? ⟨b, off + k * 5, none⟩ = some (.string rs[k].key) := hc k hlt' 0 _ rfl
          have c1 : wr.cell? ⟨b, off + k * 5 + 1, none⟩ = some (.string rs[k].from_) := hc k hlt' 1 _ rfl
          have c2 : wr.cell? ⟨b, off + k * 5 + 2, none⟩ = some (.string rs[k].to_) := hc k hlt' 2 _ rfl
          have c3 : wr.cell? ⟨b, off + k * 5 + 3, none⟩ = some (.int .i64 rs[k].long) := hc k hlt' 3 _ rfl
          have c4 : wr.cell? ⟨b, off + k * 5 + 4, none⟩ = some (.slice rs[k].ka rs[k].knots.length rs[k].kc) := hc k hlt' 4 _ rfl
          have HPC := hide (fun h0 : 0 < k => (show wr.cell? ⟨b, off + (k - 1) * 5, none⟩ = some (.string (rs[k - 1]'(by omega)).key) from hc (k - 1) (by omega) 0 _ rfl))
          have HPV := hide (fun h0 : 0 < k => (show arcBad rs k = strLe rs[k].key (rs[k - 1]'(by omega)).key by
            unfold arcBad
            rw [prevOf_pos _ k h0 (by omega), List.getD_eq_getElem?_getD, List.getElem?_eq_getElem hlt']; rfl))
          have HP0 := hide (fun h0 : k = 0 => (show arcBad rs k = false by subst h0; rfl))
          clear hc
          obtain ⟨hKx, hLx, hSx⟩ := HKN.out rs[k] (List.getElem_mem hlt')
          have HKF := hide (fun W (hx : Nx wa W) => w_knotsFaultQ lo' rs[k].ka rs[k].kc rs[k].knots W (hKx.nx hx) (by omega))
          clear hKx
          generalize rs[k] = x at *
          generalize hkl : x.knots.length = r at *
          generalize arcBad rs k = bad at *
          have HKL := hide hkl
          clear hkl
          go_wp2_with fail
          obtain ⟨wk, hwk⟩ : ∃ wk, wk = wr.alloc (.cells #[.string x.key, .string x.from_, .string x.to_, .int .i64 x.long, .slice x.ka r x.kc] 83) := ⟨_, rfl⟩
          have hnk0 : Nx wr wk := hwk ▸ (Nx.refl wr).alloc _
          have hsk0 : wr.heap.size < wk.heap.size := by rw [hwk]; simp
          have d0 : wk.cell? ⟨wr.heap.size, 0, none⟩ = some (.string x.key) := by rw [hwk]; go_simp
          have d1 : wk.cell? ⟨wr.heap.size, 1, none⟩ = some (.string x.from_) := by rw [hwk]; go_simp
          have d2 : wk.cell? ⟨wr.heap.size, 2, none⟩ = some (.string x.to_) := by rw [hwk]; go_simp
          have d3 : wk.cell? ⟨wr.heap.size, 3, none⟩ = some (.int .i64 x.long) := by rw [hwk]; go_simp
          have d4 : wk.cell? ⟨wr.heap.size, 4, none⟩ = some (.slice x.ka r x.kc) := by rw [hwk]; go_simp
          rw [← hwk]
          have HWK := hide hwk
          clear hwk c0 c1 c2 c3 c4
          refine (w_KeyR _ _ hSx).mono ?_
          rintro e wj ⟨rfl, hnj⟩
          replace d0 := nx_cell hnj hsk0 d0
          replace d1 := nx_cell hnj hsk0 d1
          replace d2 := nx_cell hnj hsk0 d2
          replace d3 := nx_cell hnj hsk0 d3
          replace d4 := nx_cell hnj hsk0 d4
          have hsk := Nat.lt_of_lt_of_le hsk0 hnj.sz
          have hnk := hnk0.trans hnj
          have hnx := hbw.trans hnk
          clear hnk0 hsk0
          cases hkb : keyB x.key
          · rw [hkb] at HV
            go_wp2_with fail
            go_ret
            exact ⟨ret_int (by rw [HRF.out, HQ.out, HD.out, HV.out]; rfl), hna.trans hnx⟩
          rw [hkb, if_pos rfl] at HV
          go_upto_region 20 with fail
          go_cut [69] (fun v wx => v = .bool bad ∧ Nx wj wx)
          case first =>
            clear d1 d2 d3 d4
            by_cases hk0 : 0 < k
            · have hp := nx_cell hnk hbr (HPC.out hk0)
              have B1 := nx_cell hnk (Nat.lt_of_lt_of_le hgw hbw.sz) HB1.out
              have hpv := HPV.out hk0
              have hkz : k - 1 < rs.length := by have := HRL.out; omega
              generalize (rs[k - 1]'(by omega)).key = p0 at *
              have k1 : IntKind.i64.wrap ((k : Int) - 1) = (k : Int) - 1 := IntWalk.i64_in _ (by omega)
              have k2 : (1 : Int) ≤ (k : Int) := by omega
              have k3 : ((k : Int) - 1).toNat = k - 1 := by omega
              have k4 : (k : Int) - 1 < (n : Int) := by omega
              have kp : decide ((k : Int) > 0) = true := decide_eq_true (by omega)
              have kp2 : decide ((0 : Int) < (k : Int)) = true := decide_eq_true (by omega)
              have t1 : (Op.bytesLess x.key.toList p0.toList || x.key.toList == p0.toList) = bad := hpv.symm
              clear hpv
              go_quiet (fail)
              go_wp2
              go_meet
              exact ⟨rfl, (Nx.refl _).drewN _⟩
            · have kp : decide ((k : Int) > 0) = false := decide_eq_false (by omega)
              have kp2 : decide ((0 : Int) < (k : Int)) = false := decide_eq_false (by omega)
              have hb0 := HP0.out (by omega)
              go_quiet (fail)
              go_wp2
              go_meet
              exact ⟨by rw [hb0], (Nx.refl _).drewN _⟩
          case rest =>
            obtain ⟨rfl, hx1⟩ := hcut
            cases hbd : bad
            · rw [hbd, if_neg (by simp)] at HV
              have e1 := nx_cell hx1 hsk d1
              have e2 := nx_cell hx1 hsk d2
              have e3 := nx_cell hx1 hsk d3
              have e4 := nx_cell hx1 hsk d4
              have hs1 := Nat.lt_of_lt_of_le hsk hx1.sz
              have hnx1 := hnx.trans hx1
              have bb0 := nx_cell hnx1 hgw b0
              have bb1 := nx_cell hnx1 hgw b1
              have bb2 := nx_cell hnx1 hgw b2
              clear d0 d1 d2 d3 d4 HB1
              by_cases hf : nodeI ns x.from_ < 0
              · have tf : decide (nodeI ns x.from_ < 0) = true := decide_eq_true hf
                have HG := hide (arcG_none (ns := ns) (a := x) (.inl hf))
                clear hf
                go_wp2_with fail
                refine (HND.out x.from_ _ hnx1).mono ?_
                rintro e w2 ⟨rfl, hn2⟩
                go_wp2_with fail
                go_ret
                exact ⟨ret_int (by rw [HRF.out, HQ.out, HD.out, HV.out, HG.out]; rfl), hna.trans (hnx1.trans hn2)⟩
              have tf : decide (nodeI ns x.from_ < 0) = false := decide_eq_false hf
              have HF := hide (Int.not_lt.1 hf)
              clear hf
              go_wp2_with fail
              refine (HND.out x.from_ _ hnx1).mono ?_
              rintro e w2 ⟨rfl, hn2⟩
              have f1 := nx_cell hn2 hs1 e1
              have f2 := nx_cell hn2 hs1 e2
              have f3 := nx_cell hn2 hs1 e3
              have f4 := nx_cell hn2 hs1 e4
              have hs2 := Nat.lt_of_lt_of_le hs1 hn2.sz
              have hnx2 := hnx1.trans hn2
              clear e1 e2 e3 e4 bb0 bb1 bb2
              have bb0 := nx_cell hnx2 hgw b0
              have bb1 := nx_cell hnx2 hgw b1
              have bb2 := nx_cell hnx2 hgw b2
              by_cases ht : nodeI ns x.to_ < 0
              · have tt : decide (nodeI ns x.to_ < 0) = true := decide_eq_true ht
                have HG := hide (arcG_none (ns := ns) (a := x) (.inr ht))
                clear ht
                go_wp2_with fail
                refine (HND.out x.to_ _ hnx2).mono ?_
                rintro e w3 ⟨rfl, hn3⟩
                go_wp2_with fail
                go_ret
                exact ⟨ret_int (by rw [HRF.out, HQ.out, HD.out, HV.out, HG.out]; rfl), hna.trans (hnx2.trans hn3)⟩
              have tt : decide (nodeI ns x.to_ < 0) = false := decide_eq_false ht
              have HT := hide (Int.not_lt.1 ht)
              clear ht
              go_wp2_with fail
              refine (HND.out x.to_ _ hnx2).mono ?_
              rintro e w3 ⟨rfl, hn3⟩
              have g1 := nx_cell hn3 hs2 f1
              have g2 := nx_cell hn3 hs2 f2
              have g3 := nx_cell hn3 hs2 f3
              have g4 := nx_cell hn3 hs2 f4
              have hs3 := Nat.lt_of_lt_of_le hs2 hn3.sz
              have hnx3 := hnx2.trans hn3
              clear f1 f2 f3 f4 bb0 bb1 bb2
              by_cases heq : x.from_ = x.to_
              · have te : (x.from_.toList == x.to_.toList) = true := by rw [eqS_iff]; exact decide_eq_true heq
                have HG := hide (arcG_twice (ns := ns) (a := x) HF.out HT.out heq)
                clear heq
                go_wp2_with fail
                go_ret
                exact ⟨ret_int (by rw [HRF.out, HQ.out, HD.out, HV.out, HG.out]; rfl), hna.trans hnx3⟩
              have te : (x.from_.toList == x.to_.toList) = false := by rw [eqS_iff]; exact decide_eq_false heq
              cases hlo : outB x.long 1 1000000
              · have fl : inB x.long 1 1000000 = true := by rw [inB_out, hlo]; rfl
                have HG := hide (arcG_knots (ns := ns) (a := x) HF.out HT.out heq hlo)
                clear heq
                by_cases hz : knotsF x.knots = 0
                · rw [hz] at HG
                  have HKF := hide (fun W hx => HKF.out W hx)
                  rw [hz] at HKF
                  clear hz
                  go_wp2_with (go_at_call 72; refine (w_in _ _ _ _).mono ?_; rintro e w' ⟨rfl, rfl⟩)
                  refine (HKF.out _ hnx3).mono ?_
                  rintro e w4 ⟨rfl, hn4⟩
                  go_wp2_with fail
                  go_roundw
                  case rel => exact ⟨k + 1, by omega, by go_num, hnx3.trans hn4, by rw [HQ.out, HD.out, HV.out, HG.out, if_pos rfl]⟩
                  case measure => simp [intOf]; omega
                · have tz : (knotsF x.knots != 0) = true := by simpa using hz
                  have HZ := hide hz
                  clear hz
                  go_wp2_with (go_at_call 72; refine (w_in _ _ _ _).mono ?_; rintro e w' ⟨rfl, rfl⟩)
                  refine (HKF.out _ hnx3).mono ?_
                  rintro e w4 ⟨rfl, hn4⟩
                  go_wp2_with fail
                  go_ret
                  exact ⟨ret_int (by rw [HRF.out, HQ.out, HD.out, HV.out, HG.out, if_neg HZ.out, if_neg HZ.out]), hna.trans (hnx3.trans hn4)⟩
              · have fl : inB x.long 1 1000000 = false := by rw [inB_out, hlo]; rfl
                have HG := hide (arcG_long (ns := ns) (a := x) HF.out HT.out heq hlo)
                clear heq
                go_wp2_with (go_at_call 72; refine (w_in _ _ _ _).mono ?_; rintro e w' ⟨rfl, rfl⟩)
                go_ret
                exact ⟨ret_int (by rw [HRF.out, HQ.out, HD.out, HV.out, HG.out]; rfl), hna.trans hnx3⟩
            · rw [hbd, if_pos rfl] at HV
              go_wp2_with fail
              go_ret
              exact ⟨ret_int (by rw [HRF.out, HQ.out, HD.out, HV.out]; rfl), hna.trans (hnx.trans hx1)⟩
        · have H0 : chk (arcF ns) none rs = 0 := by rw [HQ.out, List.drop_of_length_le (by have := HRL.out; omega)]; rfl
          have HRF := hide (HRF.out.trans (if_pos H0))
          have bb0 := nx_cell hbw hgw b0
          have bb1 := nx_cell hbw hgw b1
          have bb2 := nx_cell hbw hgw b2
          clear H0 HQ
          go_wp2_with fail
          refine (HBF.out _ hbw).mono ?_
          rintro e w2 ⟨rfl, hn2⟩
          go_wp2_with fail
          go_ret
          exact ⟨ret_int HRF.out.symm, hna.trans (hbw.trans hn2)⟩
end Go.Proofs.YtklgknepamebdaaGreatDoor
/- A node's key: the stream's; the reference's fault. -/
namespace Go.Proofs.YtklgknepamebdaaGreatDoor
open Go.RowKit

/-- A small string. -/
def StrSm (s k : Nat) (w : World) (e : Ending) (w' : World) : Prop := ∃ t : ByteArray, e = .returned (.string t) ∧ t.size ≤ 1000000 ∧ Gr s w w' ∧ Str w' s k
set_option maxRecDepth 100000 in
set_option maxHeartbeats 2000000 in
theorem w_NodeKey (s k lo : Nat) (A B C : Option Addr) (n1 n2 ca cb cc : Nat) (ns : List Node) (w : World) (hS : Str w s k) (hk : k < 700000) (hR : Rd w lo A 3 encNode ns) (hSm : SmallN ns) (h0 : 0 < ns.length) (hl : ns.length ≤ 400) (hlo : s < lo) :
    Calls Tryz.prog 27 #[.pointer (some ⟨s, 0, none⟩), .agg #[.slice A ns.length ca, .slice B n1 cb, .slice C n2 cc]] w (StrSm s (k + 2) w) := by
  have hsl := hS.lt
  obtain ⟨wa, hwa⟩ : ∃ wa, wa = w.alloc (.cells #[.slice A ns.length ca, .slice B n1 cb, .slice C n2 cc] 30) := ⟨_, rfl⟩
  have hna : Nx w wa := hwa ▸ (Nx.refl w).alloc _
  have hgw : w.heap.size < wa.heap.size := by rw [hwa]; simp
  have b0 : wa.cell? ⟨w.heap.size, 0, none⟩ = some (.slice A ns.length ca) := by rw [hwa]; go_simp
  have hSa := hS.nx hna
  have HR := hide (hR.nx hna)
  have HSM := hide hSm
  clear hR hS hSm
  generalize hn : ns.length = n at *
  have HN := hide hn
  clear hn
  have t0 : ((n : Int) == 0) = false := by rw [beq_eq_false_iff_ne]; omega
  go_enter Tryz.func27, Tryz.ntmps27
  go_wp2_with fail
  rw [← hwa]
  have HWA := hide hwa
  clear hwa
  have hgs : w.heap.size ≠ s := by omega
  generalize w.heap.size = g at *
  refine (w_Flip 25 _ _ _ hSa (by omega) (by omega)).mono ?_
  rintro e w1 ⟨fl, rfl, hg1, hS1⟩
  have hs1 := hS1.lt
  cases fl
  · have b1 : w1.cell? ⟨g, 0, none⟩ = some (.slice A n ca) := World.grownBy.cell hg1 b0 (by simp; omega)
    obtain ⟨b, off, rfl, hlo', hb, _, hc⟩ := HR.out.open_ (Nx.refl wa) (by have := HN.out; omega)
    have HC := hide hc
    clear hc b0
    go_upto_region 3 with fail
    have k1 : (1 : Int) ≤ (n : Int) := by omega
    go_cut [4] (fun v wx => ∃ t : ByteArray, v = .string t ∧ t.size ≤ 1000000 ∧ Gr s w1 wx ∧ Str wx s (k + 2))
    case first =>
      go_region_law
        (first | (go_simp; go_at_call 54; refine (w_Next (n : Int) _ _ _ (hS1.nx (Nx.refl w1).drew) (by omega) (by omega)).mono ?_; rintro e w4 ⟨q, hq1, hq2, rfl, hg4, hS4⟩; (obtain ⟨q, rfl⟩ := Int.eq_ofNat_of_zero_le hq1); (have hgr := hg1.trans ((Gr.refl s w1).drew.trans hg4)); (have b4 : w4.cell? ⟨g, 0, none⟩ = some (.slice (some ⟨b, off, none⟩) n ca) := World.grownBy.cell (row := some s) ((Gr.refl s w1).drew.trans hg4) b1 (by simp; omega)); (have hq3 : (q : Int) < (n : Int) := by omega); (have hqn : q < ns.length := by have := HN.out; omega); (have d4 : w4.cell? ⟨b, off + q * 3, none⟩ = some (.string ns[q].key) := World.grownBy.cell (row := some s) hgr (HC.out q hqn 0 _ rfl) (by simp; omega))))
      all_goals
        go_wp2
        go_meet
        exact ⟨_, rfl, HSM.out _ (List.getElem_mem hqn), (Gr.refl s w1).drew.trans hg4, hS4⟩
    case rest =>
      obtain ⟨t, rfl, ht, hg2, hS2⟩ := hcut
      go_wp2_with fail
      go_ret
      exact ⟨t, rfl, ht, (Gr.of_nx hna).trans (hg1.trans hg2), hS2⟩
  · go_wp2_with fail
    refine (w_Some _ [⟨#[]⟩, ⟨#[122, 122]⟩, ⟨#[65]⟩] _ _ _ _ (hS1.nx ((Nx.refl _).alloc _)) (by omega) (hnew rfl) (by omega) rfl (by simp) (by simp)).mono ?_
    rintro e w2 ⟨r, hr, rfl, hg2, hS2⟩
    go_wp2_with fail
    go_ret
    refine ⟨r, rfl, ?_, (Gr.of_nx hna).trans (hg1.trans (((Gr.refl s w1).alloc _).trans hg2)), hS2⟩
    simp at hr
    rcases hr with h | h | h <;> rw [h] <;> decide
def noneF (ns : List Node) (s : ByteArray) : Int := if nodeI ns s < 0 then 8 else 0
set_option maxHeartbeats 1000000 in
theorem w_NodeFault (lo : Nat) (A B C : Option Addr) (n1 n2 c1 c2 c3 : Nat) (l : List Node) (s : ByteArray) (w : World) (hR : Rd w lo A 3 encNode l) (hl : l.length ≤ 65536) :
    Calls Tryz.prog 30 #[.agg #[.slice A l.length c1, .slice B n1 c2, .slice C n2 c3], .string s] w fun e w' => e = .returned (.int .i64 (noneF l s)) ∧ Nx w w' := by
  have HN := hide (fun W hx => w_NodeAt lo A B C n1 n2 c1 c2 c3 l s W hx hl)
  unfold noneF
  by_cases h : nodeI l s < 0
  · rw [if_pos h]
    have tf : decide (nodeI l s < 0) = true := decide_eq_true h
    clear h
    go_enter Tryz.func30, Tryz.ntmps30
    go_wp2_with (go_at_call 73; refine (HN.out _ (hR.nx ((Nx.refl w).alloc _))).mono ?_; rintro e w2 ⟨rfl, hn2⟩)
    go_ret
    exact ⟨rfl, ((Nx.refl w).alloc _).trans hn2⟩
  · rw [if_neg h]
    have tf : decide (nodeI l s < 0) = false := decide_eq_false h
    clear h
    go_enter Tryz.func30, Tryz.ntmps30
    go_wp2_with (go_at_call 73; refine (HN.out _ (hR.nx ((Nx.refl w).alloc _))).mono ?_; rintro e w2 ⟨rfl, hn2⟩)
    go_ret
    exact ⟨rfl, ((Nx.refl w).alloc _).trans hn2⟩
theorem w_when (b : Bool) (z : Int) (w : World) : Calls Tryz.prog 21 #[.bool b, .int .i64 z] w fun e w' => e = .returned (.int .i64 (if b then z else 0)) ∧ w = w' := by
  cases b
  all_goals
    go_enter Tryz.func21, Tryz.ntmps21
    go_wp2
    go_ret
    exact ⟨rfl, rfl⟩
end Go.Proofs.YtklgknepamebdaaGreatDoor
/- 'out = append(out, y)' at a step of a region that draws. Of no program. -/
namespace Go.Proofs.YtklgknepamebdaaGreatDoor
open Go.RowKit
theorem step_app {α : Type} {P : Program} {w : World} {ops : Array Oper} {o : Oper} {a : Act} {K' : Act → World → Prop} {Q : Exit → Act → World → Prop} {E' : Prop} (hgd : o.guard = none) (s x : Operand) (t : TypeId)
    (ho : o.op = .call { callee := .builtin .append, args := #[s, x], argTypes := #[t, t] })
    {e : TypeId} {K bytes : Nat} (E : ElemOf P t e K bytes) (enc : α → List Value) (hk : ∀ x, (enc x).length = K) (h1c : ∀ x, ∀ v ∈ enc x, v.oneCell' = true) (hK : 0 < K) (hB : bytes ≤ 1000)
    (base : Nat) (v : Value) (L : List α) (hs : a.eval s = v) (hown : w.ownsRow base e K v L.length (L.flatMap enc)) (g : Nat) (y : α) (cs : Array Value) (hx : a.eval x = .slice (some ⟨g, 0, none⟩) 1 1)
    (hblk : w.heap[g]? = some (.cells cs e (0, 0))) (hcs : cs.toList = enc y) (hlen : L.length ≤ 10000000) (hbase : base ≤ w.heap.size)
    (h : ∀ v' w', w'.ownsRow base e K v' (L ++ [y]).length ((L ++ [y]).flatMap enc) → w.grownBy w' v.ownBlock → (∀ b, v'.ownBlock = some b → v.ownBlock = some b ∨ b = w.heap.size) → K' (a.put o.dst v') w') :
    if Region.wanted o (yielded ops a.tmps) = true then Oper.wp P o a w K' Q else E' := by
  obtain ⟨i, z, h1, h2, h3, h4, h5⟩ := E.hi
  refine step_append_lies w hgd s x t ho base e i z K bytes E.ht h1 h2 h3 h4 h5 hK v L.length _ hs hown ⟨g, 0, none⟩ 1 1 (enc y) hx (by rw [hk]; omega) (news_of hblk hcs) (h1c y) (by omega) (by unfold maxLen; omega) ?_ hbase _ rfl ?_
  · have : (L.length + 1) * bytes ≤ 10000001 * 1000 := Nat.mul_le_mul (by omega) hB
    omega
  · intro g' cap w' ho' hg' hat _
    have e1 : (L ++ [y]).length = L.length + 1 := by simp
    refine h _ w' (by rw [e1, List.flatMap_append]; simpa using ho') hg' (fun b hb => ?_)
    have : g' = b := by simpa [Value.ownBlock] using hb
    subst this
    exact hat
/-- .. at an operation of a region that does not draw. -/
theorem wpApp2 {α : Type} {P : Program} {w : World} {ops : Array Oper} {rest : List Oper} {o : Oper} {a : Act} {Q : Exit → Act → World → Prop} (hgd : o.guard = none) (s x : Operand) (t : TypeId)
    (ho : o.op = .call { callee := .builtin .append, args := #[s, x], argTypes := #[t, t] })
    {e : TypeId} {K bytes : Nat} (E : ElemOf P t e K bytes) (enc : α → List Value) (hk : ∀ x, (enc x).length = K) (h1c : ∀ x, ∀ v ∈ enc x, v.oneCell' = true) (hK : 0 < K) (hB : bytes ≤ 1000)
    (base : Nat) (v : Value) (L : List α) (hs : a.eval s = v) (hown : w.ownsRow base e K v L.length (L.flatMap enc)) (g : Nat) (y : α) (cs : Array Value) (hx : a.eval x = .slice (some ⟨g, 0, none⟩) 1 1)
    (hblk : w.heap[g]? = some (.cells cs e (0, 0))) (hcs : cs.toList = enc y) (hlen : L.length ≤ 10000000) (hbase : base ≤ w.heap.size)
    (h : ∀ v' w', w'.ownsRow base e K v' (L ++ [y]).length ((L ++ [y]).flatMap enc) → w.grownBy w' v.ownBlock → (∀ b, v'.ownBlock = some b → v.ownBlock = some b ∨ b = w.heap.size) → wpList P ops Q rest (a.put o.dst v') w') : wpList P ops Q (o :: rest) a w := by
  obtain ⟨i, z, h1, h2, h3, h4, h5⟩ := E.hi
  refine wpList_append_lies w hgd s x t ho base e i z K bytes E.ht h1 h2 h3 h4 h5 hK v L.length _ hs hown ⟨g, 0, none⟩ 1 1 (enc y) hx (by rw [hk]; omega) (news_of hblk hcs) (h1c y) (by omega) (by unfold maxLen; omega) ?_ hbase _ rfl ?_
  · have : (L.length + 1) * bytes ≤ 10000001 * 1000 := Nat.mul_le_mul (by omega) hB
    omega
  · intro g' cap w' ho' hg' hat _
    have e1 : (L ++ [y]).length = L.length + 1 := by simp
    refine h _ w' (by rw [e1, List.flatMap_append]; simpa using ho') hg' (fun b hb => ?_)
    have : g' = b := by simpa [Value.ownBlock] using hb
    subst this
    exact hat
end Go.Proofs.YtklgknepamebdaaGreatDoor
/- Some nodes' keys: the stream's. -/
namespace Go.Proofs.YtklgknepamebdaaGreatDoor
open Go.RowKit

theorem el_SN : ElemOf Tryz.prog 32 9 1 16 := ElemOf.mk' (z := .string ByteArray.empty) Tryz.underlying32 (by kernel_rfl) rfl
def StrKs (s k most : Nat) (w : World) (e : Ending) (w' : World) : Prop := ∃ (D : Option Addr) (cd : Nat) (l : List ByteArray), e = .returned (.slice D l.length cd) ∧ l.length ≤ most ∧ Rd w' w.heap.size D 1 encS l ∧ Gr s w w' ∧ Str w' s (k + 1 + 2 * most)
set_option maxRecDepth 100000 in
set_option maxHeartbeats 4000000 in
theorem w_NodeKeys (s k lo : Nat) (A B C : Option Addr) (n1 n2 ca cb cc : Nat) (ns : List Node) (most : Nat) (w : World) (hS : Str w s k) (hk : k < 600000) (hR : Rd w lo A 3 encNode ns) (hSm : SmallN ns) (h0 : 0 < ns.length) (hl : ns.length ≤ 400) (hlo : s < lo) (hm : most ≤ 1000) :
    Calls Tryz.prog 8 #[.pointer (some ⟨s, 0, none⟩), .agg #[.slice A ns.length ca, .slice B n1 cb, .slice C n2 cc], .int .i64 (most : Int)] w (StrKs s k most w) := by
  have hsl := hS.lt
  obtain ⟨wa, hwa⟩ : ∃ wa, wa = w.alloc (.cells #[.slice A ns.length ca, .slice B n1 cb, .slice C n2 cc] 30) := ⟨_, rfl⟩
  have hna : Nx w wa := hwa ▸ (Nx.refl w).alloc _
  have hgw : w.heap.size < wa.heap.size := by rw [hwa]; simp
  have b0 : wa.cell? ⟨w.heap.size, 0, none⟩ = some (.slice A ns.length ca) := by rw [hwa]; go_simp
  have b1 : wa.cell? ⟨w.heap.size, 1, none⟩ = some (.slice B n1 cb) := by rw [hwa]; go_simp
  have b2 : wa.cell? ⟨w.heap.size, 2, none⟩ = some (.slice C n2 cc) := by rw [hwa]; go_simp
  have hne : w.heap.size ≠ s := by omega
  have HBX := hide (fun W (hg : Gr s wa W) => (⟨World.grownBy.cell (row := some s) hg b0 (by simp; omega), World.grownBy.cell (row := some s) hg b1 (by simp; omega), World.grownBy.cell (row := some s) hg b2 (by simp; omega)⟩ : W.cell? ⟨w.heap.size, 0, none⟩ = some (.slice A ns.length ca) ∧ W.cell? ⟨w.heap.size, 1, none⟩ = some (.slice B n1 cb) ∧ W.cell? ⟨w.heap.size, 2, none⟩ = some (.slice C n2 cc)))
  have HNK := hide (fun k W (hg : Gr s wa W) (hS : Str W s k) (hk : k < 700000) => w_NodeKey s k lo A B C n1 n2 ca cb cc ns W hS hk ((hR.nx hna).gr hg hlo) hSm h0 hl hlo)
  have HSA := hide (hS.nx hna)
  have HWA := hide hwa
  have HNA := hide hna
  have hsa : s < wa.heap.size := by omega
  clear hwa hna b0 b1 b2 hR hS
  have hsz := HNA.out.sz
  generalize ns.length = nn at *
  go_enter Tryz.func8, Tryz.ntmps8
  go_upto_region 1 with fail
  rw [← HWA.out]
  generalize hg : w.heap.size = g at *
  go_wp2_with fail
  refine (w_Range 0 most s k wa HSA.out (by omega) (by omega) (by omega)).mono ?_
  rintro e w1 ⟨r, hr1, hr2, rfl, hg1, hS1⟩
  obtain ⟨n, rfl⟩ := Int.eq_ofNat_of_zero_le hr1
  have HG1 := hide hg1
  have HS1 := hide hS1
  clear hg1 hS1 HSA
  go_wp2_with fail
  go_loopw [7, 11] (fun v u wr => ∃ (j : Nat) (l : List ByteArray), j ≤ n ∧ u = .int .i64 (j : Int) ∧ l.length = j ∧ wr.ownsRow wa.heap.size 9 1 v l.length (l.flatMap encS) ∧ Gr s wa wr ∧ Str wr s (k + 1 + 2 * j)) (fun _ u _ => n - (intOf u).toNat)
  case atStart => exact ⟨0, [], Nat.zero_le _, rfl, rfl, World.ownsRow_nil _ _ _ _, HG1.out, HS1.out⟩
  case round =>
    obtain ⟨j, l, hj, rfl, hlj, hown, hgr, hSr⟩ := hrel
    have HO := hide hown
    have HGR := hide hgr
    have HSR := hide hSr
    have HLJ := hide hlj
    have hszr := hgr.sz
    clear hown hgr hSr hlj
    by_cases hlt : j < n
    · obtain ⟨c0, c1, c2⟩ := HBX.out wr HGR.out
      have tl : decide ((j : Int) < (n : Int)) = true := decide_eq_true (by omega)
      have HA := hide (HNK.out _ wr HGR.out HSR.out (by omega))
      go_wp2_with (first
        | (go_at_call 27; refine HA.out.mono ?_; rintro e w4 ⟨t, rfl, _, hg4, hS4⟩; (have HO4 := hide (own_gr HO.out hg4 hsa)); (have hsz4 := hg4.sz))
        | (at_builtin; refine wpApp2 rfl _ _ _ rfl el_SN encS encS_len encS_one (by omega) (by omega) wa.heap.size _ l rfl (HO4.out.alloc _) _ t _ rfl (hnew rfl) rfl (by have := HLJ.out; omega) (by simp; omega) ?_; intro v9 w9 hown9 hg9 _; (have HO9 := hide hown9); (have HG9 := hide hg9); clear hown9 hg9))
      go_roundw
      case rel =>
        refine ⟨j + 1, l ++ [t], by omega, by go_num, by have := HLJ.out; simp; omega, HO9.out, ((HGR.out.trans hg4).alloc _).grown HG9.out (fun x hx => .inr (own_blk_lt HO4.out x hx)), ?_⟩
        exact ((hS4.nx ((Nx.refl w4).alloc (.cells #[.string t] 9))).row HG9.out (fun x hx => Nat.lt_of_lt_of_le hsa (own_blk_lt HO4.out x hx))).more (by omega)
      case measure => simp [intOf]; omega
    · obtain rfl : n = j := by omega
      obtain ⟨D, cd, rfl, hRd, _⟩ := Rd.of_own encS_len rfl HO.out
      have HRd := hide hRd
      have HLL := hide (show l.length ≤ most by have := HLJ.out; omega)
      clear hRd HO
      go_wp2_with fail
      go_ret
      refine ⟨D, cd, l, rfl, HLL.out, HRd.out.low (by omega), ?_, ?_⟩
      · exact (Gr.of_nx HNA.out).trans HGR.out
      · exact HSR.out.more (by have := HLJ.out; omega)
end Go.Proofs.YtklgknepamebdaaGreatDoor
/- cmp.Compare of numbers. -/
namespace Go.Proofs.YtklgknepamebdaaGreatDoor
open Go.RowKit

theorem w_isNaN (a : Int) (w : World) : Calls Tryz.prog 218 #[.int .i64 a] w fun e w' => e = .returned (.bool false) ∧ w = w' := by
  go_enter Tryz.func218, Tryz.ntmps218
  go_wp2
  go_ret
  exact ⟨rfl, rfl⟩

theorem w_Compare (a b : Int) (w : World) : Calls Tryz.prog 190 #[.int .i64 a, .int .i64 b] w fun e w' => e = .returned (.int .i64 (cmpI a b)) ∧ w = w' := by
  by_cases h1 : a < b
  · go_enter Tryz.func190, Tryz.ntmps190
    go_wp2_with (go_at_call 218; refine (w_isNaN _ _).mono ?_; rintro e w' ⟨rfl, rfl⟩)
    go_ret
    exact ⟨ret_int (by unfold cmpI; simp [h1]), rfl⟩
  · by_cases h2 : b < a
    · go_enter Tryz.func190, Tryz.ntmps190
      go_wp2_with (go_at_call 218; refine (w_isNaN _ _).mono ?_; rintro e w' ⟨rfl, rfl⟩)
      go_ret
      exact ⟨ret_int (by unfold cmpI; simp [h1, h2]), rfl⟩
    · go_enter Tryz.func190, Tryz.ntmps190
      go_wp2_with (go_at_call 218; refine (w_isNaN _ _).mono ?_; rintro e w' ⟨rfl, rfl⟩)
      go_ret
      exact ⟨ret_int (by unfold cmpI; rw [if_neg (by omega), if_neg (by omega)]), rfl⟩

end Go.Proofs.YtklgknepamebdaaGreatDoor
/- The knot at a moment: the program's search. -/
namespace Go.Proofs.YtklgknepamebdaaGreatDoor
open Go.RowKit

theorem w_time1 (x : Knot) (t : Int) (w : World) : Calls Tryz.prog 189 #[.agg #[.int .i64 x.at_, .int .i64 x.time], .int .i64 t] w fun e w' => e = .returned (.int .i64 (cmpI x.at_ t)) ∧ Nx w w' := by
  go_enter Tryz.func189, Tryz.ntmps189
  go_wp2_with (go_at_call 190; refine (w_Compare _ _ _).mono ?_; rintro e w' ⟨rfl, rfl⟩)
  go_ret
  exact ⟨rfl, (Nx.refl _).alloc _⟩

set_option maxRecDepth 100000 in
set_option maxHeartbeats 2000000 in
theorem w_BsfKnot (g : Nat) (f : Knot → Int) (x : Int) (eg : Enters g) (hcl : ∀ (y : Knot) W, Calls Tryz.prog g #[.agg #[.int .i64 y.at_, .int .i64 y.time], .int .i64 x] W fun e w' => e = .returned (.int .i64 (f y)) ∧ Nx W w')
    (lo : Nat) (A : Option Addr) (c : Nat) (l : List Knot) (w : World) (hR : Rd w lo A 2 encKnot l) (hl : l.length ≤ 65536)
    (hm : ∀ i j, i ≤ j → j < l.length → f (l.getD j default) < 0 → f (l.getD i default) < 0) :
    Calls Tryz.prog 188 #[.slice A l.length c, .int .i64 x, .func (.func g) #[] #[]] w fun e w' => ∃ (r : Nat) (is : Bool), e = .returned (.tuple #[.int .i64 (r : Int), .bool is]) ∧ Found (fun i => f (l.getD i default)) l.length r is ∧ Nx w w' := by
  generalize hn : l.length = n at *
  have HR := hide hR
  have HN := hide hn
  have HC0 := hide hcl
  have HM := hide hm
  clear hR hn hcl hm
  unfold Enters at eg
  have HG := hide (fun i (hi : i < l.length) => (show l.getD i default = l[i] by rw [List.getD_eq_getElem?_getD, List.getElem?_eq_getElem hi]; rfl))
  go_enter Tryz.func188, Tryz.ntmps188
  go_wp2
  go_loopw [9, 10, 11] (fun vi vj _ wr => ∃ i j : Nat, i ≤ j ∧ j ≤ n ∧ vi = .int .i64 i ∧ vj = .int .i64 j ∧ Nx w wr ∧ (∀ m, m < i → f (l.getD m default) < 0) ∧ (∀ m, j ≤ m → m < n → 0 ≤ f (l.getD m default))) (fun vi vj _ _ => (intOf vj).toNat - (intOf vi).toNat)
  case atStart => exact ⟨0, n, Nat.zero_le _, Nat.le_refl _, rfl, rfl, Nx.refl _, fun m hm => by omega, fun m h1 h2 => by omega⟩
  case round =>
    obtain ⟨i, j, hij, hj, rfl, rfl, hbw, hlo, hhi⟩ := hrel
    have HLO := hide hlo
    have HHI := hide hhi
    clear hlo hhi
    by_cases hlt : i < j
    · obtain ⟨h, hh⟩ : ∃ h, h = (i + j) / 2 := ⟨_, rfl⟩
      have qh : ((i : Int) + (j : Int)) / 2 = (h : Int) := by omega
      have hih : i ≤ h := by omega
      have hhj : h < j := by omega
      have hh' : h < l.length := by have := HN.out; omega
      clear hh
      obtain ⟨b, off, rfl, _, hb, hbr, hc⟩ := HR.out.open_ hbw (by omega)
      have c0 : wr.cell? ⟨b, off + h * 2, none⟩ = some (.int .i64 l[h].at_) := hc h hh' 0 _ rfl
      have c1 : wr.cell? ⟨b, off + h * 2 + 1, none⟩ = some (.int .i64 l[h].time) := hc h hh' 1 _ rfl
      clear hc
      have HE := hide (HG.out h hh')
      have HCY := hide (HC0.out l[h])
      by_cases hneg : f l[h] < 0
      · have t1 : decide (f l[h] < 0) = true := by simpa using hneg
        have HNG := hide hneg
        clear hneg
        generalize l[h] = y at *
        go_wp2_with (go_at_fn g; refine (HCY.out _).mono ?_; rintro e w2 ⟨rfl, hn2⟩)
        go_roundw
        case rel => exact ⟨h + 1, j, by omega, by omega, by go_num, rfl, hbw.trans hn2, fun m hm => HM.out m h (by omega) (by omega) (by rw [HE.out]; exact HNG.out), HHI.out⟩
        case measure => simp [intOf]; omega
      · have t1 : decide (f l[h] < 0) = false := by simpa using hneg
        have HNG := hide hneg
        clear hneg
        generalize l[h] = y at *
        go_wp2_with (go_at_fn g; refine (HCY.out _).mono ?_; rintro e w2 ⟨rfl, hn2⟩)
        go_roundw
        case rel => exact ⟨i, h, by omega, by omega, rfl, rfl, hbw.trans hn2, HLO.out, fun m h1 h2 => by
          refine Int.not_lt.1 fun hc => ?_
          have h3 := HM.out h m h1 h2 hc
          rw [HE.out] at h3
          have := HNG.out
          omega⟩
        case measure => simp [intOf]; omega
    · have hij' : i = j := by omega
      subst hij'
      clear hlt hij
      by_cases hin : i < n
      · have hi' : i < l.length := by have := HN.out; omega
        obtain ⟨b, off, rfl, _, hb, hbr, hc⟩ := HR.out.open_ hbw (by omega)
        have c0 : wr.cell? ⟨b, off + i * 2, none⟩ = some (.int .i64 l[i].at_) := hc i hi' 0 _ rfl
        have c1 : wr.cell? ⟨b, off + i * 2 + 1, none⟩ = some (.int .i64 l[i].time) := hc i hi' 1 _ rfl
        clear hc
        have HE := hide (HG.out i hi')
        have HCY := hide (HC0.out l[i])
        generalize l[i] = y at *
        go_wp2_with (go_at_fn g; refine (HCY.out _).mono ?_; rintro e w2 ⟨rfl, hn2⟩)
        go_ret2
        exact ⟨i, _, rfl, ⟨hj, HLO.out, HHI.out, by show _ = (decide (i < n) && decide (f (l.getD i default) = 0)); rw [HE.out, decide_eq_true hin]; rfl⟩, hbw.trans hn2⟩
      · go_wp2
        go_ret2
        exact ⟨i, _, rfl, ⟨hj, HLO.out, HHI.out, by rw [decide_eq_false hin]; rfl⟩, hbw⟩

end Go.Proofs.YtklgknepamebdaaGreatDoor
