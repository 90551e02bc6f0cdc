/- How long an arc takes: the program's walk, for an arc that lies in a row. -/
import Derived.Test.YtbhlldpmklkeoaaGreatDoorQRoadT
import Derived.Test.YtbhlldpmklkeoaaGreatDoorQG34
import Derived.Test.YtbhlldpmklkeoaaGreatDoorQG15
import Derived.Test.YtbhlldpmklkeoaaGreatDoorQG1
import Derived.Test.YtbhlldpmklkeoaaGreatDoorQG33
import Derived.Test.YtbhlldpmklkeoaaGreatDoorQG17
namespace Go.Proofs.YtbhlldpmklkeoaaGreatDoor
open Go.RowKit

set_option maxRecDepth 100000 in
set_option maxHeartbeats 8000000 in
theorem w_TimeO (g o lo : Nat) (A : Option Addr) (c : Nat) (l : List Knot) (at_ : Int) (w : World) (hg : w.cell? ⟨g, o + 4, none⟩ = some (.slice A l.length c)) (hgl : g < w.heap.size) (hR : Rd w lo A 2 encKnot l) (hk : KOk l) (ha : 0 ≤ at_ ∧ at_ ≤ 345686399999) :
    Calls Tryz.prog 48 #[.pointer (some ⟨g, o, none⟩), .int .i64 at_] w fun e w' => e = .returned (.int .i64 (timeI l at_)) ∧ Nx w w' := by
  by_cases h1 : l.length = 1
  · have HT := hide (time_one h1 hk at_)
    obtain ⟨b, off, rfl, _, hb, _, hc⟩ := hR.open_ (Nx.refl w) hk.pos
    have c1 : w.cell? ⟨b, off + 1, none⟩ = some (.int .i64 (l.getD 0 default).time) := by
      have := hc 0 hk.pos 1 _ rfl
      rw [knot_at hk.pos]; simpa using this
    rw [h1] at hg
    clear hc hR hk h1
    generalize (l.getD 0 default).time = z at *
    go_enter Tryz.func48, Tryz.ntmps48
    go_wp2
    go_ret
    exact ⟨ret_int HT.out.symm, Nx.refl _⟩
  · have t0 : ((l.length : Int) == 1) = false := by simp; omega
    have hsp := hk.pos
    have hB := fun t => w_BsfKnot 71 (fun n => cmpI n.at_ t) t (enters_of Tryz.func71 (by kernel_rfl) rfl) (fun y W => w_time1 y t W) lo A c l w hR (by have := hk.le; omega) (fun i j hij hj hn => by
      rw [cmpI_neg] at hn ⊢
      rcases Nat.lt_or_ge i j with h3 | h3
      · have := hk.lt i j h3 hj; omega
      · have : i = j := by omega
        subst this; exact hn)
    have htb : 0 ≤ at_ % 86400000 ∧ at_ % 86400000 ≤ 86399999 := by omega
    obtain ⟨t, ht⟩ : ∃ t, t = at_ % 86400000 := ⟨_, rfl⟩
    have HTI := hide (show timeI l at_ = lineI (l.getD (segI l t) default) (afterK l (segI l t)) t by rw [ht]; rfl)
    rw [← ht] at htb
    -- where the search ends
    have hfind : ∃ (i : Nat) (is : Bool), i < l.length ∧ segI l t = i ∧ ((l.getD i default).at_ ≤ t ∧ t < (afterK l i).at_) ∧ Calls Tryz.prog 70 #[.slice A l.length c, .int .i64 t, .func (.func 71) #[] #[]] w fun e w' => e = .returned (.tuple #[.int .i64 (if is then (i : Int) else ((i + 1 : Nat) : Int)), .bool is]) ∧ Nx w w' := by
      obtain ⟨i, hi, hi1, hi2⟩ := seg_ex hk htb.1
      have haf : t < (afterK l i).at_ := by
        unfold afterK
        by_cases h3 : i + 1 < l.length
        · rw [if_pos h3]; exact hi2 h3
        · rw [if_neg h3]; show t < dayMs; unfold dayMs; omega
      by_cases he : (l.getD i default).at_ = t
      · refine ⟨i, true, hi, seg_of hk hi hi1 hi2, ⟨hi1, haf⟩, (hB t).mono ?_⟩
        rintro e w' ⟨r, is, rfl, hF, hn⟩
        obtain ⟨rfl, rfl⟩ := found_at hF i hi (cmpI_zero.2 he) (fun m hm => cmpI_neg.2 (by have := hk.lt m i hm hi; omega))
        exact ⟨rfl, hn⟩
      · refine ⟨i, false, hi, seg_of hk hi hi1 hi2, ⟨hi1, haf⟩, (hB t).mono ?_⟩
        rintro e w' ⟨r, is, rfl, hF, hn⟩
        have hne : ∀ m, m < l.length → (l.getD m default).at_ ≠ t := fun m hm e => by
          rcases Nat.lt_trichotomy m i with h3 | h3 | h3
          · have := hk.lt m i h3 hi; omega
          · subst h3; exact he e
          · have h4 := hi2 (by omega)
            rcases Nat.lt_or_ge (i + 1) m with h5 | h5
            · have := hk.lt (i + 1) m h5 hm; omega
            · have : m = i + 1 := by omega
              subst this; omega
        have hr : r = i + 1 := by
          rcases Nat.lt_trichotomy r (i + 1) with h3 | h3 | h3
          · have h4 : 0 ≤ cmpI (l.getD i default).at_ t := hF.hi i (by omega) hi
            have h5 := @cmpI_neg (l.getD i default).at_ t
            omega
          · exact h3
          · have h4 : cmpI (l.getD (i + 1) default).at_ t < 0 := hF.lo (i + 1) h3
            have h5 := @cmpI_neg (l.getD (i + 1) default).at_ t
            have h6 := hi2 (by have := hF.le; omega)
            omega
        obtain rfl := found_no hF (fun m hm e => hne m hm (cmpI_zero.1 e))
        subst hr
        exact ⟨rfl, hn⟩
    obtain ⟨i, is, hi, hseg, ⟨hkt, hyt⟩, hB2⟩ := hfind
    rw [hseg] at HTI
    have HB := hide hB2
    have hab := after_bd hk hi
    have hkb := (hk.bd i hi)
    have HA := hide (fun W h1 => w_After lo A c l i W h1 (by have := hk.le; omega) hi)
    have hlen := hk.le
    have HS := hide hseg
    have hrem : Int.tmod at_ 86400000 = t := by rw [ht, Int.tmod_eq_emod_of_nonneg ha.1]
    have HRM := hide ht
    obtain ⟨b, off, rfl, _, hb, _, hc⟩ := hR.open_ (Nx.refl w) hsp
    have c0 : w.cell? ⟨b, off + i * 2, none⟩ = some (.int .i64 l[i].at_) := hc i hi 0 _ rfl
    have c1 : w.cell? ⟨b, off + i * 2 + 1, none⟩ = some (.int .i64 l[i].time) := hc i hi 1 _ rfl
    rw [knot_at hi] at hkb hab HTI hkt
    have HR := hide hR
    clear hB hB2 hR hk h1 hseg hc
    generalize afterK l i = y at *
    generalize l[i] = k at *
    generalize hn : l.length = n at *
    have HN := hide hn
    clear hn ht
    generalize timeI l at_ = z at *
    go_enter Tryz.func48, Tryz.ntmps48
    go_upto_if 35 with (go_at_call 70; refine HB.out.mono ?_; rintro e w2 ⟨rfl, hn2⟩)
    go_cut [6] (fun v6 wx => v6 = .int .i64 (i : Int) ∧ w2 = wx)
    case first =>
      have q1 : IntKind.i64.wrap (((i + 1 : Nat) : Int) - 1) = (i : Int) := by rw [IntWalk.i64_in _ (by omega)]; omega
      cases is
      · go_wp2
        go_meet
        exact ⟨by first | rfl | go_num, rfl⟩
      · go_wp2
        go_meet
        exact ⟨rfl, rfl⟩
    case rest =>
      obtain ⟨rfl, rfl⟩ := hcut
      go_upto_region 7 with fail
      have eg := nx_cell hn2 hgl hg
      have e0 := nx_cell hn2 hb c0
      have e1 := nx_cell hn2 hb c1
      have hg2 : g < w2.heap.size := Nat.lt_of_lt_of_le hgl hn2.sz
      have hb2 : b < w2.heap.size := Nat.lt_of_lt_of_le hb hn2.sz
      have hg2a : g < w2.heap.size + 1 := by omega
      have hg2b : g < w2.heap.size + 1 + 1 := by omega
      have hb2a : b < w2.heap.size + 1 := by omega
      have hb2b : b < w2.heap.size + 1 + 1 := by omega
      have q2 : (0 : Int) ≤ (i : Int) := by omega
      have q3 : (i : Int) < (n : Int) := by omega
      go_cut [8, 9] (fun v8 v9 wx => TimeMid k y w2 v8 v9 wx)
      case first =>
        go_region_held3 (fun w' => w'.cell? ⟨g, o + 4, none⟩ = some (.slice (some ⟨b, off, none⟩) n c) ∧ w'.cell? ⟨b, off + i * 2, none⟩ = some (.int .i64 k.at_) ∧ w'.cell? ⟨b, off + i * 2 + 1, none⟩ = some (.int .i64 k.time))
          (first | exact ⟨nx_cell (w := w2) (by repeat (first | with_reducible exact Nx.refl _ | with_reducible refine Nx.alloc ?_ _ | with_reducible refine Nx.drew ?_ | with_reducible refine Nx.trans ?_ hn3 | with_reducible refine Nx.setCell ?_ (by simp <;> omega) _)) hg2 eg, nx_cell (w := w2) (by repeat (first | with_reducible exact Nx.refl _ | with_reducible refine Nx.alloc ?_ _ | with_reducible refine Nx.drew ?_ | with_reducible refine Nx.trans ?_ hn3 | with_reducible refine Nx.setCell ?_ (by simp <;> omega) _)) hb2 e0, nx_cell (w := w2) (by repeat (first | with_reducible exact Nx.refl _ | with_reducible refine Nx.alloc ?_ _ | with_reducible refine Nx.drew ?_ | with_reducible refine Nx.trans ?_ hn3 | with_reducible refine Nx.setCell ?_ (by simp <;> omega) _)) hb2 e1⟩ | go_keep)
          (first
            | (go_at_call 60; refine (HA.out _ (HR.out.nx (by repeat (first | exact hn2 | refine Nx.drew ?_ | refine Nx.alloc ?_ _ | refine Nx.setCell ?_ (by simp <;> omega) _)))).mono ?_; rintro e w3 ⟨rfl, hn3⟩; (obtain ⟨hc3, hf3⟩ := nx_rules hn3); (have hg3 : g < w3.heap.size := Nat.lt_of_lt_of_le (by simp; omega) hn3.sz); (have hb3 : b < w3.heap.size := Nat.lt_of_lt_of_le (by simp; omega) hn3.sz); (try (have hz3a : w2.heap.size < w3.heap.size := by (have h9 := hn3.sz; simp at h9; omega))); (try (have hz3b : w2.heap.size + 1 < w3.heap.size := by (have h9 := hn3.sz; simp at h9; omega))); (try (have s0 : (w3.cell? ⟨w2.heap.size, 0, none⟩).isSome = true := by (rw [hc3 _ _ (by simp <;> omega)]; go_simp))); (try (have s1 : (w3.cell? ⟨w2.heap.size, 1, none⟩).isSome = true := by (rw [hc3 _ _ (by simp <;> omega)]; go_simp))); (try (have s2 : (w3.cell? ⟨w2.heap.size + 1, 0, none⟩).isSome = true := by (rw [hc3 _ _ (by simp <;> omega)]; go_simp))); (try (have s3 : (w3.cell? ⟨w2.heap.size + 1, 1, none⟩).isSome = true := by (rw [hc3 _ _ (by simp <;> omega)]; go_simp)))))
        all_goals (go_wp2; go_meet)
        all_goals exact ⟨_, _, rfl, rfl, by first | (go_simp; done) | (simp [s0, s1, s2, s3, go_sem]; done) | (simp [s0, s1, go_sem]; done) | (simp [s2, s3, go_sem]; done), by first | (go_simp; done) | (simp [s0, s1, s2, s3, go_sem]; done) | (simp [s0, s1, go_sem]; done) | (simp [s2, s3, go_sem]; done), by first | (go_simp; done) | (simp [s0, s1, s2, s3, go_sem]; done) | (simp [s0, s1, go_sem]; done) | (simp [s2, s3, go_sem]; done), by first | (go_simp; done) | (simp [s0, s1, s2, s3, go_sem]; done) | (simp [s0, s1, go_sem]; done) | (simp [s2, s3, go_sem]; done), (by repeat (first | with_reducible exact Nx.refl _ | with_reducible refine Nx.alloc ?_ _ | with_reducible refine Nx.drew ?_ | with_reducible refine Nx.trans ?_ hn3 | with_reducible refine Nx.setCell ?_ (by simp <;> omega) _))⟩
      case rest =>
        obtain ⟨p, q, rfl, rfl, d0, d1, d2, d3, hn4⟩ := hcut
        obtain ⟨⟨b1, b2⟩, b3, b4⟩ := hkb
        obtain ⟨⟨b5, b6⟩, b7, b8⟩ := hab
        obtain ⟨M1, hM1⟩ : ∃ M1, M1 = k.time * (y.at_ - t) := ⟨_, rfl⟩
        obtain ⟨M2, hM2⟩ : ∃ M2, M2 = y.time * (t - k.at_) := ⟨_, rfl⟩
        have m1 : 0 ≤ M1 ∧ M1 ≤ 3600000 * 86400000 := by
          rw [hM1]
          exact ⟨Int.mul_nonneg (by omega) (by omega), Int.mul_le_mul (by omega) (by omega) (by omega) (by omega)⟩
        have m2 : 0 ≤ M2 ∧ M2 ≤ 3600000 * 86400000 := by
          rw [hM2]
          exact ⟨Int.mul_nonneg (by omega) (by omega), Int.mul_le_mul (by omega) (by omega) (by omega) (by omega)⟩
        have HT2 := hide (show z = (M1 + M2) / (y.at_ - k.at_) by rw [HTI.out, hM1, hM2]; rfl)
        have W1 : IntKind.i64.wrap (k.time * (y.at_ - t)) = M1 := by rw [← hM1]; exact IntWalk.i64_in _ (by omega)
        have W2 : IntKind.i64.wrap (y.time * (t - k.at_)) = M2 := by rw [← hM2]; exact IntWalk.i64_in _ (by omega)
        obtain ⟨m11, m12⟩ := m1
        obtain ⟨m21, m22⟩ := m2
        have H1 := hide hM1
        have H2 := hide hM2
        clear hM1 hM2
        have hne : (y.at_ - k.at_ == 0) = false := by simp; omega
        go_wp2
        go_ret
        exact ⟨ret_int HT2.out.symm, hn2.trans hn4⟩
end Go.Proofs.YtbhlldpmklkeoaaGreatDoor
/- The walks of the smallest functions of numbers. -/
namespace Go.Proofs.YtbhlldpmklkeoaaGreatDoor
open Go.RowKit

theorem w_Moment (n : Int) (w : World) : Calls Tryz.prog 47 #[.int .i64 n] w fun e w' => e = .returned (.bool (momB n)) ∧ w = w' := by
  have H := hide (show outB n 0 345686399999 = outB n 0 lastMo from rfl)
  go_enter Tryz.func47, Tryz.ntmps47
  go_wp2_with (go_at_call 35; rw [show (345686399999 : Int) = lastMo from rfl]; refine (w_Out _ _ _ _).mono ?_; rintro e w' ⟨rfl, rfl⟩)
  go_ret
  exact ⟨ret_bool (by unfold momB; rfl), rfl⟩

theorem w_MomentFault (x : Int) (w : World) : Calls Tryz.prog 13 #[.int .i64 x] w fun e w' => e = .returned (.int .i64 (momF x)) ∧ w = w' := by
  have e1 := inB_out x 0 lastMo
  go_enter Tryz.func13, Tryz.ntmps13
  cases h1 : outB x 0 lastMo
  all_goals
    rw [h1] at e1
    go_wp2_with (go_at_call 40; rw [show (345686399999 : Int) = lastMo from rfl]; refine (w_in _ _ _ _).mono ?_; rintro e w' ⟨rfl, rfl⟩)
    go_ret
    exact ⟨ret_int (by unfold momF momB; simp [h1, argF]), rfl⟩

end Go.Proofs.YtbhlldpmklkeoaaGreatDoor
/- When one comes out of each of some arcs: the program. -/
namespace Go.Proofs.YtbhlldpmklkeoaaGreatDoor
open Go.RowKit

theorem time_bd {l : List Knot} (h : KOk l) (at_ : Int) : 0 ≤ timeI l at_ ∧ timeI l at_ ≤ 622080000000000 := by
  unfold timeI
  generalize ht : at_ % dayMs = t
  have htb : 0 ≤ t ∧ t ≤ 86399999 := by unfold dayMs at ht; omega
  obtain ⟨i, hi, h1, h2⟩ := seg_ex h htb.1
  rw [seg_of h hi h1 h2]
  have hab := after_bd h hi
  have hkb := h.bd i hi
  have haf : t < (afterK l i).at_ := by
    unfold afterK
    by_cases h3 : i + 1 < l.length
    · rw [if_pos h3]; exact h2 h3
    · rw [if_neg h3]; show t < dayMs; unfold dayMs; omega
  generalize afterK l i = y at *
  generalize l.getD i default = x at *
  unfold lineI
  have m1 : 0 ≤ x.time * (y.at_ - t) ∧ x.time * (y.at_ - t) ≤ 3600000 * 86400000 := ⟨Int.mul_nonneg (by omega) (by omega), Int.mul_le_mul (by omega) (by omega) (by omega) (by omega)⟩
  have m2 : 0 ≤ y.time * (t - x.at_) ∧ y.time * (t - x.at_) ≤ 3600000 * 86400000 := ⟨Int.mul_nonneg (by omega) (by omega), Int.mul_le_mul (by omega) (by omega) (by omega) (by omega)⟩
  have h3 := Int.ediv_nonneg (a := x.time * (y.at_ - t) + y.time * (t - x.at_)) (b := y.at_ - x.at_) (by omega) (by omega)
  have h4 := Int.ediv_le_self (a := x.time * (y.at_ - t) + y.time * (t - x.at_)) (y.at_ - x.at_) (by omega)
  omega
def walkF (ns : List Node) (rs : List Arc) (bs : List Ban) (fr : ByteArray) (at_ : Int) (l : List ByteArray) : Int :=
  if roadsF ns rs bs = 0 then (if nodeI ns fr < 0 then 8 else if momB at_ then (if chainF rs bs fr none l = 0 then (if (walkO rs at_ l).isSome then 0 else 12) else chainF rs bs fr none l) else 1) else roadsF ns rs bs
def walkL (ns : List Node) (rs : List Arc) (bs : List Ban) (fr : ByteArray) (at_ : Int) (l : List ByteArray) : List Int :=
  if walkF ns rs bs fr at_ l = 0 then at_ :: (walkO rs at_ l).getD [] else []
theorem walk_drop (rs : List Arc) (l : List ByteArray) (k : Nat) (hk : k < l.length) (a : Int) : walkO rs a (l.drop k) = if 345686400000 ≤ outAt rs a l[k] then none else (walkO rs (outAt rs a l[k]) (l.drop (k + 1))).map (outAt rs a l[k] :: ·) := by
  rw [List.drop_eq_getElem_cons hk, walkO]

set_option maxRecDepth 100000 in
set_option maxHeartbeats 8000000 in
theorem w_Walk (lo : Nat) (A B C : Option Addr) (ca cb cc : Nat) (ns : List Node) (rs : List Arc) (bs : List Ban) (lo2 : Nat) (D : Option Addr) (cd : Nat) (l : List ByteArray) (fr : ByteArray) (at_ : Int) (w : World)
    (hN : Rd w lo A 3 encNode ns) (hS : SmallN ns) (hnl : ns.length ≤ 400) (hA : RdArcs w lo B rs) (hal : rs.length ≤ 400) (hB : Rd w lo C 2 encBan bs) (hbl : bs.length ≤ 400) (hR : Rd w lo2 D 1 encS l) (hl : l.length ≤ 100) :
    Calls Tryz.prog 17 #[.agg #[.slice A ns.length ca, .slice B rs.length cb, .slice C bs.length cc], .string fr, .slice D l.length cd, .int .i64 at_] w fun e w' => ∃ (Z : Option Addr) (cz : Nat), e = .returned (.tuple #[.slice Z (walkL ns rs bs fr at_ l).length cz, .int .i64 (walkF ns rs bs fr at_ l)]) ∧ Rd w' 0 Z 1 encI (walkL ns rs bs fr at_ l) ∧ Nx w w' := by
  obtain ⟨wa, hwa⟩ : ∃ wa, wa = w.alloc (.cells #[.slice A ns.length ca, .slice B rs.length cb, .slice C bs.length cc] 30) := ⟨_, rfl⟩
  have hna : Nx w wa := hwa ▸ (Nx.refl w).alloc _
  have hgw : w.heap.size < wa.heap.size := by rw [hwa]; simp
  have b0 : wa.cell? ⟨w.heap.size, 0, none⟩ = some (.slice A ns.length ca) := by rw [hwa]; go_simp
  have b1 : wa.cell? ⟨w.heap.size, 1, none⟩ = some (.slice B rs.length cb) := by rw [hwa]; go_simp
  have b2 : wa.cell? ⟨w.heap.size, 2, none⟩ = some (.slice C bs.length cc) := by rw [hwa]; go_simp
  have hBox : BoxR wa w.heap.size lo A B C ca cb cc ns rs bs := ⟨b0, b1, b2, hgw, hN.nx hna, hA.nx hna, hB.nx hna, hnl, hal, hbl⟩
  have HCR := hide (w_CheckRoads lo lo lo A B C ca cb cc ns rs bs wa (hN.nx hna) hS hnl (hA.nx hna) hal (hB.nx hna) hbl)
  have HRA := hide (hA.nx hna)
  have HRL := hide (hR.nx hna)
  have HWF := hide (show walkF ns rs bs fr at_ l = if roadsF ns rs bs = 0 then (if nodeI ns fr < 0 then 8 else if momB at_ then (if chainF rs bs fr none l = 0 then (if (walkO rs at_ l).isSome then 0 else 12) else chainF rs bs fr none l) else 1) else roadsF ns rs bs from rfl)
  have HWL := hide (show walkL ns rs bs fr at_ l = if walkF ns rs bs fr at_ l = 0 then at_ :: (walkO rs at_ l).getD [] else [] from rfl)
  have HND := hide (fun (hso : SortN ns) s W (hx : Nx wa W) => w_nodeR w.heap.size lo A ca ns s W (nx_cell hx hgw b0) ((hN.nx hna).nx hx) (by omega) hso)
  generalize walkF ns rs bs fr at_ l = F at *
  generalize walkL ns rs bs fr at_ l = L at *
  have nilc : ∀ (W : World), F ≠ 0 → ∃ (Z : Option Addr) (cz : Nat), (.slice none 0 0 : Value) = .slice Z L.length cz ∧ Rd W 0 Z 1 encI L := fun W h => by
    have e : L = [] := by rw [HWL.out, if_neg h]
    rw [e]; exact ⟨none, 0, rfl, Rd.nil⟩
  have HNIL := hide nilc
  clear nilc
  by_cases hF : roadsF ns rs bs = 0
  · obtain ⟨o1, o2, o3⟩ := roads_ok hF
    have HAR := hide (fun s W (hx : Nx wa W) => w_arcR w.heap.size lo B cb rs s W (hBox.nx hx).g1 (hBox.nx hx).hA.1 (by omega) (sortA_of o2))
    have HCF := hide (fun W (hx : Nx wa W) => w_chainFault (hBox.nx hx) (sortA_of o2) (chkB_sorted rs bs none o3).1 fr lo2 D cd l ((hR.nx hna).nx hx) (by omega))
    have HND := hide (fun W (hx : Nx wa W) => HND.out (sortN_of o1) fr W hx)
    have HKO := hide (knots_ok o2)
    have HWF := hide (HWF.out.trans (if_pos hF))
    rw [hF] at HCR
    have HOK := hide (chain_ok rs bs l fr none)
    clear hN hS hA hB hR hBox hF o1 o2 o3
    generalize hn : l.length = n at *
    generalize hm : rs.length = m at *
    have HN := hide hn
    have HM := hide hm
    clear hn hm
    go_enter Tryz.func17, Tryz.ntmps17
    go_wp2_with fail
    rw [← hwa]
    refine HCR.out.mono ?_
    rintro e w1 ⟨rfl, hn1⟩
    have HWA := hide hwa
    clear hwa HCR b0 b2
    have HGW := hide (show w.heap.size ≤ wa.heap.size by omega)
    generalize hgg : w.heap.size = g at *
    have HGG := hide hgg
    clear hgg
    by_cases hnf : nodeI ns fr < 0
    · have tf : decide (nodeI ns fr < 0) = true := decide_eq_true hnf
      have hF8 := HWF.out.trans (if_pos hnf)
      clear hnf
      go_wp2_with fail
      refine (HND.out _ hn1).mono ?_
      rintro e w2 ⟨rfl, hn2⟩
      go_wp2_with fail
      go_ret2
      obtain ⟨Z, cz, e1, e2⟩ := HNIL.out w2 (by rw [hF8]; decide)
      exact ⟨Z, cz, by rw [← e1, hF8]; rfl, e2, hna.trans (hn1.trans hn2)⟩
    have tf : decide (nodeI ns fr < 0) = false := decide_eq_false hnf
    have HWF := hide (HWF.out.trans (if_neg hnf))
    clear hnf
    go_wp2_with fail
    refine (HND.out _ hn1).mono ?_
    rintro e w2 ⟨rfl, hn2⟩
    have hn12 := hn1.trans hn2
    cases hmb : momB at_
    · have hF1 : F = 1 := by rw [HWF.out, hmb]; rfl
      go_wp2_with (go_at_call 47; refine (w_Moment _ _).mono ?_; rintro e w' ⟨rfl, rfl⟩)
      go_ret2
      obtain ⟨Z, cz, e1, e2⟩ := HNIL.out w2 (by rw [hF1]; decide)
      exact ⟨Z, cz, by rw [← e1, hF1]; rfl, e2, hna.trans hn12⟩
    have hab := outB_false.1 (show outB at_ 0 lastMo = false by unfold momB at hmb; simpa using hmb)
    unfold lastMo at hab
    have HWF := hide (HWF.out.trans (by rw [hmb, if_pos rfl]))
    go_wp2_with (go_at_call 47; refine (w_Moment _ _).mono ?_; rintro e w' ⟨rfl, rfl⟩)
    refine (HCF.out _ hn12).mono ?_
    rintro e w3 ⟨rfl, hn3⟩
    have hn13 := hn12.trans hn3
    by_cases hc : chainF rs bs fr none l = 0
    · rw [hc]
      have HOK2 := hide (HOK.out hc)
      have HWF := hide (HWF.out.trans (if_pos hc))
      have hown0 : (w3.alloc (.cells #[.int .i64 at_] 3)).ownsRow wa.heap.size 3 1 (.slice (some ⟨w3.heap.size, 0, none⟩) 1 1) ([at_] : List Int).length (([at_] : List Int).flatMap encI) := own_lit (xs := [at_]) encI_len (hnew rfl) hn13.sz rfl rfl (Nat.le_refl _) (by unfold maxLen; omega)
      have HO0 := hide hown0
      clear hc hown0
      go_wp2_with fail
      go_loopw [3, 12, 38] (fun va vo i wr => ∃ (k : Nat) (a : Int) (zs : List Int), k ≤ n ∧ va = .int .i64 a ∧ i = .int .i64 k ∧ zs.length ≤ k + 1 ∧ wr.ownsRow wa.heap.size 3 1 vo zs.length (zs.flatMap encI) ∧ Nx wa wr ∧ 0 ≤ a ∧ a ≤ 345686399999 ∧ (walkO rs at_ l).map (at_ :: ·) = (walkO rs a (l.drop k)).map (zs ++ ·)) (fun _ _ i _ => n - (intOf i).toNat)
      case atStart => exact ⟨0, at_, [at_], Nat.zero_le _, rfl, rfl, Nat.le_refl _, HO0.out, hn13.alloc _, hab.1, hab.2, rfl⟩
      case round =>
        obtain ⟨k, a, zs, hk, rfl, rfl, hzl, hown, hbw, ha1, ha2, hq⟩ := hrel
        have HQ := hide hq
        have HOW := hide hown
        clear hq
        by_cases hlt : k < n
        · have hlt' : k < l.length := by have := HN.out; omega
          have HD := hide (walk_drop rs l k hlt' a)
          obtain ⟨b, off, rfl, _, hb, hbr, hc⟩ := HRL.out.open_ hbw (by have := HN.out; omega)
          have c0 : wr.cell? ⟨b, off + k, none⟩ = some (.string l[k]) := by have := hc k hlt' 0 _ rfl; simpa using this
          obtain ⟨i, hi, ei, hai⟩ := arc_found (HOK2.out l[k] (List.getElem_mem hlt'))
          have hao : outAt rs a l[k] = a + timeI rs[i].knots a := by unfold outAt; rw [hai hi]
          have hARs := fun W hx => HAR.out l[k] W hx
          rw [ei] at hARs
          have HARs := hide hARs
          rw [hao] at HD
          clear hc hai hao ei hARs
          generalize l[k] = s at *
          have him : i < m := by have := HM.out; omega
          have gg1 := nx_cell hbw hgw b1
          have hgr := Nat.lt_of_lt_of_le hgw hbw.sz
          obtain ⟨hKx, hLx, _⟩ := HRA.out.2 rs[i] (List.getElem_mem hi)
          have hko := HKO.out rs[i] (List.getElem_mem hi)
          obtain ⟨ba, offa, rfl, _, hba, hbar, hca⟩ := HRA.out.1.open_ hbw (by omega)
          have a4 : wr.cell? ⟨ba, offa + i * 5 + 4, none⟩ = some (.slice rs[i].ka rs[i].knots.length rs[i].kc) := hca i hi 4 _ rfl
          have htb := time_bd hko a
          have HTI := hide (fun W (hx : Nx wr W) => w_TimeO ba (offa + i * 5) lo rs[i].ka rs[i].kc rs[i].knots a W (nx_cell hx hbar a4) (Nat.lt_of_lt_of_le hbar hx.sz) ((hKx.nx hbw).nx hx) hko ⟨ha1, ha2⟩)
          clear hca hKx hLx hko a4
          generalize timeI rs[i].knots a = z at *
          have i1 : (0 : Int) ≤ (i : Int) := by omega
          have i2 : (i : Int) < (m : Int) := by omega
          have q1 : IntKind.i64.wrap (a + z) = a + z := IntWalk.i64_in _ (by omega)
          obtain ⟨Zo, co, eo, _, _⟩ := Rd.of_own encI_len rfl hown
          subst eo
          clear hown
          go_upto_region 15 with fail
          go_cut [3] (fun v wx => v = .int .i64 (a + z) ∧ Nx wr wx)
          case first =>
            go_region_held3 (fun w' => w'.cell? ⟨g, 1, none⟩ = some (.slice (some ⟨ba, offa, none⟩) m cb))
              (first | exact nx_cell hn5 (Nat.lt_of_lt_of_le hgr hn4.sz) ‹_› | exact nx_cell hn4 hgr ‹_› | go_keep)
              (first
                | (go_at_call 37; refine (HARs.out _ hbw.drew).mono ?_; rintro e w4 ⟨rfl, hn4⟩)
                | (go_at_call 48; refine (HTI.out _ ((Nx.refl wr).drew.trans hn4)).mono ?_; rintro e w5 ⟨rfl, hn5⟩))
            go_wp2
            go_meet
            exact ⟨rfl, ((Nx.refl wr).drew.trans hn4).trans hn5⟩
          case rest =>
            obtain ⟨rfl, hx⟩ := hcut
            by_cases hend : 345686400000 ≤ a + z
            · have te : decide (345686400000 ≤ a + z) = true := decide_eq_true hend
              have hF12 : F = 12 := by
                have h1 := HQ.out
                rw [HD.out, if_pos hend] at h1
                have h2 : walkO rs at_ l = none := by
                  cases h : walkO rs at_ l with
                  | none => rfl
                  | some r => rw [h] at h1; cases h1
                rw [HWF.out, h2]; rfl
              clear hend
              go_wp2_with fail
              go_ret2
              obtain ⟨Z, cz, e1, e2⟩ := HNIL.out wc (by rw [hF12]; decide)
              exact ⟨Z, cz, by rw [← e1, hF12]; rfl, e2, hna.trans (hbw.trans hx)⟩
            · have te : decide (345686400000 ≤ a + z) = false := decide_eq_false hend
              have hD2 := HD.out.trans (if_neg hend)
              have HOX := hide (own_nx HOW.out hx)
              have hsz := (hbw.trans hx).sz
              go_wp2_with (at_builtin; refine wpApp rfl _ _ _ rfl el_Int encI encI_len encI_one (by omega) (by omega) wa.heap.size _ zs rfl (HOX.out.alloc _) _ (a + z) _ rfl (hnew rfl) rfl (by omega) (by simp; omega) ?_; intro v5 w5 hown5 hg5)
              go_roundw
              case rel =>
                refine ⟨k + 1, a + z, zs ++ [a + z], by omega, rfl, by go_num, by rw [List.length_append]; show zs.length + 1 ≤ _; omega, hown5, ((hbw.trans hx).alloc _).grown hg5 (own_blk_lt HOX.out), by omega, by omega, ?_⟩
                rw [HQ.out, hD2, Option.map_map]
                congr 1
                funext r
                show zs ++ ((a + z) :: r) = (zs ++ [a + z]) ++ r
                rw [List.append_assoc]; rfl
              case measure => simp [intOf]; omega
        · have hL : L = zs ∧ F = 0 := by
            have h1 := HQ.out
            rw [List.drop_of_length_le (by have := HN.out; omega)] at h1
            cases h : walkO rs at_ l with
            | none => rw [h] at h1; cases h1
            | some r =>
              rw [h] at h1
              have h2 : at_ :: r = zs := by
                have h3 : some (at_ :: r) = some (zs ++ []) := h1
                injection h3 with h3
                rw [h3, List.append_nil]
              have hF0 : F = 0 := by rw [HWF.out, h]; rfl
              exact ⟨by rw [HWL.out, if_pos hF0, h]; exact h2, hF0⟩
          obtain ⟨Zo, co, eo, hRz, _⟩ := Rd.of_own encI_len rfl hown
          subst eo
          have HRZ := hide hRz
          clear hown hRz
          go_wp2_with fail
          go_ret2
          obtain ⟨rfl, hF0⟩ := hL
          exact ⟨Zo, co, by rw [hF0]; rfl, HRZ.out.low (Nat.zero_le _), hna.trans hbw⟩
    · have tz : (chainF rs bs fr none l != 0) = true := by simpa using hc
      have hFc := HWF.out.trans (if_neg hc)
      have HZ := hide hc
      clear hc
      go_wp2_with fail
      go_ret2
      obtain ⟨Z, cz, e1, e2⟩ := HNIL.out w3 (by rw [hFc]; exact HZ.out)
      exact ⟨Z, cz, by rw [← e1, hFc]; rfl, e2, hna.trans hn13⟩
  · have hFr := HWF.out.trans (if_neg hF)
    have tz : (roadsF ns rs bs != 0) = true := by simpa using hF
    have HZ := hide hF
    clear hN hS hA hB hR hBox hF
    go_enter Tryz.func17, Tryz.ntmps17
    go_wp2_with fail
    rw [← hwa]
    refine HCR.out.mono ?_
    rintro e w1 ⟨rfl, hn1⟩
    go_wp2_with fail
    go_ret2
    obtain ⟨Z, cz, e1, e2⟩ := HNIL.out w1 (by rw [hFr]; exact HZ.out)
    exact ⟨Z, cz, by rw [← e1, hFr]; rfl, e2, hna.trans hn1⟩
end Go.Proofs.YtbhlldpmklkeoaaGreatDoor
