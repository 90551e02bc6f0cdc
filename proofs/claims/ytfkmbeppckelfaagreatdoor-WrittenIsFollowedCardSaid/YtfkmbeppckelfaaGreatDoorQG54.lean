/- The stream's new event. -/
import Derived.Test.YtfkmbeppckelfaaGreatDoorQStX
import Derived.Test.YtfkmbeppckelfaaGreatDoorQSnoS
import Derived.Test.YtfkmbeppckelfaaGreatDoorQEvG
import Derived.Test.YtfkmbeppckelfaaGreatDoorQG4
namespace Go.Proofs.YtfkmbeppckelfaaGreatDoor
open Go.RowKit Go.Maps

/-- A new event of the stream's. -/
def NewOut (s k : Nat) (w : World) (e : Ending) (w' : World) : Prop := ∃ x : Ev, e = .returned (.agg (evA x)) ∧ okEv x ∧ Gr s w w' ∧ Str w' s (k + 420)
set_option maxRecDepth 100000 in
set_option maxHeartbeats 2000000 in
theorem w_NewEvent (lo : Nat) (A : Option Addr) (c : Nat) (l : List Ev) (at_ : Int) (s k : Nat) (w : World) (hR : Rd w lo A 11 encEvt l) (hsl : s < lo) (_hlw : lo ≤ w.heap.size) (hl : l.length ≤ 40) (hc : l.length ≤ c) (hok : ∀ x ∈ l, okEv x) (hat : 0 ≤ at_ ∧ at_ ≤ 1000000) (hS : Str w s k) (hk : k < 600000) :
    Calls Tryz.prog 14 #[.pointer (some ⟨s, 0, none⟩), .slice A l.length c, .int .i64 at_] w (NewOut s k w) := by
  obtain ⟨w1, hw1⟩ : ∃ w1, w1 = w.alloc (.cells #[.string ⟨#[]⟩, .int .i64 0, .int .i64 0, .int .i64 0, .string ⟨#[]⟩, .string ⟨#[]⟩, .string ⟨#[]⟩, .int .i64 0, .int .i64 0, .string ⟨#[]⟩, .int .i64 0] 31 (0, 0)) := ⟨_, rfl⟩
  obtain ⟨g6, hg6⟩ : ∃ g6, g6 = w.heap.size := ⟨_, rfl⟩
  have hn1 : Nx w w1 := hw1 ▸ (Nx.refl w).alloc _
  have hb1 : w1.heap[g6]? = some (.cells #[.string ⟨#[]⟩, .int .i64 0, .int .i64 0, .int .i64 0, .string ⟨#[]⟩, .string ⟨#[]⟩, .string ⟨#[]⟩, .int .i64 0, .int .i64 0, .string ⟨#[]⟩, .int .i64 0] 31 (0, 0)) := by rw [hw1, hg6]; exact heap_alloc_new w _
  have hz1 : w1.heap.size = g6 + 1 := by rw [hw1, hg6]; simp
  have hsw := hS.lt
  have HEV := hide (w_event lo A c l at_ s k w1 (hR.nx hn1) hsl hl hc hok (by omega) (hS.nx hn1) (by omega))
  have HN1 := hide hn1
  have HB1 := hide hb1
  have HG6 := hide hg6
  have HZ1 := hide hz1
  clear hb1 hS hR hok hn1 hz1
  generalize l.length = n at *
  have hsg : s < g6 := by have := HG6.out; omega
  have hgs6 : g6 ≠ s := by omega
  go_enter Tryz.func14, Tryz.ntmps14
  go_upto_region 1 with fail
  rw [← hw1, ← hg6]
  clear hw1 hg6
  go_wp2_with fail
  refine HEV.out.mono ?_
  rintro e w2 ⟨x, rfl, hxo, hg2, hS2⟩
  have HXO := hide hxo
  have HG2 := hide hg2
  have HS2 := hide hS2
  have hb2 := (hg2.block g6 (by have := HZ1.out; omega) (by intro e; injection e with e; exact hgs6 e)).trans HB1.out
  have HB2 := hide hb2
  have hz2 : g6 + 1 ≤ w2.heap.size := by have := hg2.sz; have := HZ1.out; omega
  obtain ⟨xso, xno, xat, xki, xri, xca, xnd, xup, xdn, xfo, xnu⟩ := x
  unfold evA
  simp only
  clear hxo hg2 hS2 hb2 HEV
  obtain ⟨b, hb⟩ : ∃ b, b = w2.heap.size := ⟨_, rfl⟩
  obtain ⟨w3, hw3⟩ : ∃ w3, w3 = w2.alloc (.cells #[.string xso, .int .i64 xno, .int .i64 xat, .int .i64 xki, .string xri, .string xca, .string xnd, .int .i64 xup, .int .i64 xdn, .string xfo, .int .i64 xnu] 31 (0, 0)) := ⟨_, rfl⟩
  have hb3 : w3.heap[b]? = some (.cells #[.string xso, .int .i64 xno, .int .i64 xat, .int .i64 xki, .string xri, .string xca, .string xnd, .int .i64 xup, .int .i64 xdn, .string xfo, .int .i64 xnu] 31 (0, 0)) := by rw [hw3, hb]; exact heap_alloc_new w2 _
  have hn3 : Nx w2 w3 := hw3 ▸ (Nx.refl w2).alloc _
  have hsb : s < b := by omega
  have hbs : b ≠ s := by omega
  have hg6b : g6 ≠ b := by omega
  have hg6b' : g6 < b := by omega
  have EB := boxE_ev b
  have HT3 := hide (show TyW s b k (BoxE b) w1 200 w3 from ⟨Two.of_gr (HG2.out.then_nx hn3), (HS2.out.nx hn3).more (by omega), ⟨⟨xso, xno, xat, xki, xri, xca, xnd, xup, xdn, xfo, xnu⟩, HXO.out, hb3⟩⟩)
  clear hb3 hn3
  go_upto_region 2 with fail
  rw [← hw3, ← hb]
  clear hw3 hb
  go_wp2_with fail
  refine (w_Some _ [⟨#[115, 97]⟩, ⟨#[115, 98]⟩, ⟨#[115, 99]⟩] _ s _ _ (HT3.out.str.nx ((Nx.refl _).alloc _)) (by omega) (hnew rfl) (by have := HT3.out.str.lt; omega) rfl (by simp) (by simp)).mono ?_
  rintro e w4 ⟨so2, hm4, rfl, hg4, hs4⟩
  have hz4 : so2.size ≤ 1000 := by
    simp only [List.mem_cons, List.not_mem_nil, or_false] at hm4
    rcases hm4 with rfl | rfl | rfl <;> decide
  have HT4 := hide ((HT3.out.alloc0 EB _).gr0 EB hbs hg4 hs4 (by omega))
  obtain ⟨y4, hy4, hb4⟩ := HT4.out.box
  obtain ⟨yso, yno, yat, yki, yri, yca, ynd, yup, ydn, yfo, ynu⟩ := y4
  have hb4' : w4.heap[b]? = some (.cells #[.string yso, .int .i64 yno, .int .i64 yat, .int .i64 yki, .string yri, .string yca, .string ynd, .int .i64 yup, .int .i64 ydn, .string yfo, .int .i64 ynu] 31 (0, 0)) := hb4
  obtain ⟨d0, d1, d2, d3, d4, d5, d6, d7, d8, d9, d10⟩ := evb_cells hb4'
  have hbl4 := (Array.getElem?_eq_some_iff.1 hb4').1
  have z4 : ∀ i, w4.frozen? ⟨b, i, none⟩ = false := fun i => by simp [World.frozen?, hb4']
  have HB4 := hide hb4'
  obtain ⟨w5, hw5⟩ : ∃ w5, w5 = (w4.setCell ⟨b, 0, none⟩ (.string so2)).setCell ⟨b, 2, none⟩ (.int .i64 at_) := ⟨_, rfl⟩
  have HT5 := hide (show TyW s b k (BoxE b) w1 201 w5 by
    rw [hw5]; exact (HT4.out.setS0 EB hsb (j := 0) (by decide) hz4).setI0 EB hsb (j := 2) (by decide) (by omega))
  clear hb4 hb4' hy4 hg4 hs4 hm4
  go_upto_region 3 with fail
  rw [← hw5]
  clear hw5 d0 d1 d2 d3 d4 d5 d6 d7 d8 d9 d10 z4
  go_upto_if 19 with (go_at_call 13; refine (w_Flip 20 s _ _ HT5.out.str (by omega) (by omega)).mono ?_; rintro e w6 ⟨bo, rfl, hg6', hS6⟩; (have HT6 := hide (HT5.out.gr0 EB hbs hg6' hS6 (by omega))); clear hg6' hS6)
  go_cut [] (fun wx => TyW s b k (BoxE b) w1 206 wx)
  case first =>
    cases bo with
    | false =>
      go_wp2_with fail
      go_meet
      exact HT6.out.up (by omega)
    | true =>
      go_wp2_with fail
      refine (w_PickI _ [0, 1] _ s _ _ (HT6.out.str.nx ((Nx.refl _).alloc _)) (by omega) (hnew rfl) (by have := HT6.out.str.lt; omega) rfl (by simp) (by simp)).mono ?_
      rintro e w7 ⟨no2, hm7, rfl, hg7, hs7⟩
      have hz7 : -1000000000000000 ≤ no2 ∧ no2 ≤ 1000000000000000 := by
        simp only [List.mem_cons, List.not_mem_nil, or_false] at hm7
        rcases hm7 with rfl | rfl <;> decide
      have HT7 := hide ((HT6.out.alloc0 EB _).gr0 EB hbs hg7 hs7 (by omega))
      clear hm7 hg7 hs7
      go_wp2_with fail
      refine (w_Some _ [⟨#[65]⟩, ⟨#[115, 97]⟩] _ s _ _ (HT7.out.str.nx ((Nx.refl _).alloc _)) (by omega) (hnew rfl) (by have := HT7.out.str.lt; omega) rfl (by simp) (by simp)).mono ?_
      rintro e w8 ⟨so8, hm8, rfl, hg8, hs8⟩
      have hz8 : so8.size ≤ 1000 := by
        simp only [List.mem_cons, List.not_mem_nil, or_false] at hm8
        rcases hm8 with rfl | rfl <;> decide
      have HT8 := hide ((HT7.out.alloc0 EB _).gr0 EB hbs hg8 hs8 (by omega))
      obtain ⟨y8, hy8, hb8⟩ := HT8.out.box
      obtain ⟨yso, yno, yat, yki, yri, yca, ynd, yup, ydn, yfo, ynu⟩ := y8
      have hb8' : w8.heap[b]? = some (.cells #[.string yso, .int .i64 yno, .int .i64 yat, .int .i64 yki, .string yri, .string yca, .string ynd, .int .i64 yup, .int .i64 ydn, .string yfo, .int .i64 ynu] 31 (0, 0)) := hb8
      obtain ⟨d0, d1, d2, d3, d4, d5, d6, d7, d8, d9, d10⟩ := evb_cells hb8'
      have hbl8 := (Array.getElem?_eq_some_iff.1 hb8').1
      have z8 : ∀ i, w8.frozen? ⟨b, i, none⟩ = false := fun i => by simp [World.frozen?, hb8']
      clear hm8 hg8 hs8 hb8 hb8' hy8
      go_wp2_with fail
      go_meet
      exact ((HT8.out.setI0 EB hsb (j := 1) (by decide) hz7).setS0 EB hsb (j := 0) (by decide) hz8).up (by omega)
  case rest =>
    obtain ⟨w30, hw30⟩ : ∃ w30, w30 = wc := ⟨_, rfl⟩
    rw [← hw30] at hcut ⊢
    have HT30 := hide hcut
    clear hw30 hcut
    obtain ⟨x, hxo, hB30⟩ := HT30.out.box
    have HXO2 := hide hxo
    obtain ⟨yso, yno, yat, yki, yri, yca, ynd, yup, ydn, yfo, ynu⟩ := x
    have hB30' : w30.heap[b]? = some (.cells #[.string yso, .int .i64 yno, .int .i64 yat, .int .i64 yki, .string yri, .string yca, .string ynd, .int .i64 yup, .int .i64 ydn, .string yfo, .int .i64 ynu] 31 (0, 0)) := hB30
    obtain ⟨d0, d1, d2, d3, d4, d5, d6, d7, d8, d9, d10⟩ := evb_cells hB30'
    have hbl30 := (Array.getElem?_eq_some_iff.1 hB30').1
    have hgl1 := (Array.getElem?_eq_some_iff.1 HB1.out).1
    have hG6 := (HT30.out.two.2.2.2.2 g6 hgl1 hgs6 hg6b).trans HB1.out
    obtain ⟨y0, y1, y2, y3, y4, y5, y6, y7, y8, y9, y10⟩ := evb_cells hG6
    have hgl30 := (Array.getElem?_eq_some_iff.1 hG6).1
    have hfz : ∀ i, w30.frozen? ⟨g6, i, none⟩ = false := fun i => by simp [World.frozen?, hG6]
    have hwg : w.heap.size ≤ g6 := by have := HG6.out; omega
    have HGF := hide ((Gr.of_nx HN1.out : Gr s w w1).trans (HT30.out.two.toGr (by have := HZ1.out; omega)))
    have HSF := hide HT30.out.str
    have HG6' := hide hG6
    clear hB30 hB30' hG6 hxo
    go_wp2_with fail
    exact bodyPost_ret (v := .agg #[.string yso, .int .i64 yno, .int .i64 yat, .int .i64 yki, .string yri, .string yca, .string ynd, .int .i64 yup, .int .i64 ydn, .string yfo, .int .i64 ynu]) (by simp [results, Tryz.results14, go_sem, y0, y1, y2, y3, y4, y5, y6, y7, y8, y9, y10]) rfl ⟨⟨yso, yno, yat, yki, yri, yca, ynd, yup, ydn, yfo, ynu⟩, rfl, HXO2.out, by repeat (first | with_reducible exact HGF.out | with_reducible refine Gr.setg ?_ hwg), by refine Str.more (k := k + 2 * 206) ?_ (by omega); repeat (first | with_reducible exact HSF.out | with_reducible refine Str.setg ?_ hsg)⟩
end Go.Proofs.YtfkmbeppckelfaaGreatDoor
/- Plain: an event that is written behind others. -/
namespace Go.Proofs.YtfkmbeppckelfaaGreatDoor

/-- The end of time. -/
def endW : Int := 345686400000
/-- The event with its number. -/
def newE (l : List Ev) (x : Ev) : Ev := { x with no := num0 l x.source + 1 }
/-- Why the last event is refused. -/
def lastWhy (l : List Ev) (y : Ev) : Int := if goneB (l ++ [y]) l.length = true then 0 else whyL (l ++ [y]) endW l.length y
/-- What is wrong with an event behind right ones. -/
def wrF (l : List Ev) (x : Ev) : Int :=
  if x.no ≠ 0 then 3 else if evF (newE l x) ≠ 0 then evF (newE l x) else if lateB (lastO none l) (newE l x) = true then 7 else lastWhy l (newE l x)
theorem newE_right {l : List Ev} {x : Ev} (h : evsF l = 0) (h1 : evF (newE l x) = 0) (h2 : lateB (lastO none l) (newE l x) = false) : evsF (l ++ [newE l x]) = 0 := evsF_snoc_zero h h1 h2 rfl
theorem refP_lt (l : List Ev) (at_ : Int) : ∀ k, ∀ p ∈ refP l at_ k, 0 ≤ p.1 ∧ p.1 < (k : Int)
  | 0, p, h => by cases h
  | k + 1, p, h => by
    have ih := refP_lt l at_ k
    unfold refP at h
    split at h
    · have := ih p h; omega
    · split at h
      · have := ih p h; omega
      · split at h
        · have := ih p h; omega
        · rcases List.mem_append.1 h with h | h
          · have := ih p h; omega
          · rw [List.mem_singleton.1 h]
            show 0 ≤ (k : Int) ∧ (k : Int) < ((k + 1 : Nat) : Int)
            omega
theorem refP_snoc {l : List Ev} {y : Ev} (h : evsF (l ++ [y]) = 0) : refP (l ++ [y]) endW (l ++ [y]).length = refP (l ++ [y]) endW l.length ++ (if lastWhy l y = 0 then [] else [((l.length : Int), lastWhy l y)]) := by
  have hlen : (l ++ [y]).length = l.length + 1 := by simp
  rw [hlen]
  have hat : ¬ endW < y.at_ := by
    obtain ⟨_, _, h3, _⟩ := evF_zero (evs_right h (x := y) (by simp))
    unfold endW; omega
  have hg : (l ++ [y])[l.length]? = some y := by simp
  conv => lhs; unfold refP
  rw [hg]
  simp only
  unfold lastWhy
  by_cases h2 : goneB (l ++ [y]) l.length = true
  · rw [if_pos (.inl h2), if_pos h2]; simp
  · rw [if_neg (by simp [h2, hat]), if_neg h2]
    split <;> simp
/-- The test of the program: the last refused event is the new one. -/
theorem refP_last {l : List Ev} {y : Ev} (h : evsF (l ++ [y]) = 0) : (lastWhy l y = 0 ∧ ∀ p ∈ refP (l ++ [y]) endW (l ++ [y]).length, p.1 ≠ (l.length : Int)) ∨
    (lastWhy l y ≠ 0 ∧ ∃ R, refP (l ++ [y]) endW (l ++ [y]).length = R ++ [((l.length : Int), lastWhy l y)]) := by
  rw [refP_snoc h]
  by_cases h1 : lastWhy l y = 0
  · refine .inl ⟨h1, ?_⟩
    rw [if_pos h1, List.append_nil]
    intro p hp
    have := (refP_lt _ _ _ p hp).2
    omega
  · exact .inr ⟨h1, _, by rw [if_neg h1]⟩
/-- What is wrong with an event behind any. -/
def writeF (l : List Ev) (x : Ev) : Int := if evsF l = 0 then wrF l x else evsF l
theorem writeF_ok {l : List Ev} {x : Ev} (h : writeF l x = 0) : evsF l = 0 ∧ evsF (l ++ [newE l x]) = 0 ∧ lastWhy l (newE l x) = 0 := by
  unfold writeF at h
  by_cases h0 : evsF l = 0
  · rw [if_pos h0] at h
    unfold wrF at h
    split at h
    · cases h
    split at h
    · rename_i c; exact absurd h c
    rename_i c1
    split at h
    · cases h
    rename_i c2
    exact ⟨h0, newE_right h0 (by simpa using c1) (by simpa using c2), h⟩
  · rw [if_neg h0] at h; exact absurd h h0
end Go.Proofs.YtfkmbeppckelfaaGreatDoor
/- slices.ContainsFunc of refused events. -/
namespace Go.Proofs.YtfkmbeppckelfaaGreatDoor
open Go.RowKit

def idxRf (p : Int × Int → Bool) : List (Int × Int) → Nat → Int
  | [], _ => -1
  | y :: l, k => if p y = true then (k : Int) else idxRf p l (k + 1)
theorem idxRf_drop (p : Int × Int → Bool) (l : List (Int × Int)) (k : Nat) (h : k < l.length) : idxRf p (l.drop k) k = if p l[k] = true then (k : Int) else idxRf p (l.drop (k + 1)) (k + 1) := by
  rw [List.drop_eq_getElem_cons h]; rfl
theorem idxRf_any (p : Int × Int → Bool) : ∀ (l : List (Int × Int)) (k : Nat), decide (idxRf p l k ≥ 0) = l.any p
  | [], _ => rfl
  | y :: l, k => by
    unfold idxRf
    cases hp : p y with
    | true => simp [hp] <;> omega
    | false => simp only [Bool.false_eq_true, if_false, List.any_cons, hp, Bool.false_or]; exact idxRf_any p l (k + 1)
set_option maxRecDepth 100000 in
set_option maxHeartbeats 2000000 in
theorem w_IndexFR (g : Nat) (p : Int × Int → Bool) (cap0 : Value) (eg : Enters g) (lo : Nat) (A : Option Addr) (c : Nat) (l : List (Int × Int)) (w : World) (hcl : ∀ (y : Int × Int) W, Nx w W → Calls Tryz.prog g #[.agg #[.int .i64 y.1, .int .i64 y.2], cap0] W fun e w' => e = .returned (.bool (p y)) ∧ Nx W w')
    (hR : Rd w lo A 2 encRef l) (hl : l.length ≤ 65536) :
    Calls Tryz.prog 74 #[.slice A l.length c, .func (.func g) #[] #[cap0]] w fun e w' => e = .returned (.int .i64 (idxRf p l 0)) ∧ Nx w w' := by
  generalize hn : l.length = n at *
  have HR := hide hR
  have HN := hide hn
  have HC0 := hide hcl
  clear hR hn hcl
  unfold Enters at eg
  go_enter Tryz.func74, Tryz.ntmps74
  go_wp2
  go_loopw [5, 8] (fun _ i wr => ∃ k : Nat, k ≤ n ∧ i = .int .i64 k ∧ Nx w wr ∧ idxRf p l 0 = idxRf p (l.drop k) k) (fun _ i _ => n - (intOf i).toNat)
  case atStart => exact ⟨0, Nat.zero_le _, rfl, Nx.refl _, rfl⟩
  case round =>
    obtain ⟨k, hk, rfl, hbw, hq⟩ := hrel
    have HQ := hide hq
    clear hq
    by_cases hlt : k < n
    · have hlt' : k < l.length := by have := HN.out; omega
      obtain ⟨b, off, rfl, _, hb, hbr, hc⟩ := HR.out.open_ hbw (by omega)
      have c0 : wr.cell? ⟨b, off + k * 2, none⟩ = some (.int .i64 l[k].1) := hc k hlt' 0 _ rfl
      have c1 : wr.cell? ⟨b, off + k * 2 + 1, none⟩ = some (.int .i64 l[k].2) := hc k hlt' 1 _ rfl
      clear hc
      have HD := hide (idxRf_drop p l k hlt')
      have hcl := fun W (h : Nx w W) => HC0.out l[k] W h
      generalize l[k] = y at *
      obtain ⟨y1, y2⟩ := y
      simp only at c0 c1 hcl
      have q1 : (0 : Int) ≤ (k : Int) := by omega
      have q2 : (k : Int) < (n : Int) := by omega
      cases hbig : p (y1, y2)
      all_goals
        have HB := hide hbig
        rw [hbig] at hcl
        have HCL := hide hcl
        clear hbig hcl
        go_wp2_with (go_at_fn g; refine (HCL.out _ hbw).mono ?_; rintro e w2 ⟨rfl, hn2⟩)
      · go_roundw
        case rel => exact ⟨k + 1, by omega, by go_num, hbw.trans hn2, by rw [HQ.out, HD.out, HB.out, if_neg (by simp)]⟩
        case measure => simp [intOf]; omega
      · go_ret
        exact ⟨by rw [HQ.out, HD.out, HB.out, if_pos rfl] <;> rfl, hbw.trans hn2⟩
    · go_wp2
      go_ret
      exact ⟨by rw [HQ.out, List.drop_of_length_le (by have := HN.out; omega)] <;> rfl, hbw⟩
set_option maxRecDepth 100000 in
set_option maxHeartbeats 1000000 in
theorem w_ContFRef (g : Nat) (p : Int × Int → Bool) (cap0 : Value) (eg : Enters g) (lo : Nat) (A : Option Addr) (c : Nat) (l : List (Int × Int)) (w : World) (hcl : ∀ (y : Int × Int) W, Nx w W → Calls Tryz.prog g #[.agg #[.int .i64 y.1, .int .i64 y.2], cap0] W fun e w' => e = .returned (.bool (p y)) ∧ Nx W w')
    (hR : Rd w lo A 2 encRef l) (hl : l.length ≤ 65536) :
    Calls Tryz.prog 37 #[.slice A l.length c, .func (.func g) #[] #[cap0]] w fun e w' => e = .returned (.bool (l.any p)) ∧ Nx w w' := by
  have HC := hide (w_IndexFR g p cap0 eg lo A c l w hcl hR hl)
  have HA := hide (idxRf_any p l 0)
  generalize idxRf p l 0 = r at *
  generalize l.any p = z at *
  clear hcl eg hR hl
  generalize l.length = n at *
  have h1 := HA.out
  have h2 : decide (r ≥ 0) = z := h1
  go_enter Tryz.func37, Tryz.ntmps37
  go_wp2_with (go_at_call 74; refine HC.out.mono ?_; rintro e w2 ⟨rfl, hn2⟩)
  go_ret
  exact ⟨rfl, hn2⟩
/-- The predicate of WrittenIsFollowed. -/
def atNo (n : Nat) (p : Int × Int) : Bool := decide (p.1 = (n : Int))
theorem w_written1 (n : Nat) (hn : n ≤ 100000) (y : Int × Int) (q : Nat) (B : Option Addr) (c : Nat) (w : World) (h0 : w.cell? ⟨q, 0, none⟩ = some (.slice B (n + 1) c)) (hql : q < w.heap.size) :
    Calls Tryz.prog 38 #[.agg #[.int .i64 y.1, .int .i64 y.2], .pointer (some ⟨q, 0, none⟩)] w fun e w' => e = .returned (.bool (atNo n y)) ∧ Nx w w' := by
  obtain ⟨y1, y2⟩ := y
  have q4 : IntKind.i64.wrap (n : Int) = (n : Int) := IntWalk.i64_in _ (by omega)
  have q5 : IntKind.i64.wrap ((n : Int) + 1 - 1) = (n : Int) := by rw [show (n : Int) + 1 - 1 = (n : Int) by omega]; exact q4
  have hd := hide (show atNo n (y1, y2) = (y1 == (n : Int)) from rfl)
  generalize atNo n (y1, y2) = r at *
  simp only
  go_enter Tryz.func38, Tryz.ntmps38
  go_wp2_with fail
  go_ret
  exact ⟨by rw [hd.out] <;> rfl, (Nx.refl w).alloc _⟩
theorem eg_written : Enters 38 := enters_of Tryz.func38 (by kernel_rfl) rfl
end Go.Proofs.YtfkmbeppckelfaaGreatDoor
