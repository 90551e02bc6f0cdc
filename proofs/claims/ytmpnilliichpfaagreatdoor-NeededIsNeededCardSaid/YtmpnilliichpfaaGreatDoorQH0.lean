/- slices.BinarySearch of strings: is one of them there? -/
import Derived.Test.YtmpnilliichpfaaGreatDoorQG48
import Derived.Test.YtmpnilliichpfaaGreatDoorQG6
import Derived.Test.YtmpnilliichpfaaGreatDoorQG3
import Derived.Test.YtmpnilliichpfaaGreatDoorQG1
import Derived.ArgAppend
import Derived.Test.YtmpnilliichpfaaGreatDoorQG15
import Derived.Deep.DeepCutAuto
import Derived.Deep.DeepMust
import Derived.Test.YtmpnilliichpfaaGreatDoorQG13
import Derived.Test.YtmpnilliichpfaaGreatDoorQG21
namespace Go.Proofs.YtmpnilliichpfaaGreatDoor
open Go.RowKit

def lsB (a b : ByteArray) : Bool := Op.bytesLess a.toList b.toList
theorem lsB_iff {a b : ByteArray} : lsB a b = true ↔ ltS a b := by
  unfold lsB ltS
  rw [Proofs.bytesLess_eq, Lib.toList_data, Lib.toList_data, decide_eq_true_eq]
theorem w_isNaN2 (a : ByteArray) (w : World) : Calls Tryz.prog 169 #[.string a] w fun e w' => e = .returned (.bool false) ∧ w = w' := by
  go_enter Tryz.func169, Tryz.ntmps169
  go_wp2
  go_ret
  exact ⟨ret_bool (by simp), rfl⟩
def memS (l : List ByteArray) (t : ByteArray) : Bool := l.any fun x => decide (x = t)
theorem memS_iff {l : List ByteArray} {t : ByteArray} : memS l t = true ↔ t ∈ l := by
  unfold memS
  rw [List.any_eq_true]
  constructor
  · rintro ⟨x, hx, e⟩
    exact (of_decide_eq_true e) ▸ hx
  · intro h
    exact ⟨t, h, decide_eq_true rfl⟩
set_option maxRecDepth 100000 in
set_option maxHeartbeats 2000000 in
theorem w_BinS (lo : Nat) (A : Option Addr) (c : Nat) (l : List ByteArray) (t : ByteArray) (w : World) (hR : Rd w lo A 1 encS l) (hl : l.length ≤ 65536) (hs : l.Pairwise ltS) :
    Calls Tryz.prog 103 #[.slice A l.length c, .string t] w fun e w' => ∃ r : Int, e = .returned (.tuple #[.int .i64 r, .bool (memS l t)]) ∧ Nx w w' := by
  have HM := hide (fun i j (hij : i < j) (hj : j < l.length) (h : ltS (l.getD j default) t) => (show ltS (l.getD i default) t by
    have h2 := List.pairwise_iff_getElem.1 hs i j (by omega) hj hij
    rw [List.getD_eq_getElem?_getD, List.getElem?_eq_getElem hj] at h
    rw [List.getD_eq_getElem?_getD, List.getElem?_eq_getElem (by omega)]
    exact ltS_trans h2 h))
  have HMEM := hide (fun (i : Nat) (hi : i ≤ l.length) (h1 : ∀ m, m < i → ltS (l.getD m default) t) (h2 : ∀ m, i ≤ m → m < l.length → ¬ ltS (l.getD m default) t) => (show memS l t = (decide (i < l.length) && decide (l.getD i default = t)) by
    by_cases hi2 : i < l.length
    · rw [decide_eq_true hi2, Bool.true_and, Bool.eq_iff_iff, memS_iff, decide_eq_true_eq]
      constructor
      · intro ht
        obtain ⟨m, hm, e⟩ := List.mem_iff_getElem.1 ht
        have em : l.getD m default = t := by rw [List.getD_eq_getElem?_getD, List.getElem?_eq_getElem hm]; exact e
        rcases Nat.lt_trichotomy m i with h3 | h3 | h3
        · have := h1 m h3
          rw [em] at this
          exact absurd this (ltS_irrefl t)
        · rw [← h3]; exact em
        · have h4 := List.pairwise_iff_getElem.1 hs i m hi2 hm h3
          rw [e] at h4
          refine absurd ?_ (h2 i (Nat.le_refl _) hi2)
          rw [List.getD_eq_getElem?_getD, List.getElem?_eq_getElem hi2]
          exact h4
      · intro e
        rw [← e, List.getD_eq_getElem?_getD, List.getElem?_eq_getElem hi2]
        exact List.getElem_mem hi2
    · rw [decide_eq_false hi2, Bool.false_and]
      rw [Bool.eq_false_iff]
      intro ht
      obtain ⟨m, hm, e⟩ := List.mem_iff_getElem.1 (memS_iff.1 ht)
      have := h1 m (by omega)
      rw [List.getD_eq_getElem?_getD, List.getElem?_eq_getElem hm] at this
      exact absurd (show ltS t t by rw [show (some l[m]).getD default = t from e] at this; exact this) (ltS_irrefl t)))
  clear hs
  obtain ⟨ans, hans⟩ : ∃ ans, ans = memS l t := ⟨_, rfl⟩
  rw [← hans] at HMEM ⊢
  clear hans
  have HR := hide hR
  generalize hn : l.length = n at *
  have HN := hide hn
  clear hR hn
  go_enter Tryz.func103, Tryz.ntmps103
  go_wp2
  go_loopw [7, 8, 9] (fun vi vj _ wr => ∃ i j : Nat, i ≤ j ∧ j ≤ n ∧ vi = .int .i64 i ∧ vj = .int .i64 j ∧ Nx w wr ∧ (∀ m, m < i → ltS (l.getD m default) t) ∧ (∀ m, j ≤ m → m < n → ¬ ltS (l.getD m default) t)) (fun vi vj _ _ => (intOf vj).toNat - (intOf vi).toNat)
  case atStart => exact ⟨0, n, Nat.zero_le _, Nat.le_refl _, rfl, rfl, Nx.refl _, fun m hm => by omega, fun m h1 h2 => by omega⟩
  case round =>
    obtain ⟨i, j, hij, hj, rfl, rfl, hbw, hlo, hhi⟩ := hrel
    have HLO := hide hlo
    have HHI := hide hhi
    clear hlo hhi
    by_cases hlt : i < j
    · obtain ⟨h, hh⟩ : ∃ h, h = (i + j) / 2 := ⟨_, rfl⟩
      have qh : ((i : Int) + (j : Int)) / 2 = (h : Int) := by omega
      have hih : i ≤ h := by omega
      have hhj : h < j := by omega
      have hh' : h < l.length := by have := HN.out; omega
      clear hh
      obtain ⟨b, off, rfl, _, hb, hbr, hc⟩ := HR.out.open_ hbw (by have := HN.out; omega)
      have c0 : wr.cell? ⟨b, off + h, none⟩ = some (.string l[h]) := by simpa using hc h hh' 0 _ rfl
      clear hc
      have HE := hide (show l.getD h default = l[h] by rw [List.getD_eq_getElem?_getD, List.getElem?_eq_getElem hh']; rfl)
      generalize l[h] = y at *
      have hL := fun W => w_LessG y t W
      cases hneg : Op.bytesLess y.toList t.toList
      · have HNG := hide (show ¬ ltS y t from fun h => by rw [← lsB_iff] at h; unfold lsB at h; rw [hneg] at h; cases h)
        rw [hneg] at hL
        have HL := hide hL
        clear hneg hL
        go_wp2_with (go_at_call 168; refine (HL.out _).mono ?_; rintro e w2 ⟨rfl, rfl⟩)
        go_roundw
        case rel => exact ⟨i, h, by omega, by omega, rfl, rfl, hbw, HLO.out, fun m h1 h2 hc => by
          rcases Nat.eq_or_lt_of_le h1 with h3 | h3
          · subst h3
            rw [HE.out] at hc
            exact HNG.out hc
          · have h4 := HM.out h m h3 (by have := HN.out; omega) hc
            rw [HE.out] at h4
            exact HNG.out h4⟩
        case measure => simp [intOf]; omega
      · have HNG := hide (show ltS y t from lsB_iff.1 hneg)
        rw [hneg] at hL
        have HL := hide hL
        clear hneg hL
        go_wp2_with (go_at_call 168; refine (HL.out _).mono ?_; rintro e w2 ⟨rfl, rfl⟩)
        go_roundw
        case rel => exact ⟨h + 1, j, by omega, by omega, by go_num, rfl, hbw, fun m hm => by
          rcases Nat.lt_or_ge m h with h3 | h3
          · exact HM.out m h h3 (by omega) (by rw [HE.out]; exact HNG.out)
          · obtain rfl : m = h := by omega
            rw [HE.out]
            exact HNG.out, HHI.out⟩
        case measure => simp [intOf]; omega
    · have hij' : i = j := by omega
      subst hij'
      clear hlt hij
      have HA := hide (HMEM.out i (by omega) HLO.out HHI.out)
      by_cases hin : i < n
      · have hi' : i < l.length := by have := HN.out; omega
        obtain ⟨b, off, rfl, _, hb, hbr, hc⟩ := HR.out.open_ hbw (by have := HN.out; omega)
        have c0 : wr.cell? ⟨b, off + i, none⟩ = some (.string l[i]) := by simpa using hc i hi' 0 _ rfl
        clear hc
        have HA2 := hide (show ans = decide (l[i] = t) by rw [HA.out, show l.getD i default = l[i] by rw [List.getD_eq_getElem?_getD, List.getElem?_eq_getElem hi']; rfl, decide_eq_true hin, Bool.true_and])
        generalize l[i] = y at *
        by_cases hyt : y = t
        · have tq : (y.toList == t.toList) = true := by rw [eqS_iff]; exact decide_eq_true hyt
          have HA3 := hide (show ans = true by rw [HA2.out]; exact decide_eq_true hyt)
          clear hyt
          go_wp2_with (go_at_call 217; refine (w_isNaNS _ _).mono ?_; rintro e w' ⟨rfl, rfl⟩)
          go_ret2
          exact ⟨i, by rw [HA3.out]; rfl, hbw⟩
        · have tq : (y.toList == t.toList) = false := by rw [eqS_iff]; exact decide_eq_false hyt
          have HA3 := hide (show ans = false by rw [HA2.out]; exact decide_eq_false hyt)
          clear hyt
          go_wp2_with fail
          refine (w_isNaN2 _ _).mono ?_
          rintro e w' ⟨rfl, rfl⟩
          go_wp2_with fail
          go_ret2
          exact ⟨i, by rw [HA3.out]; rfl, hbw⟩
      · have HA2 := hide (show ans = false by rw [HA.out, decide_eq_false hin]; rfl)
        go_wp2
        go_ret2
        exact ⟨i, by rw [HA2.out]; rfl, hbw⟩
end Go.Proofs.YtmpnilliichpfaaGreatDoor
/- Plain: roads without some arcs; by which arcs one can come to a node. -/
namespace Go.Proofs.YtmpnilliichpfaaGreatDoor

/-- What is left when some arcs are gone. -/
def lessA (rs : List Arc) (g : ByteArray → Bool) : List Arc := rs.filter fun a => !g a.key
def lessB (bs : List Ban) (g : ByteArray → Bool) : List Ban := bs.filter fun b => !g b.from_ && !g b.to_
theorem chk_mk {α : Type} {F : Option α → α → Int} {Q : α → Prop} {lt : α → α → Prop} (h0 : ∀ x, Q x → F none x = 0) (h1 : ∀ q x, Q x → lt q x → F (some q) x = 0) : ∀ (l : List α) (p : Option α), (∀ x ∈ l, Q x) → l.Pairwise lt → (∀ q, p = some q → ∀ x ∈ l, lt q x) → chk F p l = 0
  | [], _, _, _, _ => rfl
  | x :: l, p, hQ, hP, hp => by
    have hx : F p x = 0 := by
      cases p with
      | none => exact h0 x (hQ x (by simp))
      | some q => exact h1 q x (hQ x (by simp)) (hp q rfl x (by simp))
    obtain ⟨p1, p2⟩ := List.pairwise_cons.1 hP
    unfold chk
    rw [if_pos hx]
    exact chk_mk h0 h1 l (some x) (fun y hy => hQ y (List.mem_cons_of_mem _ hy)) p2 (fun q e y hy => by
      injection e with e
      subst e
      exact p1 y hy)
theorem arc_uniq {rs : List Arc} (h : SortA rs) {x y : Arc} (hx : x ∈ rs) (hy : y ∈ rs) (e : x.key = y.key) : x = y := by
  obtain ⟨i, hi, rfl⟩ := List.mem_iff_getElem.1 hx
  obtain ⟨j, hj, rfl⟩ := List.mem_iff_getElem.1 hy
  have h' := List.pairwise_iff_getElem.1 h
  rcases Nat.lt_trichotomy i j with h1 | h1 | h1
  · exact absurd e (ltS_ne (h' i j hi hj h1))
  · subst h1; rfl
  · exact absurd e.symm (ltS_ne (h' j i hj hi h1))
theorem arcAt_mem {rs : List Arc} {s : ByteArray} (h : 0 ≤ arcI rs s) : arcAt rs s ∈ rs ∧ (arcAt rs s).key = s := by
  rcases findI_bd (fun n : Arc => decide (n.key = s)) rs with e | ⟨k, hk, e⟩
  · have e : arcI rs s = -1 := e
    omega
  · have e' : arcI rs s = (k : Int) := e
    have := findI_sat (fun n : Arc => decide (n.key = s)) rs e
    unfold arcAt
    rw [e']
    exact ⟨mem_getD hk, of_decide_eq_true this.2⟩
theorem arcI_of {rs : List Arc} {s : ByteArray} (h : ∃ a ∈ rs, a.key = s) : 0 ≤ arcI rs s := by
  rcases findI_bd (fun n : Arc => decide (n.key = s)) rs with e | ⟨k, hk, e⟩
  · have e : arcI rs s = -1 := e
    obtain ⟨a, ha, rfl⟩ := h
    have key : ∀ (l : List Arc) (j : Nat), a ∈ l → 0 ≤ idxP (fun n : Arc => decide (n.key = a.key)) l j := by
      intro l
      induction l with
      | nil => intro j h; exact absurd h (by simp)
      | cons n l ih =>
        intro j h
        unfold idxP
        split
        · omega
        · rename_i hn
          rcases List.mem_cons.1 h with rfl | h
          · exact absurd (decide_eq_true rfl) hn
          · exact ih (j + 1) h
    exact key rs 0 ha
  · have e' : arcI rs s = (k : Int) := e
    omega
section
variable {ns : List Node} {rs : List Arc} {bs : List Ban} {g : ByteArray → Bool}
theorem lessA_mem {x : Arc} : x ∈ lessA rs g ↔ x ∈ rs ∧ g x.key = false := by
  unfold lessA
  rw [List.mem_filter]
  simp
theorem lessB_mem {x : Ban} : x ∈ lessB bs g ↔ x ∈ bs ∧ g x.from_ = false ∧ g x.to_ = false := by
  unfold lessB
  rw [List.mem_filter]
  simp
theorem lessA_len : (lessA rs g).length ≤ rs.length := List.length_filter_le _ _
theorem lessB_len : (lessB bs g).length ≤ bs.length := List.length_filter_le _ _
theorem less_chkA (h : chk (arcF ns) none rs = 0) : chk (arcF ns) none (lessA rs g) = 0 := by
  have hQ := chk_all (F := arcF ns) (Q := fun a => keyB a.key = true ∧ arcG ns a = 0) (fun p x hx => arcF_ok hx) rs none h
  refine chk_mk (F := arcF ns) (Q := fun a => keyB a.key = true ∧ arcG ns a = 0) (lt := fun a b => ltS a.key b.key) (fun x hx => ?_) (fun q x hx hl => ?_) _ none (fun x hx => hQ x (lessA_mem.1 hx).1) ((sortA_of h).filter _) (fun q e => by cases e)
  · unfold arcF
    rw [hx.1, if_pos rfl]
    exact hx.2
  · unfold arcF
    rw [hx.1, if_pos rfl]
    show (if strLe x.key q.key = true then (7 : Int) else arcG ns x) = 0
    rw [lt_strLe hl, if_neg (by simp)]
    exact hx.2
theorem less_at (h : chk (arcF ns) none rs = 0) {s : ByteArray} (hs : 0 ≤ arcI rs s) (hg : g s = false) : 0 ≤ arcI (lessA rs g) s ∧ arcAt (lessA rs g) s = arcAt rs s := by
  obtain ⟨h1, h2⟩ := arcAt_mem hs
  have h3 : 0 ≤ arcI (lessA rs g) s := arcI_of ⟨_, lessA_mem.2 ⟨h1, by rw [h2]; exact hg⟩, h2⟩
  obtain ⟨h4, h5⟩ := arcAt_mem h3
  exact ⟨h3, arc_uniq (sortA_of h) (lessA_mem.1 h4).1 h1 (h5.trans h2.symm)⟩
theorem banF_zero {rs : List Arc} {p : Option Ban} {b : Ban} (h : banF rs p b = 0) : banG rs b = 0 := by
  unfold banF at h
  by_cases hg : banG rs b = 0
  · exact hg
  · rw [if_neg hg] at h; exact h
/-- Roads without some arcs are right. -/
theorem roads_less (h : roadsF ns rs bs = 0) : roadsF ns (lessA rs g) (lessB bs g) = 0 := by
  obtain ⟨h1, h2, h3⟩ := roads_ok h
  unfold roadsF
  rw [if_pos h1, if_pos (less_chkA h2)]
  have hQ := chk_all (F := banF rs) (Q := fun b => banG rs b = 0) (fun p x hx => banF_zero hx) bs none h3
  refine chk_mk (F := banF (lessA rs g)) (Q := fun b => banG (lessA rs g) b = 0) (lt := fun a b => banC a b < 0) (fun x hx => ?_) (fun q x hx hl => ?_) _ none (fun x hx => ?_) ((chkB_sorted rs bs none h3).1.filter _) (fun q e => by cases e)
  · unfold banF
    rw [if_pos hx]
  · unfold banF
    rw [if_pos hx]
    show (if banC x q ≤ 0 then (7 : Int) else 0) = 0
    rw [if_neg (fun hc => by have := (banC_anti x q).1 hc; omega)]
  · obtain ⟨m1, m2, m3⟩ := lessB_mem.1 hx
    have hb := hQ x m1
    unfold banG at hb ⊢
    by_cases c1 : arcI rs x.from_ < 0 ∨ arcI rs x.to_ < 0
    · rw [if_pos c1] at hb; exact absurd hb (by decide)
    · rw [if_neg c1] at hb
      obtain ⟨a1, a2⟩ := less_at (g := g) h2 (show 0 ≤ arcI rs x.from_ by omega) m2
      obtain ⟨b1, b2⟩ := less_at (g := g) h2 (show 0 ≤ arcI rs x.to_ by omega) m3
      rw [if_neg (by omega), a2, b2]
      exact hb
theorem less_ban {s t : ByteArray} (hs : g s = false) (ht : g t = false) : bannedB (lessB bs g) s t = bannedB bs s t := by
  unfold bannedB
  rw [Bool.eq_iff_iff, List.any_eq_true, List.any_eq_true]
  constructor
  · rintro ⟨b, hb, h⟩
    exact ⟨b, (lessB_mem.1 hb).1, h⟩
  · rintro ⟨b, hb, h⟩
    refine ⟨b, lessB_mem.2 ⟨hb, ?_⟩, h⟩
    rw [Bool.and_eq_true, decide_eq_true_eq, decide_eq_true_eq] at h
    rw [h.1, h.2]
    exact ⟨hs, ht⟩
end
/-- One can drive onto an arc, over some arcs. -/
inductive APth (ns : List Node) (P : Arc → Prop) (ban : Arc → Arc → Bool) (a : Nat) : Arc → Nat → Prop
  | one (x : Arc) : P x → nodeN ns x.from_ = a → APth ns P ban a x 1
  | cons (x y : Arc) (n : Nat) : APth ns P ban a x n → P y → nodeN ns y.from_ = nodeN ns x.to_ → ban x y = false → APth ns P ban a y (n + 1)
def banA (bs : List Ban) (x y : Arc) : Bool := bannedB bs x.key y.key
theorem APth.mem {ns : List Node} {P : Arc → Prop} {ban : Arc → Arc → Bool} {a : Nat} {x : Arc} {n : Nat} (h : APth ns P ban a x n) : P x := by cases h <;> assumption
theorem APth.conv {ns : List Node} {P P' : Arc → Prop} {ban ban' : Arc → Arc → Bool} {a : Nat} (hP : ∀ x, P x → P' x) (hb : ∀ x y, P x → P y → ban' x y = ban x y) {x : Arc} {n : Nat} (h : APth ns P ban a x n) : APth ns P' ban' a x n := by
  induction h with
  | one x hx hf => exact .one x (hP x hx) hf
  | cons x y n hx hy hf hban ih => exact .cons x y n ih (hP y hy) hf (by rw [hb x y hx.mem hy]; exact hban)
section
variable {ns : List Node} {rs : List Arc} {bs : List Ban} {a b : Nat}
theorem rch_pth {at_ : Int} {k : Nat} {t : Int} (h : Rch (gphOf ns rs bs) a at_ k t) : ∃ n, APth ns (· ∈ rs) (banA bs) a (arcX rs k) n := by
  induction h with
  | start k hk hf _ => exact ⟨1, .one _ (arcX_mem hk) hf⟩
  | step k i t _ hi hf hb _ ih =>
    obtain ⟨n, hn⟩ := ih
    exact ⟨n + 1, .cons _ _ n hn (arcX_mem hi) hf hb⟩
theorem pth_rch (hC : chk (arcF ns) none rs = 0) {x : Arc} {n : Nat} (h : APth ns (· ∈ rs) (banA bs) a x n) : n ≤ 1000 → ∃ k t, k < rs.length ∧ arcX rs k = x ∧ Rch (gphOf ns rs bs) a 0 k t ∧ 0 ≤ t ∧ t ≤ (n : Int) * 3600000 := by
  have hT := gph_time (ns := ns) (bs := bs) hC
  have hG := gph_ok (bs := bs) hC
  induction h with
  | one x hx hf =>
    intro _
    obtain ⟨k, hk, e⟩ := List.mem_iff_getElem.1 hx
    have e' : arcX rs k = x := (arcX_get hk).trans e
    have t1 := hT k 0 hk (Int.le_refl _)
    have t2 := hG.gt k 0 hk (Int.le_refl _)
    refine ⟨k, _, hk, e', .start k hk (by rw [← e'] at hf; exact hf) (by unfold endT; omega), by omega, by omega⟩
  | cons x y n hx hy hf hb ih =>
    intro hn
    obtain ⟨k, t, hk, e, hr, h0, ht⟩ := ih (by omega)
    obtain ⟨i, hi, ei⟩ := List.mem_iff_getElem.1 hy
    have e' : arcX rs i = y := (arcX_get hi).trans ei
    have t1 := hT i t hi h0
    have t2 := hG.gt i t hi h0
    refine ⟨i, _, hi, e', .step k i t hr hi ?_ ?_ (by unfold endT; omega), by omega, by omega⟩
    · show nodeN ns (arcX rs i).from_ = nodeN ns (arcX rs k).to_
      rw [e, e']; exact hf
    · show bannedB bs (arcX rs k).key (arcX rs i).key = false
      rw [e, e']; exact hb
theorem arr_to (hC : chk (arcF ns) none rs = 0) (ha : a < ns.length) (hb : b < ns.length) (h : arrG (gphOf ns rs bs) a b 0 < endT) : a = b ∨ ∃ x n, APth ns (· ∈ rs) (banA bs) a x n ∧ nodeN ns x.to_ = b := by
  rcases arrG_ok (gph_ok (bs := bs) hC) (Int.le_refl 0) ha hb with ⟨e, _⟩ | ⟨_, ⟨e, _⟩ | ⟨k, e, hr, _⟩⟩
  · exact .inl e
  · omega
  · obtain ⟨n, hn⟩ := rch_pth hr
    exact .inr ⟨_, n, hn, e⟩
theorem arr_of (hC : chk (arcF ns) none rs = 0) (ha : a < ns.length) (hb : b < ns.length) (h : a = b ∨ ∃ x n, APth ns (· ∈ rs) (banA bs) a x n ∧ n ≤ 1000 ∧ nodeN ns x.to_ = b) : arrG (gphOf ns rs bs) a b 0 < endT := by
  have hG := gph_ok (bs := bs) hC
  rcases h with rfl | ⟨x, n, hp, hn, e⟩
  · rw [arrG_self hG (Int.le_refl _) ha]
    unfold endT
    omega
  · obtain ⟨k, t, hk, ex, hr, _, _⟩ := pth_rch hC hp hn
    rcases arrG_ok hG (Int.le_refl 0) ha hb with ⟨_, e2⟩ | ⟨_, ⟨_, hno⟩ | ⟨k2, _, hr2, _⟩⟩
    · rw [e2]; unfold endT; omega
    · exact absurd (show (gphOf ns rs bs).to_ k = b by show nodeN ns (arcX rs k).to_ = b; rw [ex]; exact e) (hno k t hr)
    · exact (hr2.ge hG (Int.le_refl _)).2
end
end Go.Proofs.YtmpnilliichpfaaGreatDoor
/- Plain: some way between nodes, found arc by arc; arcs that each way has. -/
namespace Go.Proofs.YtmpnilliichpfaaGreatDoor

theorem nodupN_lt : ∀ (m : Nat) (l : List Nat), l.Nodup → (∀ x ∈ l, x < m) → l.length ≤ m
  | 0, l, _, h => by
    cases l with
    | nil => exact Nat.le_refl _
    | cons x l => exact absurd (h x (by simp)) (by omega)
  | m + 1, l, hn, h => by
    by_cases hm : m ∈ l
    · have h1 := nodupN_lt m (l.erase m) (hn.erase m) (fun x hx => by
        obtain ⟨h2, h3⟩ := (hn.mem_erase_iff).1 hx
        have := h x h3
        omega)
      rw [List.length_erase_of_mem hm] at h1
      omega
    · have h1 := nodupN_lt m l hn (fun x hx => by
        have := h x hx
        have : x ≠ m := fun e => hm (e ▸ hx)
        omega)
      omega
theorem getD_mem {l : List Nat} {i : Nat} (h : i < l.length) : l.getD i 0 ∈ l := by
  rw [List.getD_eq_getElem?_getD, List.getElem?_eq_getElem h]
  exact List.getElem_mem h
theorem mem_at {l : List Nat} {x : Nat} (h : x ∈ l) : ∃ i, i < l.length ∧ l.getD i 0 = x := by
  obtain ⟨i, hi, e⟩ := List.mem_iff_getElem.1 h
  exact ⟨i, hi, by rw [List.getD_eq_getElem?_getD, List.getElem?_eq_getElem hi]; exact e⟩
theorem getD_app {l : List Nat} {k i : Nat} (h : i < l.length) : (l ++ [k]).getD i 0 = l.getD i 0 := by
  rw [List.getD_eq_getElem?_getD, List.getElem?_append_left h, ← List.getD_eq_getElem?_getD]
theorem getD_new (l : List Nat) (k : Nat) : (l ++ [k]).getD l.length 0 = k := by
  rw [List.getD_eq_getElem?_getD, List.getElem?_append_right (Nat.le_refl _)]
  simp
/-- Behind which arc an arc may stand. -/
def Bef (g : Gph) (a : Nat) (v : List Nat) (k : Nat) (p : Int) : Prop := (p = -1 ∧ g.from_ k = a) ∨ ∃ j, j < v.length ∧ p = ((v.getD j 0 : Nat) : Int) ∧ g.from_ k = g.to_ (v.getD j 0) ∧ g.ban (v.getD j 0) k = false
/-- Arcs that are found, in order. -/
structure Bfs (g : Gph) (a : Nat) (w : Int) (v : List Nat) (f : Nat → Option Int) : Prop where
  nodup : v.Nodup
  lt : ∀ k ∈ v, k < g.m ∧ (k : Int) ≠ w
  dom : ∀ k, k ∈ v ↔ f k ≠ none
  back : ∀ i, i < v.length → ∃ p, f (v.getD i 0) = some p ∧ Bef g a (v.take i) (v.getD i 0) p
section
variable {g : Gph} {a : Nat} {w : Int} {v : List Nat} {f : Nat → Option Int}
theorem Bfs.nil : Bfs g a w [] (fun _ => none) := ⟨List.nodup_nil, fun k h => absurd h (by simp), fun k => by simp, fun i h => absurd h (by simp)⟩
theorem Bfs.len (h : Bfs g a w v f) : v.length ≤ g.m := nodupN_lt _ _ h.nodup (fun x hx => (h.lt x hx).1)
theorem Bfs.add (h : Bfs g a w v f) {k : Nat} {p : Int} (hk : k < g.m) (hw : (k : Int) ≠ w) (hn : f k = none) (hb : Bef g a v k p) : Bfs g a w (v ++ [k]) (fun x => if x = k then some p else f x) := by
  have hnot : k ∉ v := fun e => (h.dom k).1 e hn
  refine ⟨?_, fun x hx => ?_, fun x => ?_, fun i hi => ?_⟩
  · rw [List.nodup_append]
    exact ⟨h.nodup, by simp, fun x hx y hy e => by
      rw [List.mem_singleton] at hy
      exact hnot (hy ▸ e ▸ hx)⟩
  · rcases List.mem_append.1 hx with hx | hx
    · exact h.lt x hx
    · rw [List.mem_singleton.1 hx]; exact ⟨hk, hw⟩
  · rw [List.mem_append, List.mem_singleton]
    by_cases e : x = k
    · simp [e]
    · rw [if_neg e, ← h.dom x]
      simp [e]
  · rw [List.length_append, List.length_singleton] at hi
    rcases Nat.lt_or_ge i v.length with h1 | h1
    · obtain ⟨p', e1, e2⟩ := h.back i h1
      rw [getD_app h1]
      have hne : v.getD i 0 ≠ k := fun e => hnot (e ▸ getD_mem h1)
      refine ⟨p', by rw [if_neg hne]; exact e1, ?_⟩
      rw [List.take_append_of_le_length (by omega)]
      exact e2
    · obtain rfl : i = v.length := by omega
      rw [getD_new]
      refine ⟨p, by rw [if_pos rfl], ?_⟩
      rw [List.take_append_of_le_length (Nat.le_refl _), List.take_length]
      exact hb
/-- The arcs behind each other, back to the start. -/
inductive PChain (f : Nat → Option Int) : Int → List Nat → Prop
  | nil : PChain f (-1) []
  | cons (k : Nat) (p : Int) (l : List Nat) : f k = some p → PChain f p l → PChain f (k : Int) (k :: l)
end
section
variable {ns : List Node} {rs : List Arc} {bs : List Ban} {a b : Nat} {w : Int} {v : List Nat} {f : Nat → Option Int}
/-- A way: its arcs, the last one first. -/
structure WayIs (ns : List Node) (rs : List Arc) (bs : List Ban) (a b : Nat) (w : Int) (l : List Nat) : Prop where
  lt : ∀ k ∈ l, k < rs.length ∧ (k : Int) ≠ w
  len : l.length ≤ rs.length
  path : ∃ x, APth ns (fun x => ∃ k, k ∈ l ∧ arcX rs k = x) (banA bs) a x l.length ∧ nodeN ns x.to_ = b
theorem Bfs.chain (h : Bfs (gphOf ns rs bs) a w v f) : ∀ i, i < v.length → ∃ l, PChain f ((v.getD i 0 : Nat) : Int) l ∧ l.length ≤ i + 1 ∧ (∀ k ∈ l, k ∈ v) ∧ APth ns (fun x => ∃ k, k ∈ l ∧ arcX rs k = x) (banA bs) a (arcX rs (v.getD i 0)) l.length := by
  intro i
  induction i using Nat.strongRecOn with
  | ind i ih =>
    intro hi
    obtain ⟨p, e, hb⟩ := h.back i hi
    rcases hb with ⟨rfl, hf⟩ | ⟨j, hj, rfl, hf, hban⟩
    · refine ⟨[v.getD i 0], .cons _ _ _ e .nil, by simp, fun k hk => by rw [List.mem_singleton.1 hk]; exact getD_mem hi, ?_⟩
      exact .one _ ⟨_, by simp, rfl⟩ hf
    · rw [List.length_take] at hj
      have hji : j < i := by omega
      have ej : (v.take i).getD j 0 = v.getD j 0 := by
        rw [List.getD_eq_getElem?_getD, List.getElem?_take_of_lt hji, ← List.getD_eq_getElem?_getD]
      rw [ej] at e hf hban
      obtain ⟨l, c1, c2, c3, c4⟩ := ih j hji (by omega)
      refine ⟨v.getD i 0 :: l, .cons _ _ _ e c1, by rw [List.length_cons]; omega, fun k hk => ?_, ?_⟩
      · rcases List.mem_cons.1 hk with rfl | hk
        · exact getD_mem hi
        · exact c3 k hk
      · exact .cons _ _ _ (c4.conv (fun x hx => by
          obtain ⟨k, hk, e⟩ := hx
          exact ⟨k, List.mem_cons_of_mem _ hk, e⟩) (fun _ _ _ _ => rfl)) ⟨_, by simp, rfl⟩ hf hban
theorem Bfs.way (h : Bfs (gphOf ns rs bs) a w v f) {i : Nat} (hi : i < v.length) (hb : nodeN ns (arcX rs (v.getD i 0)).to_ = b) : ∃ l, PChain f ((v.getD i 0 : Nat) : Int) l ∧ WayIs ns rs bs a b w l := by
  obtain ⟨l, c1, c2, c3, c4⟩ := h.chain i hi
  have := h.len
  have hm : (gphOf ns rs bs).m = rs.length := rfl
  exact ⟨l, c1, fun k hk => h.lt k (c3 k hk), by omega, _, c4, hb⟩
/-- Nothing is left to be found. -/
structure Closed (g : Gph) (a : Nat) (w : Int) (v : List Nat) : Prop where
  start : ∀ k, k < g.m → g.from_ k = a → (k : Int) ≠ w → k ∈ v
  step : ∀ i ∈ v, ∀ k, k < g.m → g.from_ k = g.to_ i → g.ban i k = false → (k : Int) ≠ w → k ∈ v
/-- There is a way, without an arc (-1: with all). -/
def connP (ns : List Node) (rs : List Arc) (bs : List Ban) (a b : Nat) (w : Int) : Prop := ∃ x n, APth ns (fun x => ∃ k, k < rs.length ∧ (k : Int) ≠ w ∧ arcX rs k = x) (banA bs) a x n ∧ nodeN ns x.to_ = b
theorem Closed.all (h : Closed (gphOf ns rs bs) a w v) {x : Arc} {n : Nat} (hp : APth ns (fun x => ∃ k, k < rs.length ∧ (k : Int) ≠ w ∧ arcX rs k = x) (banA bs) a x n) : ∃ k, k ∈ v ∧ arcX rs k = x := by
  induction hp with
  | one x hx hf =>
    obtain ⟨k, hk, hw, rfl⟩ := hx
    exact ⟨k, h.start k hk hf hw, rfl⟩
  | cons x y n _ hy hf hban ih =>
    obtain ⟨i, hi, rfl⟩ := ih
    obtain ⟨k, hk, hw, rfl⟩ := hy
    exact ⟨k, h.step i hi k hk hf hban hw, rfl⟩
theorem Closed.none (h : Closed (gphOf ns rs bs) a w v) (hb : ∀ k ∈ v, nodeN ns (arcX rs k).to_ ≠ b) : ¬ connP ns rs bs a b w := by
  rintro ⟨x, n, hp, e⟩
  obtain ⟨k, hk, rfl⟩ := h.all hp
  exact hb k hk e
theorem WayIs.conn {l : List Nat} (h : WayIs ns rs bs a b w l) : connP ns rs bs a b w := by
  obtain ⟨x, hp, e⟩ := h.path
  refine ⟨x, _, hp.conv (fun y hy => ?_) (fun _ _ _ _ => rfl), e⟩
  obtain ⟨k, hk, ek⟩ := hy
  exact ⟨k, (h.lt k hk).1, (h.lt k hk).2, ek⟩
/-- An arc that is not on a way is not needed. -/
theorem WayIs.other {l : List Nat} (h : WayIs ns rs bs a b w l) {k : Nat} (hk : k ∉ l) : connP ns rs bs a b k := by
  obtain ⟨x, hp, e⟩ := h.path
  refine ⟨x, _, hp.conv (fun y hy => ?_) (fun _ _ _ _ => rfl), e⟩
  obtain ⟨j, hj, ej⟩ := hy
  refine ⟨j, (h.lt j hj).1, fun e => hk ?_, ej⟩
  have : j = k := by omega
  exact this ▸ hj
theorem bfs_ex (g : Gph) (a : Nat) (w : Int) : ∀ (d : Nat) (v : List Nat) (f : Nat → Option Int), g.m - v.length = d → Bfs g a w v f → ∃ v' f', Bfs g a w v' f' ∧ Closed g a w v' := by
  intro d
  induction d using Nat.strongRecOn with
  | ind d ih =>
    intro v f hd h
    by_cases hc : Closed g a w v
    · exact ⟨v, f, h, hc⟩
    · have hex : ∃ k p, k < g.m ∧ (k : Int) ≠ w ∧ k ∉ v ∧ Bef g a v k p := by
        refine Classical.byContradiction fun hno => hc ⟨fun k hk hf hw => ?_, fun i hi k hk hf hb hw => ?_⟩
        · exact Classical.byContradiction fun hv => hno ⟨k, -1, hk, hw, hv, .inl ⟨rfl, hf⟩⟩
        · refine Classical.byContradiction fun hv => ?_
          obtain ⟨j, hj, e⟩ := mem_at hi
          exact hno ⟨k, _, hk, hw, hv, .inr ⟨j, hj, rfl, by rw [e]; exact hf, by rw [e]; exact hb⟩⟩
      obtain ⟨k, p, hk, hw, hv, hb⟩ := hex
      have hn : f k = none := by
        cases hf : f k with
        | none => rfl
        | some z => exact absurd ((h.dom k).2 (by rw [hf]; simp)) hv
      have h2 := h.add hk hw hn hb
      have hl := h2.len
      rw [List.length_append, List.length_singleton] at hl
      exact ih (g.m - (v ++ [k]).length) (by rw [List.length_append, List.length_singleton]; omega) _ _ rfl h2
theorem conn_way (h : connP ns rs bs a b w) : ∃ l, WayIs ns rs bs a b w l := by
  obtain ⟨v, f, hB, hC⟩ := bfs_ex (gphOf ns rs bs) a w _ [] _ rfl Bfs.nil
  obtain ⟨x, n, hp, e⟩ := h
  obtain ⟨k, hk, rfl⟩ := hC.all hp
  obtain ⟨i, hi, rfl⟩ := mem_at hk
  obtain ⟨l, _, hW⟩ := hB.way hi e
  exact ⟨l, hW⟩
theorem arc_ix {x : Arc} : x ∈ rs ↔ ∃ k, k < rs.length ∧ arcX rs k = x := by
  constructor
  · intro h
    obtain ⟨k, hk, e⟩ := List.mem_iff_getElem.1 h
    exact ⟨k, hk, (arcX_get hk).trans e⟩
  · rintro ⟨k, hk, rfl⟩
    exact arcX_mem hk
/-- There is a way iff one comes there. -/
theorem all_conn (hC : chk (arcF ns) none rs = 0) (hal : rs.length ≤ 400) (ha : a < ns.length) (hb : b < ns.length) : arrG (gphOf ns rs bs) a b 0 < endT ↔ a = b ∨ connP ns rs bs a b (-1) := by
  constructor
  · intro h
    rcases arr_to hC ha hb h with e | ⟨x, n, hp, e⟩
    · exact .inl e
    · refine .inr ⟨x, n, hp.conv (fun y hy => ?_) (fun _ _ _ _ => rfl), e⟩
      obtain ⟨k, hk, ek⟩ := arc_ix.1 hy
      exact ⟨k, hk, by omega, ek⟩
  · rintro (e | h)
    · exact arr_of hC ha hb (.inl e)
    · obtain ⟨l, hW⟩ := conn_way h
      obtain ⟨x, hp, e⟩ := hW.path
      have := hW.len
      refine arr_of hC ha hb (.inr ⟨x, _, hp.conv (fun y hy => ?_) (fun _ _ _ _ => rfl), by omega, e⟩)
      obtain ⟨k, hk, ek⟩ := hy
      exact arc_ix.2 ⟨k, (hW.lt k hk).1, ek⟩
/-- Without an arc there is a way iff one comes there on the roads without it. -/
theorem less_conn (hC : chk (arcF ns) none rs = 0) (hal : rs.length ≤ 400) (ha : a < ns.length) (hb : b < ns.length) {k : Nat} (hk : k < rs.length) {g : ByteArray → Bool} (hg : ∀ s, g s = decide (s = (arcX rs k).key)) : arrG (gphOf ns (lessA rs g) (lessB bs g)) a b 0 < endT ↔ a = b ∨ connP ns rs bs a b k := by
  have hC' : chk (arcF ns) none (lessA rs g) = 0 := less_chkA hC
  have hmem : ∀ y, y ∈ lessA rs g ↔ ∃ j, j < rs.length ∧ (j : Int) ≠ (k : Int) ∧ arcX rs j = y := by
    intro y
    rw [lessA_mem]
    constructor
    · rintro ⟨h1, h2⟩
      obtain ⟨j, hj, rfl⟩ := arc_ix.1 h1
      refine ⟨j, hj, fun e => ?_, rfl⟩
      have : j = k := by omega
      subst this
      rw [hg] at h2
      simp at h2
    · rintro ⟨j, hj, hne, rfl⟩
      refine ⟨arcX_mem hj, ?_⟩
      rw [hg, decide_eq_false_iff_not]
      intro e
      have h1 := arc_at (sortA_of hC) hj
      have h2 := arc_at (sortA_of hC) hk
      rw [show (rs.getD j default).key = (rs.getD k default).key from e, h2] at h1
      exact hne h1.symm
  have hban : ∀ x y, x ∈ lessA rs g → y ∈ lessA rs g → banA (lessB bs g) x y = banA bs x y := fun x y hx hy => less_ban (lessA_mem.1 hx).2 (lessA_mem.1 hy).2
  constructor
  · intro h
    rcases arr_to hC' ha hb h with e | ⟨x, n, hp, e⟩
    · exact .inl e
    · exact .inr ⟨x, n, hp.conv (fun y hy => (hmem y).1 hy) (fun y z hy hz => (hban y z hy hz).symm), e⟩
  · rintro (e | h)
    · exact arr_of hC' ha hb (.inl e)
    · obtain ⟨l, hW⟩ := conn_way h
      obtain ⟨x, hp, e⟩ := hW.path
      have := hW.len
      have hml : ∀ y, (∃ j, j ∈ l ∧ arcX rs j = y) → y ∈ lessA rs g := fun y hy => by
        obtain ⟨j, hj, ej⟩ := hy
        exact (hmem y).2 ⟨j, (hW.lt j hj).1, (hW.lt j hj).2, ej⟩
      exact arr_of hC' ha hb (.inr ⟨x, _, hp.conv hml (fun y z hy hz => hban y z (hml y hy) (hml z hz)), by omega, e⟩)
end
end Go.Proofs.YtmpnilliichpfaaGreatDoor
/- Queues of numbers: a row of one's own whose head is taken off, and that grows at its end. Of no program. -/
namespace Go.Proofs.YtmpnilliichpfaaGreatDoor
open Go.RowKit

/-- What is left of a row of one's own behind what was taken off its head. -/
def QIs (w : World) (base : Nat) (e : TypeId) (A : Option Addr) (c : Nat) (l : List Int) : Prop :=
  (A = none ∧ l = [] ∧ c = 0) ∨ ∃ g off cs, A = some ⟨g, off, none⟩ ∧ base ≤ g ∧ l.length ≤ c ∧ w.heap[g]? = some (.cells cs e (0, 0)) ∧ off + c ≤ cs.size ∧ ∀ i x, l[i]? = some x → cs[off + i]? = some (.int .i64 x)
/-- The block in which it lies. -/
def blkOf (A : Option Addr) : Option Nat := A.map (·.block)
section
variable {w w' : World} {base : Nat} {e : TypeId} {A : Option Addr} {c : Nat} {l : List Int}
theorem QIs.nil : QIs w base e none 0 [] := .inl ⟨rfl, rfl, rfl⟩
theorem QIs.ge (h : QIs w base e A c l) : ∀ k, blkOf A = some k → base ≤ k := by
  intro k hk
  rcases h with ⟨rfl, _, _⟩ | ⟨g, off, cs, rfl, hb, _⟩
  · cases hk
  · injection hk with hk
    exact hk ▸ hb
theorem QIs.lt (h : QIs w base e A c l) : ∀ k, blkOf A = some k → k < w.heap.size := by
  intro k hk
  rcases h with ⟨rfl, _, _⟩ | ⟨g, off, cs, rfl, _, _, hh, _⟩
  · cases hk
  · injection hk with hk
    exact hk ▸ (Array.getElem?_eq_some_iff.1 hh).1
theorem QIs.kept {row : Option Nat} (h : QIs w base e A c l) (hg : w.grownBy w' row) (hne : ∀ k, blkOf A = some k → row ≠ some k) : QIs w' base e A c l := by
  rcases h with h | ⟨g, off, cs, rfl, h1, h2, h3, h4, h5⟩
  · exact .inl h
  · exact .inr ⟨g, off, cs, rfl, h1, h2, (hg.block g (Array.getElem?_eq_some_iff.1 h3).1 (fun e => hne g rfl e.symm)).trans h3, h4, h5⟩
theorem QIs.nx (h : QIs w base e A c l) (hn : Nx w w') : QIs w' base e A c l := h.kept (hn.gr none) (fun _ _ => by simp)
theorem QIs.gr {s : Nat} (h : QIs w base e A c l) (hn : Gr s w w') (hs : s < base) : QIs w' base e A c l := h.kept (row := some s) hn (fun k hk e => by
  injection e with e
  have := h.ge k hk
  omega)
theorem QIs.head {x : Int} (h : QIs w base e A c (x :: l)) : ∃ g off, A = some ⟨g, off, none⟩ ∧ w.cell? ⟨g, off, none⟩ = some (.int .i64 x) ∧ g < w.heap.size ∧ l.length + 1 ≤ c := by
  rcases h with ⟨_, h, _⟩ | ⟨g, off, cs, rfl, h1, h2, h3, h4, h5⟩
  · cases h
  · exact ⟨g, off, rfl, (cell_of_row w g off _ _ _ h3).trans (h5 0 x rfl), (Array.getElem?_eq_some_iff.1 h3).1, h2⟩
theorem QIs.tail {x : Int} {g off : Nat} (h : QIs w base e (some ⟨g, off, none⟩) c (x :: l)) : QIs w base e (some ⟨g, off + 1, none⟩) (c - 1) l ∧ (c - 1 = 0 → QIs w base e (some ⟨g, off, none⟩) 0 l) := by
  rcases h with ⟨h, _, _⟩ | ⟨g', off', cs, h0, h1, h2, h3, h4, h5⟩
  · cases h
  · injection h0 with h0
    injection h0 with e1 e2
    subst e1 e2
    rw [List.length_cons] at h2
    refine ⟨.inr ⟨g, off + 1, cs, rfl, h1, by omega, h3, by omega, fun i y hy => ?_⟩, fun hc => .inr ⟨g, off, cs, rfl, h1, by omega, h3, by omega, fun i y hy => ?_⟩⟩
    · have := h5 (i + 1) y (by simpa using hy)
      rw [show off + 1 + i = off + (i + 1) by omega]
      exact this
    · have : i < l.length := (List.getElem?_eq_some_iff.1 hy).1
      omega
theorem QIs.of_own {v : Value} {n : Nat} (h : w.ownsRow base e 1 v n (l.map (Value.int .i64))) : ∃ A c, v = .slice A l.length c ∧ QIs w base e A c l := by
  have hl : l.length = n := by have := h.1; rw [List.length_map] at this; omega
  rcases h.2 with ⟨rfl, h0⟩ | ⟨g, cap, cur, rfl, h1, h2, h3, h4, h5, h6⟩
  · have : l = [] := List.eq_nil_of_length_eq_zero (by omega)
    subst this
    exact ⟨none, 0, rfl, QIs.nil⟩
  · refine ⟨some ⟨g, 0, none⟩, cap, by rw [hl], .inr ⟨g, 0, cur, rfl, h1, by omega, h2, by omega, fun i x hx => ?_⟩⟩
    have hi : i < n := by have := (List.getElem?_eq_some_iff.1 hx).1; omega
    have e1 : (cur.toList.take (n * 1))[i]? = some (.int .i64 x) := by rw [h6, List.getElem?_map, hx]; rfl
    rw [List.getElem?_take_of_lt (by omega)] at e1
    rw [Nat.zero_add, ← Array.getElem?_toList]
    exact e1
end
/-- One more at the end: in its own spare cells, or in a new row. -/
theorem wpQApp {P : Program} {w : World} {ops : Array Oper} {rest : List Oper} {o : Oper} {a : Act} {Q : Exit → Act → World → Prop} (hgd : o.guard = none) (s x : Operand) (t : TypeId)
    (ho : o.op = .call { callee := .builtin .append, args := #[s, x], argTypes := #[t, t] })
    {e : TypeId} {bytes : Nat} (E : ElemOf P t e 1 bytes) (hB : bytes ≤ 1000) (base : Nat) (A : Option Addr) (c : Nat) (l : List Int) (hs : a.eval s = .slice A l.length c) (hq : QIs w base e A c l) (G : Nat) (y : Int) (hx : a.eval x = .slice (some ⟨G, 0, none⟩) 1 1)
    (hblk : w.heap[G]? = some (.cells #[.int .i64 y] e (0, 0))) (hlen : l.length ≤ 10000000) (hbase : base ≤ w.heap.size)
    (h : ∀ A' c' w', QIs w' base e A' c' (l ++ [y]) → w.grownBy w' (blkOf A) → (blkOf A' = blkOf A ∨ ∀ k, blkOf A' = some k → w.heap.size ≤ k) → wpList P ops Q rest (a.put o.dst (.slice A' (l.length + 1) c')) w') : wpList P ops Q (o :: rest) a w := by
  obtain ⟨i, z, h1, h2, h3, h4, h5⟩ := E.hi
  have hby : (l.length + 1) * bytes ≤ 140737488355328 := by
    have : (l.length + 1) * bytes ≤ 10000001 * 1000 := Nat.mul_le_mul (by omega) hB
    omega
  have hnews : ∀ j u, [Value.int .i64 y][j]? = some u → w.cell? ((⟨G, 0, none⟩ : Addr).add j) = some u := news_of hblk rfl
  have hone : ∀ u ∈ [Value.int .i64 y], u.oneCell' = true := by intro u hu; rw [List.mem_singleton.1 hu]; rfl
  have hgrow : ∀ v' w', w'.ownsRow w.heap.size e 1 v' (l.length + 1) (l.map (Value.int .i64) ++ [.int .i64 y]) → w.grownBy w' none → wpList P ops Q rest (a.put o.dst v') w' := by
    intro v' w' hown hg
    rw [show l.map (Value.int .i64) ++ [Value.int .i64 y] = (l ++ [y]).map (Value.int .i64) by rw [List.map_append]; rfl] at hown
    obtain ⟨A', c', rfl, hq'⟩ := QIs.of_own hown
    have hq2 : QIs w' base e A' c' (l ++ [y]) := by
      rcases hq' with h | ⟨g, off, cs, rfl, k1, k2, k3, k4, k5⟩
      · exact .inl h
      · exact .inr ⟨g, off, cs, rfl, by omega, k2, k3, k4, k5⟩
    have := h A' c' w' hq2 ⟨hg.os, hg.tape, hg.output, hg.size, fun k hk _ => hg.block k hk (by simp)⟩ (.inr hq'.ge)
    rw [show (l ++ [y]).length = l.length + 1 by simp]
    exact this
  rcases hq with ⟨rfl, rfl, rfl⟩ | ⟨g, off, cs, rfl, k1, k2, k3, k4, k5⟩
  · refine wpList_append_grows w hgd s x t ho e i z 1 bytes E.ht h1 h2 h3 h4 h5 (by omega) none 0 0 [] hs (fun _ => ⟨rfl, rfl⟩) rfl (fun b hb => by cases hb) ⟨G, 0, none⟩ 1 1 [.int .i64 y] hx rfl hnews hone (by omega) (by unfold maxLen; omega) hby ?_
    exact hgrow
  · refine wpList_append_arg w hgd s x t ho e i z 1 bytes E.ht h1 h2 h3 h4 h5 (by omega) g off l.length c (l.map (Value.int .i64)) hs (by rw [List.length_map, Nat.mul_one]) (fun j u hj => ?_) ⟨G, 0, none⟩ 1 1 [.int .i64 y] hx rfl hnews hone (fun hr j hj => ?_) (by unfold maxLen; omega) hby (fun hr => ?_) (fun _ => hgrow)
    · rw [List.getElem?_map] at hj
      obtain ⟨q, hq, rfl⟩ := Option.map_eq_some_iff.1 hj
      exact (cell_of_row w g _ _ _ _ k3).trans (k5 j q hq)
    · have hj0 : j = 0 := by simpa using hj
      subst hj0
      refine ⟨?_, by simp [World.frozen?, k3]⟩
      have : w.cell? ⟨g, off + l.length * 1 + 0, none⟩ = cs[off + l.length * 1 + 0]? := cell_of_row w g _ _ _ _ k3
      rw [this, Array.getElem?_eq_getElem (by omega)]
      rfl
    · have hset : w.setCells g (off + l.length * 1) [.int .i64 y] = w.setCell ⟨g, off + l.length * 1, none⟩ (.int .i64 y) := rfl
      rw [hset]
      refine h (some ⟨g, off, none⟩) c _ (.inr ⟨g, off, _, rfl, k1, by rw [List.length_append]; simpa using hr, heap_set k3, by rw [Array.size_setIfInBounds]; exact k4, fun i q hq => ?_⟩) (Gr.setS (Gr.refl g w) (p := ⟨g, off + l.length * 1, none⟩) (Or.inl rfl) _) (.inl rfl)
      rw [Nat.mul_one, Array.getElem?_setIfInBounds]
      rcases Nat.lt_or_ge i l.length with hi | hi
      · rw [if_neg (by omega)]
        rw [List.getElem?_append_left hi] at hq
        exact k5 i q hq
      · have hi2 : i < (l ++ [y]).length := (List.getElem?_eq_some_iff.1 hq).1
        rw [List.length_append, List.length_singleton] at hi2
        obtain rfl : i = l.length := by omega
        rw [List.getElem?_append_right (Nat.le_refl _)] at hq
        have hq' : y = q := by simpa using hq
        rw [if_pos rfl, if_pos (by omega), hq']
end Go.Proofs.YtmpnilliichpfaaGreatDoor
/- Arcs are put into a queue, if they are new (plainWay's closure). -/
namespace Go.Proofs.YtmpnilliichpfaaGreatDoor
open Go.RowKit Go.Maps

theorem law_intN : Keyed Tryz.prog 3 := int_keyed Tryz.underlying3
def ekN (k : Nat) : Value := .int .i64 (k : Int)
def domK (k : Nat) : Prop := (Lit.int .i64 (k : Int)).wf = true
theorem ekN_inj (a b : Nat) (h : ekN a = ekN b) : a = b := by unfold ekN at h; injection h with _ h; omega
theorem domK_of {k : Nat} (h : k ≤ 1000000) : domK k := wf_i64o.2 ⟨by omega, by omega⟩
theorem key_N {k : Nat} (h : domK k) : keyOf Tryz.prog 3 (ekN k) = some (.int .i64 (k : Int)) := keyOf_int_mk Tryz.underlying3 h
abbrev MpQI (w : World) (b n : Nat) (f : Nat → Option Int) : Prop := MgI Tryz.prog 3 ekN domK (plainElem Tryz.prog 3) (fun z : Int => (.lit (.int .i64 z) : DataW Unit)) w b n f
/-- What came of it: which arcs have one before them, and the queue. -/
def stepQ (wo p : Int) : List Nat → (Nat → Option Int) × List Nat → (Nat → Option Int) × List Nat
  | [], s => s
  | k :: l, s => stepQ wo p l (if s.1 k = none ∧ (k : Int) ≠ wo then (fun x => if x = k then some p else s.1 x, s.2 ++ [k]) else s)
theorem stepQ_drop (wo p : Int) (l : List Nat) (j : Nat) (hj : j < l.length) (s : (Nat → Option Int) × List Nat) : stepQ wo p (l.drop j) s = stepQ wo p (l.drop (j + 1)) (if s.1 l[j] = none ∧ (l[j] : Int) ≠ wo then (fun x => if x = l[j] then some p else s.1 x, s.2 ++ [l[j]]) else s) := by
  rw [List.drop_eq_getElem_cons hj, stepQ]
/-- Two blocks, and a third one if any, may turn. -/
def KQ (s t : Nat) (q : Option Nat) (a w : World) : Prop := w.os = a.os ∧ w.tape = a.tape ∧ w.output = a.output ∧ a.heap.size ≤ w.heap.size ∧ ∀ i, i < a.heap.size → i ≠ s → i ≠ t → some i ≠ q → w.heap[i]? = a.heap[i]?
section
variable {s t : Nat} {q : Option Nat} {a w w' : World}
theorem KQ.refl (s t : Nat) (q : Option Nat) (a : World) : KQ s t q a a := ⟨rfl, rfl, rfl, Nat.le_refl _, fun _ _ _ _ _ => rfl⟩
theorem KQ.grown {row : Option Nat} (h : KQ s t q a w) (hg : w.grownBy w' row) (hr : ∀ k, row = some k → k = s ∨ k = t ∨ some k = q ∨ a.heap.size ≤ k) : KQ s t q a w' :=
  ⟨hg.os.trans h.1, hg.tape.trans h.2.1, hg.output.trans h.2.2.1, Nat.le_trans h.2.2.2.1 hg.size, fun i hi h1 h2 h3 => (hg.block i (Nat.lt_of_lt_of_le hi h.2.2.2.1) (fun e => by
    rcases hr i e.symm with h4 | h4 | h4 | h4
    · exact h1 h4
    · exact h2 h4
    · exact h3 h4
    · omega)).trans (h.2.2.2.2 i hi h1 h2 h3)⟩
theorem KQ.nx (h : KQ s t q a w) (hn : Nx w w') : KQ s t q a w' := h.grown (hn.gr none) (fun k e => by cases e)
theorem KQ.sz (h : KQ s t q a w) : a.heap.size ≤ w.heap.size := h.2.2.2.1
theorem KQ.blk (h : KQ s t q a w) {i : Nat} {o : Obj} (hi : a.heap[i]? = some o) (h1 : i ≠ s) (h2 : i ≠ t) (h3 : q ≠ some i) : w.heap[i]? = some o := (h.2.2.2.2 i (Array.getElem?_eq_some_iff.1 hi).1 h1 h2 (fun e => h3 e.symm)).trans hi
theorem KQ.cell (h : KQ s t q a w) {x : Addr} {v : Value} (hc : a.cell? x = some v) (hl : x.block < a.heap.size) (h1 : x.block ≠ s) (h2 : x.block ≠ t) (h3 : q ≠ some x.block) : w.cell? x = some v := by
  have hb := h.2.2.2.2 x.block hl h1 h2 (fun e => h3 e.symm)
  unfold World.cell? at hc ⊢
  rw [hb]
  exact hc
theorem KQ.nx_of {o : World} (h : KQ s t q a w) (hn : Nx o a) (hs : o.heap.size ≤ s) (ht : o.heap.size ≤ t) (hq : ∀ k, q = some k → o.heap.size ≤ k) : Nx o w :=
  ⟨h.1.trans hn.os, h.2.1.trans hn.tape, h.2.2.1.trans hn.output, Nat.le_trans hn.sz h.sz, fun i hi => (h.2.2.2.2 i (Nat.lt_of_lt_of_le hi hn.sz) (by omega) (by omega) (fun e => by have := hq i e.symm; omega)).trans (hn.block i hi)⟩
end
theorem mapI_one (l : List Nat) (k : Nat) : intsOf (l ++ [k]) = intsOf l ++ [(k : Int)] := by unfold intsOf; rw [List.map_append]; rfl
theorem intsOf_len (l : List Nat) : (intsOf l).length = l.length := by unfold intsOf; rw [List.length_map]
/-- What the closure leaves behind. -/
def StepOut (base pl bm N : Nat) (A : Option Addr) (S : (Nat → Option Int) × List Nat) (w : World) (e : Ending) (w' : World) : Prop := e = .returned (.tuple #[]) ∧ ∃ (A' : Option Addr) (c' : Nat), w'.heap[pl]? = some (.cells #[.slice A' S.2.length c'] 22 (0, 0)) ∧ MpQI w' bm N S.1 ∧ QIs w' base 3 A' c' (intsOf S.2) ∧ (blkOf A' = blkOf A ∨ ∀ k, blkOf A' = some k → w.heap.size ≤ k) ∧ KQ pl bm (blkOf A) w w'
set_option maxRecDepth 100000 in
set_option maxHeartbeats 8000000 in
theorem w_pstep (base pm pw pl bm N lo : Nat) (wo p : Int) (f : Nat → Option Int) (q : List Nat) (A : Option Addr) (c : Nat) (Z : Option Addr) (cz : Nat) (l : List Nat) (w : World)
    (cm : w.cell? ⟨pm, 0, none⟩ = some (.map (some bm))) (cw : w.cell? ⟨pw, 0, none⟩ = some (.int .i64 wo)) (hpl : w.heap[pl]? = some (.cells #[.slice A q.length c] 22 (0, 0))) (hM : MpQI w bm N f) (hq : QIs w base 3 A c (intsOf q)) (hR : Rd w lo Z 1 encI (intsOf l))
    (hN : N + l.length ≤ 1000000) (hql : q.length + l.length ≤ 100000) (hl : ∀ k ∈ l, k ≤ 100000) (hp : -1 ≤ p ∧ p ≤ 100000) (hbase : base ≤ w.heap.size)
    (hd1 : pm ≠ pl ∧ pm ≠ bm ∧ blkOf A ≠ some pm ∧ pm < w.heap.size) (hd2 : pw ≠ pl ∧ pw ≠ bm ∧ blkOf A ≠ some pw ∧ pw < w.heap.size) (hd3 : 0 < l.length → ∀ k, blkOf Z = some k → k ≠ pl ∧ k ≠ bm ∧ blkOf A ≠ some k) (hd4 : blkOf A ≠ some pl ∧ blkOf A ≠ some bm ∧ pl ≠ bm) :
    Calls Tryz.prog 160 #[.slice Z l.length cz, .int .i64 p, .pointer (some ⟨pm, 0, none⟩), .pointer (some ⟨pw, 0, none⟩), .pointer (some ⟨pl, 0, none⟩)] w (StepOut base pl bm (N + l.length) A (stepQ wo p l (f, q)) w) := by
  have HX := hide (fun W (h : KQ pl bm (blkOf A) w W) => (⟨h.cell cm hd1.2.2.2 hd1.1 hd1.2.1 hd1.2.2.1, h.cell cw hd2.2.2.2 hd2.1 hd2.2.1 hd2.2.2.1⟩ : W.cell? ⟨pm, 0, none⟩ = some (.map (some bm)) ∧ W.cell? ⟨pw, 0, none⟩ = some (.int .i64 wo)))
  have HZ := hide (fun W (h : KQ pl bm (blkOf A) w W) j (hj : j < l.length) => (show ∃ b off, Z = some ⟨b, off, none⟩ ∧ W.cell? ⟨b, off + j, none⟩ = some (.int .i64 (l.getD j 0 : Int)) from by
    obtain ⟨b, off, e, _, hb, _, hc⟩ := hR.open_ (Nx.refl w) (by rw [intsOf_len]; omega)
    have hz := hd3 (by omega) b (by rw [e]; rfl)
    have hcc := hc j (by rw [intsOf_len]; exact hj) 0 _ rfl
    have eg : l.getD j 0 = l[j] := by rw [List.getD_eq_getElem?_getD, List.getElem?_eq_getElem hj]; rfl
    rw [eg]
    exact ⟨b, off, e, h.cell (by simpa [intsOf] using hcc) hb hz.1 hz.2.1 hz.2.2⟩))
  have HL := hide hl
  have HP := hide hp
  have hplt : pl < w.heap.size := (Array.getElem?_eq_some_iff.1 hpl).1
  have hbmt := hM.lt
  have HD4 := hide hd4
  have HST0 := hide (⟨hpl, hM, hq⟩ : w.heap[pl]? = some (.cells #[.slice A q.length c] 22 (0, 0)) ∧ MpQI w bm N f ∧ QIs w base 3 A c (intsOf q))
  clear cm cw hpl hM hq hR hd1 hd2 hd3 hl hp hd4
  obtain ⟨S, hS⟩ : ∃ S, S = stepQ wo p l (f, q) := ⟨_, rfl⟩
  rw [← hS]
  have HS := hide hS
  clear hS
  generalize hn : l.length = n at *
  have HN := hide hn
  clear hn
  go_enter Tryz.func160, Tryz.ntmps160
  go_wp2_with fail
  go_loopw [13] (fun i wr => ∃ (j : Nat) (f' : Nat → Option Int) (q' : List Nat) (A' : Option Addr) (c' : Nat), j ≤ n ∧ i = .int .i64 j ∧ KQ pl bm (blkOf A) w wr ∧ wr.heap[pl]? = some (.cells #[.slice A' q'.length c'] 22 (0, 0)) ∧ MpQI wr bm (N + j) f' ∧ QIs wr base 3 A' c' (intsOf q') ∧ (blkOf A' = blkOf A ∨ ∀ k, blkOf A' = some k → w.heap.size ≤ k) ∧ q'.length ≤ q.length + j ∧ S = stepQ wo p (l.drop j) (f', q')) (fun i _ => n - (intOf i).toNat)
  case atStart => exact ⟨0, f, q, A, c, Nat.zero_le _, rfl, KQ.refl _ _ _ _, HST0.out.1, HST0.out.2.1, HST0.out.2.2, .inl rfl, Nat.le_refl _, HS.out⟩
  case round =>
    obtain ⟨j, f', q', A', c', hj, rfl, hkq, hpl, hM, hq, hA, hql', hSS⟩ := hrel
    have HSS := hide hSS
    have HM := hide hM
    have HQ := hide hq
    have HA := hide hA
    have HKQ := hide hkq
    have HPL := hide hpl
    have HQL := hide hql'
    clear hSS hM hq hA hql'
    by_cases hlt : j < n
    · have hlt' : j < l.length := by have := HN.out; omega
      obtain ⟨b, off, eb, cz0⟩ := HZ.out wr hkq j hlt
      obtain ⟨x1, x2⟩ := HX.out wr hkq
      have hkb := HL.out l[j] (List.getElem_mem hlt')
      have HDR := hide (show stepQ wo p (l.drop j) (f', q') = stepQ wo p (l.drop (j + 1)) (if f' l[j] = none ∧ (l[j] : Int) ≠ wo then (fun x => if x = l[j] then some p else f' x, q' ++ [l[j]]) else (f', q')) from stepQ_drop wo p l j hlt' (f', q'))
      have hszr := hkq.sz
      have x3 : wr.cell? ⟨pl, 0, none⟩ = some (.slice A' q'.length c') := (cell_of_row wr pl 0 _ _ _ hpl).trans rfl
      rw [show l.getD j 0 = l[j] by rw [List.getD_eq_getElem?_getD, List.getElem?_eq_getElem hlt']; rfl] at cz0
      generalize l[j] = k at *
      have hdk : domK k := domK_of (by omega)
      have HKK := hide (key_N hdk)
      have HDK := hide hdk
      clear hpl hkq hdk
      subst eb
      have hA1 : ∀ i, blkOf A' = some i → i ≠ pl ∧ i ≠ bm ∧ (some i = blkOf A ∨ w.heap.size ≤ i) := by
        intro i hi
        rcases HA.out with h | h
        · have h4 := HD4.out
          refine ⟨fun e => h4.1 ?_, fun e => h4.2.1 ?_, .inl (hi.symm.trans h)⟩
          · rw [← h, hi, e]
          · rw [← h, hi, e]
        · have := h i hi
          exact ⟨by omega, by omega, .inr this⟩
      have HA1 := hide hA1
      clear hA1
      cases hf : f' k with
      | some z =>
        have HEQ := hide (HSS.out.trans (HDR.out.trans (by rw [if_neg (by rw [hf]; simp)] : _ = stepQ wo p (l.drop (j + 1)) (f', q'))))
        go_wp2_with (at_lookup; refine wpMgLookOk _ rfl _ _ _ rfl intR law_intN Tryz.underlying232 (z := (0 : Int)) (by decide) (zeroIntR _) bm (N + j) f' rfl HM.out k rfl HDK.out _ HKK.out ?_)
        go_roundw
        case rel => exact ⟨j + 1, f', q', A', c', by omega, by go_num, HKQ.out, HPL.out, by rw [← Nat.add_assoc]; exact HM.out.mono (by omega), HQ.out, HA.out, by have := HQL.out; omega, HEQ.out⟩
        case measure => simp [intOf]; omega
      | none =>
        by_cases hwo : (k : Int) = wo
        · have tw : ((k : Int) != wo) = false := by simpa using hwo
          have HEQ := hide (HSS.out.trans (HDR.out.trans (by rw [if_neg (by rw [hwo]; simp)] : _ = stepQ wo p (l.drop (j + 1)) (f', q'))))
          clear hwo
          go_wp2_with (at_lookup; refine wpMgLookOk _ rfl _ _ _ rfl intR law_intN Tryz.underlying232 (z := (0 : Int)) (by decide) (zeroIntR _) bm (N + j) f' rfl HM.out k rfl HDK.out _ HKK.out ?_)
          go_roundw
          case rel => exact ⟨j + 1, f', q', A', c', by omega, by go_num, HKQ.out, HPL.out, by rw [← Nat.add_assoc]; exact HM.out.mono (by omega), HQ.out, HA.out, by have := HQL.out; omega, HEQ.out⟩
          case measure => simp [intOf]; omega
        · have tw : ((k : Int) != wo) = true := by simpa using hwo
          have HEQ := hide (HSS.out.trans (HDR.out.trans (by rw [if_pos ⟨hf, hwo⟩] : _ = stepQ wo p (l.drop (j + 1)) (fun x => if x = k then some p else f' x, q' ++ [k]))))
          have hwp : (Lit.int .i64 p).wf = true := wf_i64o.2 ⟨by have := HP.out; omega, by have := HP.out; omega⟩
          have HWP := hide hwp
          clear hwo hwp
          have hpm : bm ≠ pl := fun e => HD4.out.2.2 e.symm
          have HPM := hide hpm
          clear hpm
          go_wp2_with (first
            | (at_lookup; refine wpMgLookOk _ rfl _ _ _ rfl intR law_intN Tryz.underlying232 (z := (0 : Int)) (by decide) (zeroIntR _) bm (N + j) f' rfl HM.out k rfl HDK.out _ HKK.out ?_)
            | (at_mapUpdate; go_must (refine wpMgPut _ rfl _ _ _ _ rfl intR law_intN ekN_inj Tryz.underlying232 bm (N + j) f' rfl HM.out (by unfold maxLen; omega) k rfl HDK.out _ HKK.out p rfl HWP.out ?_); intro w7 hM7 hg7; (have HM7 := hide hM7); (have HG7 := hide hg7); (have hpl7 := (hg7.block pl (Array.getElem?_eq_some_iff.1 HPL.out).1 (by simpa using fun e => HPM.out e.symm)).trans HPL.out); (have HPL7 := hide hpl7); (have x4 : w7.cell? ⟨pl, 0, none⟩ = some (.slice A' q'.length c') := (cell_of_row w7 pl 0 _ _ _ hpl7).trans rfl); clear hM7 hg7 hpl7)
            | (at_builtin; go_must (refine wpQApp rfl _ _ _ rfl el_IntR (by omega) base A' c' (intsOf q') (by rw [intsOf_len]; rfl) ((HQ.out.kept (row := some bm) HG7.out (fun i hi e => (HA1.out i hi).2.1 (by injection e with e; exact e.symm))).nx ((Nx.refl _).alloc _)) _ (k : Int) rfl (hnew rfl) (by rw [intsOf_len]; have := HQL.out; omega) (by have := HG7.out.sz; simp; omega) ?_); intro A9 c9 w9 hq9 hg9 ha9; (have HQ9 := hide hq9); (have HG9 := hide hg9); (have HA9 := hide ha9); (have hpl9 := (hg9.block pl (Nat.lt_of_lt_of_le (Array.getElem?_eq_some_iff.1 HPL7.out).1 ((Nx.refl w7).alloc _).sz) (fun e => (HA1.out pl e.symm).1 rfl)).trans ((((Nx.refl w7).alloc _).block pl (Array.getElem?_eq_some_iff.1 HPL7.out).1).trans HPL7.out)); (have HPL9 := hide hpl9); (have y0 : w9.cell? ⟨pl, 0, none⟩ = some (.slice A' q'.length c') := (cell_of_row w9 pl 0 _ _ _ hpl9).trans rfl); (have yf := frozen_blkR (j := 0) hpl9); clear hq9 hg9 ha9 hpl9))
          go_roundw
          case rel =>
            have hlen : (intsOf q').length + 1 = (q' ++ [k]).length := by rw [intsOf_len, List.length_append]; rfl
            have hk7 : KQ pl bm (blkOf A) w w7 := HKQ.out.grown (row := some bm) HG7.out (fun i e => by injection e with e; exact .inr (.inl e.symm))
            have hk9 : KQ pl bm (blkOf A) w w9 := (hk7.nx ((Nx.refl w7).alloc _)).grown HG9.out (fun i e => (HA1.out i e).2.2.elim (fun h => .inr (.inr (.inl h))) (fun h => .inr (.inr (.inr h))))
            have hb9 : bm ≠ pl := HPM.out
            have hs := Gr.setS (Gr.refl pl w9) (p := ⟨pl, 0, none⟩) (Or.inl rfl) (.slice A9 ((intsOf q').length + 1) c9)
            refine ⟨j + 1, fun x => if x = k then some p else f' x, q' ++ [k], A9, c9, by omega, by go_num, hk9.grown (row := some pl) hs (fun i e => by injection e with e; exact .inl e.symm), ?_, ?_, ?_, ?_, ?_, HEQ.out⟩
            · rw [← hlen]
              exact heap_set HPL9.out
            · rw [← Nat.add_assoc]
              exact (((HM7.out.nx ((Nx.refl w7).alloc _)).grown HG9.out (fun e => (HA1.out bm e.symm).2.1 rfl)).gr hs hb9)
            · rw [mapI_one]
              refine HQ9.out.kept (row := some pl) hs (fun i hi e => ?_)
              injection e with e
              subst e
              rcases HA9.out with h | h
              · exact (HA1.out pl (h ▸ hi)).1 rfl
              · have := h pl hi
                have := (Array.getElem?_eq_some_iff.1 HPL7.out).1
                simp at *
                omega
            · rcases HA9.out with h | h
              · rw [h]; exact HA.out
              · refine .inr fun i hi => ?_
                have h1 := h i hi
                have h2 := hk7.sz
                have h3 := ((Nx.refl w7).alloc (.cells #[.int .i64 (k : Int)] 3)).sz
                omega
            · rw [List.length_append]
              have := HQL.out
              simp
              omega
          case measure => simp [intOf]; omega
    · obtain rfl : n = j := by omega
      go_wp2_with fail
      go_end0
      refine ⟨rfl, A', c', ?_, ?_, ?_, HA.out, HKQ.out⟩
      all_goals
        rw [HSS.out, ← HN.out, List.drop_length]
      · exact HPL.out
      · exact HN.out ▸ HM.out
      · exact HQ.out
end Go.Proofs.YtmpnilliichpfaaGreatDoor
/- The map of roads: the node at an arc's end, the arcs out of a node, the arcs behind an arc. -/
namespace Go.Proofs.YtmpnilliichpfaaGreatDoor
open Go.RowKit Go.Maps

section
variable {bm g0 lo : Nat} {A B C : Option Addr} {ca cb cc : Nat} {M : MapA} {ns : List Node} {rs : List Arc} {bs : List Ban}
theorem map_to {w : World} (hM : MapR w bm g0 lo A B C ca cb cc M ns rs bs) {k : Nat} (hk : k < rs.length) : ∃ tb toff, M.T = some ⟨tb, toff, none⟩ ∧ tb < w.heap.size ∧ w.cell? ⟨tb, toff + k, none⟩ = some (.int .i64 (nodeN ns (arcX rs k).to_ : Int)) := by
  obtain ⟨tb, toff, e, _, hb, _, hc⟩ := hM.hT.open_ (Nx.refl w) (by rw [List.length_map, List.length_range]; omega)
  refine ⟨tb, toff, e, hb, ?_⟩
  have h := hc k (by rw [List.length_map, List.length_range]; exact hk) 0 _ rfl
  simpa using h
set_option maxRecDepth 100000 in
set_option maxHeartbeats 1000000 in
theorem w_MTo (w : World) (hM : MapR w bm g0 lo A B C ca cb cc M ns rs bs) (k : Nat) (hk : k < rs.length) :
    Calls Tryz.prog 162 #[.pointer (some ⟨bm, 0, none⟩), .int .i64 (k : Int)] w fun e w' => e = .returned (.int .i64 (nodeN ns (arcX rs k).to_ : Int)) ∧ Nx w w' := by
  obtain ⟨tb, toff, e, _, hc⟩ := map_to hM hk
  have c2 := hM.c2
  rw [e] at c2
  generalize nodeN ns (arcX rs k).to_ = z at *
  generalize rs.length = m at *
  clear hM e
  go_enter Tryz.func162, Tryz.ntmps162
  go_wp2
  go_ret
  exact ⟨rfl, Nx.refl _⟩
set_option maxRecDepth 100000 in
set_option maxHeartbeats 1000000 in
theorem w_MOut (w0 w : World) (hM0 : MapR w0 bm g0 lo A B C ca cb cc M ns rs bs) (hn0 : Nx w0 w) (i : Nat) (hi : i < ns.length) :
    Calls Tryz.prog 161 #[.pointer (some ⟨bm, 0, none⟩), .int .i64 (i : Int)] w fun e w' => ∃ (Z : Option Addr) (cz : Nat), e = .returned (.slice Z ((gphOf ns rs bs).outs i).length cz) ∧ Rd w' 0 Z 1 encI (intsOf ((gphOf ns rs bs).outs i)) ∧ (0 < ((gphOf ns rs bs).outs i).length → ∀ a, Z = some a → a.block < w0.heap.size) ∧ Nx w w' := by
  have hM := hM0.nx hn0
  obtain ⟨Z, cz, ho0, hR0⟩ := hM0.hO i hi
  have ho := nx_cell hn0 hM0.bol ho0
  have hR := hR0.nx hn0
  have HBB := hide (show 0 < ((gphOf ns rs bs).outs i).length → ∀ a, Z = some a → a.block < w0.heap.size from fun hp a e => by
    obtain ⟨b, off, e2, _, hb, _⟩ := hR0 (by unfold intsOf; rw [List.length_map]; exact hp)
    rw [e] at e2
    injection e2 with e2
    rw [e2]
    exact hb)
  clear ho0 hR0
  have c3 := hM.c3
  generalize (gphOf ns rs bs).outs i = l at *
  generalize ns.length = m at *
  generalize M.bo = bo at *
  have HR := hide hR
  clear hM hR hM0
  generalize hl : l.length = n at *
  have HL := hide hl
  clear hl
  go_enter Tryz.func161, Tryz.ntmps161
  go_wp2
  go_ret
  exact ⟨Z, cz, rfl, HR.out, HBB.out, Nx.refl _⟩
theorem gph_ban (hA : SortA rs) {k j : Nat} (hk : k < rs.length) (hj : j < rs.length) : (mapB rs bs bs.length ((k : Int), (j : Int))).getD false = (gphOf ns rs bs).ban k j := mapB_ban hA hk hj
set_option maxRecDepth 100000 in
set_option maxHeartbeats 4000000 in
theorem w_MNext (w : World) (hM : MapR w bm g0 lo A B C ca cb cc M ns rs bs) (hC : chk (arcF ns) none rs = 0) (hal : rs.length ≤ 400) (k : Nat) (hk : k < rs.length) :
    Calls Tryz.prog 163 #[.pointer (some ⟨bm, 0, none⟩), .int .i64 (k : Int)] w fun e w' => ∃ (Z : Option Addr) (cz : Nat), e = .returned (.slice Z (((gphOf ns rs bs).outs ((gphOf ns rs bs).to_ k)).filter fun j => !(gphOf ns rs bs).ban k j).length cz) ∧ Rd w' w.heap.size Z 1 encI (intsOf (((gphOf ns rs bs).outs ((gphOf ns rs bs).to_ k)).filter fun j => !(gphOf ns rs bs).ban k j)) ∧ Nx w w' := by
  have hG := gph_ok (bs := bs) hC
  have hnt : (gphOf ns rs bs).to_ k < ns.length := hG.to_lt k hk
  obtain ⟨tb, toff, eT, htb, xT⟩ := map_to hM hk
  obtain ⟨Z0, c0, ho, hR⟩ := hM.hO _ hnt
  have HLT := hide (show ∀ j ∈ (gphOf ns rs bs).outs ((gphOf ns rs bs).to_ k), j < rs.length from fun j hj => hG.outs_lt _ j hj)
  have HLK := hide (fun (j : Nat) (hj : j < rs.length) W (hx : Nx w W) => (show (Instr.lookup 212 (.map (some M.b4)) (.agg #[.int .i64 (k : Int), .int .i64 (j : Int)]) false).run Tryz.prog W = .ok (.bool ((gphOf ns rs bs).ban k j)) W by
    obtain ⟨lb, hlb⟩ := key_pair ((k : Int), (j : Int)) ⟨wf_i64o.2 ⟨by show _ ≤ (k : Int); omega, by show (k : Int) ≤ _; omega⟩, wf_i64o.2 ⟨by show _ ≤ (j : Int); omega, by show (j : Int) ≤ _; omega⟩⟩
    have h := ((hM.m4.nx hx).look boolR law_pair Tryz.underlying212 (z := false) trivial (zeroBoolR _) (k := ((k : Int), (j : Int))) ⟨wf_i64o.2 ⟨by show _ ≤ (k : Int); omega, by show (k : Int) ≤ _; omega⟩, wf_i64o.2 ⟨by show _ ≤ (j : Int); omega, by show (j : Int) ≤ _; omega⟩⟩ hlb).1
    rw [gph_ban (ns := ns) (sortA_of hC) hk hj] at h
    exact h))
  have c2 := hM.c2
  have c3 := hM.c3
  have c4 := hM.c4
  rw [eT] at c2
  have hlb := hM.lt
  have HX := hide (fun W (hx : Nx w W) => (⟨nx_cell hx hlb c2, nx_cell hx hlb c3, nx_cell hx htb xT, nx_cell hx hM.bol ho⟩ : W.cell? ⟨bm, 2, none⟩ = some (.slice (some ⟨tb, toff, none⟩) rs.length M.cT) ∧ W.cell? ⟨bm, 3, none⟩ = some (.slice (some ⟨M.bo, 0, none⟩) ns.length ns.length) ∧ W.cell? ⟨tb, toff + k, none⟩ = some (.int .i64 (nodeN ns (arcX rs k).to_ : Int)) ∧ W.cell? ⟨M.bo, (gphOf ns rs bs).to_ k, none⟩ = some (.slice Z0 ((gphOf ns rs bs).outs ((gphOf ns rs bs).to_ k)).length c0)))
  have HX4 := hide (fun W (hx : Nx w W) => nx_cell hx hlb c4)
  have HR := hide hR
  have hLl : ((gphOf ns rs bs).outs ((gphOf ns rs bs).to_ k)).length ≤ 400 := Nat.le_trans (hG.outs_len _) hal
  rw [show nodeN ns (arcX rs k).to_ = (gphOf ns rs bs).to_ k from rfl] at HX
  generalize (gphOf ns rs bs).to_ k = t at *
  generalize (gphOf ns rs bs).outs t = L at *
  generalize (gphOf ns rs bs).ban k = ban at *
  clear hM eT c2 c3 c4 hlb xT ho hR htb hG hC
  generalize hn : L.length = n at *
  have HN := hide hn
  clear hn
  generalize hm : rs.length = m at *
  generalize hnn : ns.length = nn at *
  clear hm hnn
  go_enter Tryz.func163, Tryz.ntmps163
  go_upto_region 2 with fail
  go_cut [20, 21, 22] (fun v20 v21 v22 wx => v20 = .slice Z0 n c0 ∧ v21 = .int .i64 (n : Int) ∧ v22 = .int .i64 0 ∧ Nx w wx)
  case first =>
    refine wp_region_held_drew (S := fun w' => w'.cell? ⟨bm, 2, none⟩ = some (.slice (some ⟨tb, toff, none⟩) m M.cT) ∧ w'.cell? ⟨bm, 3, none⟩ = some (.slice (some ⟨M.bo, 0, none⟩) nn nn) ∧ w'.cell? ⟨tb, toff + k, none⟩ = some (.int .i64 (t : Int)) ∧ w'.cell? ⟨M.bo, t, none⟩ = some (.slice Z0 n c0)) (by kernel_rfl) ?_ (fun hHeld => ?_)
    · exact HX.out _ (Nx.refl _).drew
    refine wpAnyH_take (i := 0) (oi := ⟨some 8, _, _, _, _, _⟩) (v := ?_) rfl (by kernel_rfl) (by kernel_rfl) (by kernel_rfl) (fun _ _ _ h => h) (Or.inl ⟨by rfl, ?_⟩) (by assumption) ?_
    rotate_left 1
    · intro w hSw
      (try dsimp only at hSw)
      go_simp
      try with_reducible rfl
    try simp only [Act.put, List.setIfInBounds_toArray, List.set_cons_zero, List.set_cons_succ]
    refine wpAnyH_take (i := 1) (oi := ⟨some 9, _, _, _, _, _⟩) (v := ?_) rfl (by kernel_rfl) (by kernel_rfl) (by kernel_rfl) (fun _ _ _ h => h) (Or.inl ⟨by rfl, ?_⟩) (by assumption) ?_
    rotate_left 1
    · intro w hSw
      (try dsimp only at hSw)
      go_simp
      try with_reducible rfl
    try simp only [Act.put, List.setIfInBounds_toArray, List.set_cons_zero, List.set_cons_succ]
    refine wpAnyH_take (i := 2) (oi := ⟨some 10, _, _, _, _, _⟩) (v := ?_) rfl (by kernel_rfl) (by kernel_rfl) (by kernel_rfl) (fun _ _ _ h => h) (Or.inl ⟨by rfl, ?_⟩) (by assumption) ?_
    rotate_left 1
    · intro w hSw
      (try dsimp only at hSw)
      go_simp
      try with_reducible rfl
    try simp only [Act.put, List.setIfInBounds_toArray, List.set_cons_zero, List.set_cons_succ]
    refine wpAnyH_take (i := 3) (oi := ⟨some 11, _, _, _, _, _⟩) (v := ?_) rfl (by kernel_rfl) (by kernel_rfl) (by kernel_rfl) (fun _ _ _ h => h) (Or.inl ⟨by rfl, ?_⟩) (by assumption) ?_
    rotate_left 1
    · intro w hSw
      (try dsimp only at hSw)
      go_simp
      try with_reducible rfl
    try simp only [Act.put, List.setIfInBounds_toArray, List.set_cons_zero, List.set_cons_succ]
    refine wpAnyH_take (i := 4) (oi := ⟨some 12, _, _, _, _, _⟩) (v := ?_) rfl (by kernel_rfl) (by kernel_rfl) (by kernel_rfl) (fun _ _ _ h => h) (Or.inl ⟨by rfl, ?_⟩) (by assumption) ?_
    rotate_left 1
    · intro w hSw
      (try dsimp only at hSw)
      go_simp
      try with_reducible rfl
    try simp only [Act.put, List.setIfInBounds_toArray, List.set_cons_zero, List.set_cons_succ]
    refine wpAnyH_take (i := 5) (oi := ⟨some 13, _, _, _, _, _⟩) (v := ?_) rfl (by kernel_rfl) (by kernel_rfl) (by kernel_rfl) (fun _ _ _ h => h) (Or.inl ⟨by rfl, ?_⟩) (by assumption) ?_
    rotate_left 1
    · intro w hSw
      (try dsimp only at hSw)
      go_simp
      try with_reducible rfl
    try simp only [Act.put, List.setIfInBounds_toArray, List.set_cons_zero, List.set_cons_succ]
    refine wpAnyH_take (i := 6) (oi := ⟨some 14, _, _, _, _, _⟩) (v := ?_) rfl (by kernel_rfl) (by kernel_rfl) (by kernel_rfl) (fun _ _ _ h => h) (Or.inl ⟨by rfl, ?_⟩) (by assumption) ?_
    rotate_left 1
    · intro w hSw
      (try dsimp only at hSw)
      go_simp
      try with_reducible rfl
    try simp only [Act.put, List.setIfInBounds_toArray, List.set_cons_zero, List.set_cons_succ]
    refine wpAnyH_take (i := 7) (oi := ⟨some 15, _, _, _, _, _⟩) (v := ?_) rfl (by kernel_rfl) (by kernel_rfl) (by kernel_rfl) (fun _ _ _ h => h) (Or.inl ⟨by rfl, ?_⟩) (by assumption) ?_
    rotate_left 1
    · intro w hSw
      (try dsimp only at hSw)
      go_simp
      try with_reducible rfl
    try simp only [Act.put, List.setIfInBounds_toArray, List.set_cons_zero, List.set_cons_succ]
    refine wpAnyH_take (i := 8) (oi := ⟨some 16, _, _, _, _, _⟩) (v := ?_) rfl (by kernel_rfl) (by kernel_rfl) (by kernel_rfl) (fun _ _ _ h => h) (Or.inl ⟨by rfl, ?_⟩) (by assumption) ?_
    rotate_left 1
    · intro w hSw
      (try dsimp only at hSw)
      go_simp
      try with_reducible rfl
    try simp only [Act.put, List.setIfInBounds_toArray, List.set_cons_zero, List.set_cons_succ]
    refine wpAnyH_take (i := 9) (oi := ⟨some 17, _, _, _, _, _⟩) (v := ?_) rfl (by kernel_rfl) (by kernel_rfl) (by kernel_rfl) (fun _ _ _ h => h) (Or.inl ⟨by rfl, ?_⟩) (by assumption) ?_
    rotate_left 1
    · intro w hSw
      (try dsimp only at hSw)
      go_simp
      try with_reducible rfl
    try simp only [Act.put, List.setIfInBounds_toArray, List.set_cons_zero, List.set_cons_succ]
    refine wpAnyH_take (i := 10) (oi := ⟨some 18, _, _, _, _, _⟩) (v := ?_) rfl (by kernel_rfl) (by kernel_rfl) (by kernel_rfl) (fun _ _ _ h => h) (Or.inl ⟨by rfl, ?_⟩) (by assumption) ?_
    rotate_left 1
    · intro w hSw
      (try dsimp only at hSw)
      go_simp
      try with_reducible rfl
    try simp only [Act.put, List.setIfInBounds_toArray, List.set_cons_zero, List.set_cons_succ]
    refine wpAnyH_take (i := 11) (oi := ⟨some 19, _, _, _, _, _⟩) (v := ?_) rfl (by kernel_rfl) (by kernel_rfl) (by kernel_rfl) (fun _ _ _ h => h) (Or.inl ⟨by rfl, ?_⟩) (by assumption) ?_
    rotate_left 1
    · intro w hSw
      (try dsimp only at hSw)
      go_simp
      try with_reducible rfl
    try simp only [Act.put, List.setIfInBounds_toArray, List.set_cons_zero, List.set_cons_succ]
    refine wpAnyH_take (i := 12) (oi := ⟨some 20, _, _, _, _, _⟩) (v := ?_) rfl (by kernel_rfl) (by kernel_rfl) (by kernel_rfl) (fun _ _ _ h => h) (Or.inl ⟨by rfl, ?_⟩) (by assumption) ?_
    rotate_left 1
    · intro w hSw
      (try dsimp only at hSw)
      go_simp
      try with_reducible rfl
    try simp only [Act.put, List.setIfInBounds_toArray, List.set_cons_zero, List.set_cons_succ]
    refine wpAnyH_take (i := 13) (oi := ⟨some 21, _, _, _, _, _⟩) (v := ?_) rfl (by kernel_rfl) (by kernel_rfl) (by kernel_rfl) (fun _ _ _ h => h) (Or.inl ⟨by rfl, ?_⟩) (by assumption) ?_
    rotate_left 1
    · intro w hSw
      (try dsimp only at hSw)
      go_simp
      try with_reducible rfl
    try simp only [Act.put, List.setIfInBounds_toArray, List.set_cons_zero, List.set_cons_succ]
    refine wpAnyH_take (i := 14) (oi := ⟨some 22, _, _, _, _, _⟩) (v := ?_) rfl (by kernel_rfl) (by kernel_rfl) (by kernel_rfl) (fun _ _ _ h => h) (Or.inl ⟨by rfl, ?_⟩) (by assumption) ?_
    rotate_left 1
    · intro w hSw
      (try dsimp only at hSw)
      go_simp
      try with_reducible rfl
    try simp only [Act.put, List.setIfInBounds_toArray, List.set_cons_zero, List.set_cons_succ]
    refine wpAnyH_done (by kernel_rfl) ?_ _
    go_wp2
    go_meet
    exact ⟨rfl, rfl, rfl, (Nx.refl _).drew⟩
  case rest =>
    obtain ⟨rfl, rfl, rfl, hx⟩ := hcut
    obtain ⟨w1, hw1⟩ : ∃ w1, w1 = wc := ⟨_, rfl⟩
    subst hw1
    have HX1 := hide hx
    clear hx
    go_wp2_with fail
    go_loopw [5, 22] (fun v i wr => ∃ j : Nat, j ≤ n ∧ i = .int .i64 j ∧ Nx w1 wr ∧ wr.ownsRow w1.heap.size 3 1 v ((L.take j).filter fun x => !ban x).length ((intsOf ((L.take j).filter fun x => !ban x)).flatMap encI)) (fun _ i _ => n - (intOf i).toNat)
    case atStart => exact ⟨0, Nat.zero_le _, rfl, Nx.refl _, World.ownsRow_nil _ _ _ _⟩
    case round =>
      obtain ⟨j, hj, rfl, hbw, hown⟩ := hrel
      have HO := hide hown
      clear hown
      by_cases hlt : j < n
      · have hlt' : j < L.length := by have := HN.out; omega
        obtain ⟨b, off, eb, _, hb, hbr, hc⟩ := HR.out.open_ (HX1.out.trans hbw) (by unfold intsOf; rw [List.length_map]; omega)
        have cj : wr.cell? ⟨b, off + j, none⟩ = some (.int .i64 (L[j] : Int)) := by
          have h := hc j (by unfold intsOf; rw [List.length_map]; omega) 0 _ rfl
          simpa [intsOf] using h
        have hLm := HLT.out L[j] (List.getElem_mem hlt')
        have HLJ := hide (fun W (hx : Nx w W) => HLK.out L[j] hLm W hx)
        have HTK := hide (show (L.take (j + 1)).filter (fun x => !ban x) = (L.take j).filter (fun x => !ban x) ++ (if ban L[j] = true then [] else [L[j]]) by
          rw [List.take_succ_eq_append_getElem hlt', List.filter_append]
          cases h : ban L[j] <;> simp [h])
        clear hc hb hbr hLm
        generalize L[j] = x at *
        have b4 := HX4.out wr (HX1.out.trans hbw)
        have hlk := HLJ.out wr (HX1.out.trans hbw)
        subst eb
        cases hbn : ban x
        · rw [hbn] at hlk
          have h1 := HO.out
          have HTK2 := hide (HTK.out.trans (by rw [hbn]; rfl : _ = (L.take j).filter (fun x => !ban x) ++ [x]))
          have HLE := hide (show ((L.take j).filter (fun x => !ban x)).length ≤ j by
            have := List.length_filter_le (fun x => !ban x) (L.take j)
            rw [List.length_take] at this
            omega)
          generalize (L.take j).filter (fun x => !ban x) = F at *
          have HI := hide (show (intsOf F).length = F.length by unfold intsOf; rw [List.length_map])
          have h2 := h1
          rw [← HI.out] at h2
          have HO2 := hide h2
          clear h1 h2
          go_wp2_with (at_builtin; go_must (refine wpApp2 rfl _ _ _ rfl el_IntR encI encI_len encI_one (by omega) (by omega) w1.heap.size _ (intsOf F) rfl (HO2.out.alloc _) _ (x : Int) _ rfl (hnew rfl) rfl (by have := HI.out; have := HLE.out; omega) (by have := hbw.sz; simp; omega) ?_); intro v9 w9 hown9 hg9 _; (have HO9 := hide hown9); (have HG9 := hide hg9); clear hown9 hg9)
          go_roundw
          case rel =>
            refine ⟨j + 1, by omega, by go_num, (hbw.alloc _).grown HG9.out (fun y hy => own_blk_lt HO2.out y hy), ?_⟩
            have h9 := HO9.out
            rw [HTK2.out]
            have e : intsOf (F ++ [x]) = intsOf F ++ [(x : Int)] := by unfold intsOf; rw [List.map_append]; rfl
            rw [e]
            rw [show (intsOf F ++ [(x : Int)]).length = (F ++ [x]).length by rw [List.length_append, List.length_append, HI.out]; rfl] at h9
            exact h9
          case measure => simp [intOf]; omega
        · rw [hbn] at hlk
          have HTK2 := hide (HTK.out.trans (by rw [hbn, if_pos rfl, List.append_nil] : _ = (L.take j).filter (fun x => !ban x)))
          go_wp2_with fail
          go_roundw
          case rel => exact ⟨j + 1, by omega, by go_num, hbw, by rw [HTK2.out]; exact HO.out⟩
          case measure => simp [intOf]; omega
      · obtain rfl : n = j := by omega
        have hown := HO.out
        rw [← HN.out, List.take_length] at hown
        obtain ⟨F, hF⟩ : ∃ F, F = L.filter (fun x => !ban x) := ⟨_, rfl⟩
        rw [← hF] at hown
        have hI : F.length = (intsOf F).length := by unfold intsOf; rw [List.length_map]
        obtain ⟨D, cd, rfl, hRd, _⟩ := Rd.of_own encI_len hI hown
        have HRd := hide hRd
        have HF := hide hF
        have HI := hide hI
        clear hRd hown HO hI hF
        generalize hfl : (intsOf F).length = fl at *
        have HFL := hide hfl
        clear hfl
        go_wp2_with fail
        go_ret
        refine ⟨D, cd, ?_, by rw [← HF.out]; exact HRd.out.low HX1.out.sz, HX1.out.trans hbw⟩
        rw [← HF.out, HI.out]
        rfl
end
end Go.Proofs.YtmpnilliichpfaaGreatDoor
