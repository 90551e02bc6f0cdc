/- Plain: arcs one after the other; how long they are; when one comes out of each. -/
import Derived.Test.YtbhlldpmklkeoaaGreatDoorQG10
import Derived.Test.YtbhlldpmklkeoaaGreatDoorQArcB
import Derived.Test.YtbhlldpmklkeoaaGreatDoorQG12
import Derived.Deep.RegionHeld3
import Derived.Deep.DeepCutAuto
import Derived.Test.YtbhlldpmklkeoaaGreatDoorQCheckR
namespace Go.Proofs.YtbhlldpmklkeoaaGreatDoor

/-- May nobody drive from an arc on to another one? -/
def bannedB (bs : List Ban) (f t : ByteArray) : Bool := bs.any fun b => decide (b.from_ = f) && decide (b.to_ = t)
def prevBan (bs : List Ban) (p : Option ByteArray) (k : ByteArray) : Bool := match p with | some q => bannedB bs q k | none => false
/-- What is wrong with arcs one after the other. -/
def chainF (rs : List Arc) (bs : List Ban) : ByteArray → Option ByteArray → List ByteArray → Int
  | _, _, [] => 0
  | fr, p, k :: l => if arcI rs k < 0 then 8 else if fr ≠ ByteArray.empty ∧ (arcAt rs k).from_ ≠ fr then 3 else if prevBan bs p k then 16 else chainF rs bs (arcAt rs k).to_ (some k) l
def lengthI (rs : List Arc) : List ByteArray → Int
  | [] => 0
  | k :: l => (arcAt rs k).long + lengthI rs l
def outAt (rs : List Arc) (at_ : Int) (k : ByteArray) : Int := at_ + timeI (arcAt rs k).knots at_
/-- When one comes out of each of some arcs; none: not ahead of the end. -/
def walkO (rs : List Arc) : Int → List ByteArray → Option (List Int)
  | _, [] => some []
  | at_, k :: l => if 345686400000 ≤ outAt rs at_ k then none else (walkO rs (outAt rs at_ k) l).map (outAt rs at_ k :: ·)
theorem banC_zero {a b : Ban} : banC a b = 0 ↔ a = b := by
  obtain ⟨a1, a2⟩ := a
  obtain ⟨b1, b2⟩ := b
  unfold banC
  constructor
  · intro h
    by_cases h1 : cmpS a1 b1 = 0
    · have h' : cmpS a2 b2 = 0 := by simpa [h1] using h
      rw [cmpS_zero.1 h1, cmpS_zero.1 h']
    · simp [h1] at h
  · intro h
    injection h with h1 h2
    have e1 := cmpS_zero.2 h1
    have e2 := cmpS_zero.2 h2
    simp [e1, e2]
theorem banC_pos {a b : Ban} : 0 < banC a b ↔ banC b a < 0 := by
  have h := banC_anti a b
  omega
/-- The order of bans goes on. -/
theorem banC_neg {a b : Ban} : banC a b < 0 ↔ ltS a.from_ b.from_ ∨ (a.from_ = b.from_ ∧ ltS a.to_ b.to_) := by
  unfold banC
  by_cases h1 : cmpS a.from_ b.from_ = 0
  · rw [if_pos h1]
    have e := cmpS_zero.1 h1
    constructor
    · intro h; exact .inr ⟨e, cmpS_neg.1 h⟩
    · rintro (h | ⟨_, h⟩)
      · rw [e] at h; exact absurd h (ltS_irrefl _)
      · exact cmpS_neg.2 h
  · rw [if_neg h1]
    constructor
    · intro h; exact .inl (cmpS_neg.1 h)
    · rintro (h | ⟨h, _⟩)
      · exact cmpS_neg.2 h
      · exact absurd (cmpS_zero.2 h) h1
theorem banC_trans {a b c : Ban} (h : banC a b < 0) (h' : banC b c < 0) : banC a c < 0 := by
  rw [banC_neg] at *
  rcases h with h | ⟨h1, h2⟩
  · rcases h' with h' | ⟨h1', _⟩
    · exact .inl (ltS_trans h h')
    · exact .inl (h1' ▸ h)
  · rcases h' with h' | ⟨h1', h2'⟩
    · exact .inl (h1 ▸ h')
    · exact .inr ⟨h1.trans h1', ltS_trans h2 h2'⟩
theorem chkB_sorted (rs : List Arc) : ∀ (l : List Ban) (p : Option Ban), chk (banF rs) p l = 0 → (l.Pairwise fun a b => banC a b < 0) ∧ ∀ q, p = some q → ∀ x ∈ l, banC q x < 0
  | [], _, _ => ⟨List.Pairwise.nil, fun _ _ _ h => absurd h (by simp)⟩
  | s :: l, p, h => by
    unfold chk at h
    by_cases h0 : banF rs p s = 0
    · rw [if_pos h0] at h
      obtain ⟨h1, h2⟩ := chkB_sorted rs l _ h
      have h3 : ∀ q, p = some q → banC q s < 0 := fun q e => by
        subst e
        unfold banF at h0
        by_cases hg : banG rs s = 0
        · rw [if_pos hg] at h0
          by_cases hc : banC s q ≤ 0
          · simp [hc] at h0
          · exact banC_pos.1 (by omega)
        · rw [if_neg hg] at h0; exact absurd h0 hg
      refine ⟨List.pairwise_cons.2 ⟨fun y hy => h2 s rfl y hy, h1⟩, fun q e y hy => ?_⟩
      rcases List.mem_cons.1 hy with rfl | hy
      · exact h3 q e
      · exact banC_trans (h3 q e) (h2 s rfl y hy)
    · rw [if_neg h0] at h; exact absurd h h0
theorem banB_at {l : List Ban} (h : l.Pairwise fun a b => banC a b < 0) {i j : Nat} (hij : i < j) (hj : j < l.length) : banC (l.getD i default) (l.getD j default) < 0 := by
  rw [List.pairwise_iff_getElem] at h
  have := h i j (by omega) hj hij
  rw [List.getD_eq_getElem?_getD, List.getD_eq_getElem?_getD, List.getElem?_eq_getElem (by omega), List.getElem?_eq_getElem hj]
  exact this
theorem bannedB_iff {bs : List Ban} {f t : ByteArray} : bannedB bs f t = true ↔ ∃ k, k < bs.length ∧ bs.getD k default = ⟨f, t⟩ := by
  unfold bannedB
  rw [List.any_eq_true]
  constructor
  · rintro ⟨b, hb, hx⟩
    obtain ⟨k, hk, e⟩ := List.mem_iff_getElem.1 hb
    refine ⟨k, hk, ?_⟩
    rw [List.getD_eq_getElem?_getD, List.getElem?_eq_getElem hk]
    simp at hx
    obtain ⟨b1, b2⟩ := b
    simp at hx
    rw [← hx.1, ← hx.2]
    exact e
  · rintro ⟨k, hk, e⟩
    refine ⟨bs.getD k default, ?_, by rw [e]; simp⟩
    rw [List.getD_eq_getElem?_getD, List.getElem?_eq_getElem hk]
    exact List.getElem_mem hk
end Go.Proofs.YtbhlldpmklkeoaaGreatDoor
/- A ban: the program's search. -/
namespace Go.Proofs.YtbhlldpmklkeoaaGreatDoor
open Go.RowKit

set_option maxRecDepth 100000 in
set_option maxHeartbeats 2000000 in
theorem w_BsfBan (g : Nat) (f : Ban → Int) (x : Ban) (eg : Enters g) (hcl : ∀ (y : Ban) W, Calls Tryz.prog g #[.agg #[.string y.from_, .string y.to_], .agg #[.string x.from_, .string x.to_]] W fun e w' => e = .returned (.int .i64 (f y)) ∧ Nx W w')
    (lo : Nat) (A : Option Addr) (c : Nat) (l : List Ban) (w : World) (hR : Rd w lo A 2 encBan l) (hl : l.length ≤ 65536)
    (hm : ∀ i j, i ≤ j → j < l.length → f (l.getD j default) < 0 → f (l.getD i default) < 0) :
    Calls Tryz.prog 99 #[.slice A l.length c, .agg #[.string x.from_, .string x.to_], .func (.func g) #[] #[]] w fun e w' => ∃ (r : Nat) (is : Bool), e = .returned (.tuple #[.int .i64 (r : Int), .bool is]) ∧ Found (fun i => f (l.getD i default)) l.length r is ∧ Nx w w' := by
  obtain ⟨wa, hwa⟩ : ∃ wa, wa = w.alloc (.cells #[.string x.from_, .string x.to_] 70) := ⟨_, rfl⟩
  have hna : Nx w wa := hwa ▸ (Nx.refl w).alloc _
  have hgw : w.heap.size < wa.heap.size := by rw [hwa]; simp
  have hx0 : wa.cell? ⟨w.heap.size, 0, none⟩ = some (.string x.from_) := by rw [hwa]; go_simp
  have hx1 : wa.cell? ⟨w.heap.size, 1, none⟩ = some (.string x.to_) := by rw [hwa]; go_simp
  replace hR := hR.nx hna
  generalize hn : l.length = n at *
  have HR := hide hR
  have HN := hide hn
  have HC0 := hide hcl
  have HM := hide hm
  clear hR hn hcl hm
  unfold Enters at eg
  have HG := hide (fun i (hi : i < l.length) => (show l.getD i default = l[i] by rw [List.getD_eq_getElem?_getD, List.getElem?_eq_getElem hi]; rfl))
  go_enter Tryz.func99, Tryz.ntmps99
  go_wp2
  rw [← hwa]
  have HWA := hide hwa
  clear hwa
  generalize w.heap.size = gb at *
  go_loopw [9, 10, 11] (fun vi vj _ wr => ∃ i j : Nat, i ≤ j ∧ j ≤ n ∧ vi = .int .i64 i ∧ vj = .int .i64 j ∧ Nx wa wr ∧ (∀ m, m < i → f (l.getD m default) < 0) ∧ (∀ m, j ≤ m → m < n → 0 ≤ f (l.getD m default))) (fun vi vj _ _ => (intOf vj).toNat - (intOf vi).toNat)
  case atStart => exact ⟨0, n, Nat.zero_le _, Nat.le_refl _, rfl, rfl, Nx.refl _, fun m hm => by omega, fun m h1 h2 => by omega⟩
  case round =>
    obtain ⟨i, j, hij, hj, rfl, rfl, hbw, hlo, hhi⟩ := hrel
    have HLO := hide hlo
    have HHI := hide hhi
    clear hlo hhi
    have b0 := nx_cell hbw hgw hx0
    have b1 := nx_cell hbw hgw hx1
    clear hx0 hx1
    by_cases hlt : i < j
    · obtain ⟨h, hh⟩ : ∃ h, h = (i + j) / 2 := ⟨_, rfl⟩
      have qh : ((i : Int) + (j : Int)) / 2 = (h : Int) := by omega
      have hih : i ≤ h := by omega
      have hhj : h < j := by omega
      have hh' : h < l.length := by have := HN.out; omega
      clear hh
      obtain ⟨b, off, rfl, _, hb, hbr, hc⟩ := HR.out.open_ hbw (by omega)
      have c0 : wr.cell? ⟨b, off + h * 2, none⟩ = some (.string l[h].from_) := hc h hh' 0 _ rfl
      have c1 : wr.cell? ⟨b, off + h * 2 + 1, none⟩ = some (.string l[h].to_) := hc h hh' 1 _ rfl
      clear hc
      have HE := hide (HG.out h hh')
      have HCY := hide (HC0.out l[h])
      generalize l[h] = y at *
      go_upto_region 5 with fail
      have k1 : (h : Int) < (n : Int) := by omega
      have k2 : (0 : Int) ≤ (h : Int) := by omega
      have hgr := Nat.lt_of_lt_of_le hgw hbw.sz
      go_cut [31] (fun v wx => ∃ bb : Bool, v = .bool bb ∧ bb = decide (f y < 0) ∧ Nx wr wx)
      case first =>
        go_region_held3 (fun w' => w'.cell? ⟨gb, 0, none⟩ = some (.string x.from_) ∧ w'.cell? ⟨gb, 1, none⟩ = some (.string x.to_) ∧ w'.cell? ⟨b, off + h * 2, none⟩ = some (.string y.from_) ∧ w'.cell? ⟨b, off + h * 2 + 1, none⟩ = some (.string y.to_))
          (first | (go_split_ands; exact ⟨nx_cell hn2 hgr ‹_›, nx_cell hn2 hgr ‹_›, nx_cell hn2 hbr ‹_›, nx_cell hn2 hbr ‹_›⟩) | go_keep)
          (first | (go_at_fn g; refine (HCY.out _).mono ?_; rintro e w2 ⟨rfl, hn2⟩))
        go_wp2
        go_meet
        exact ⟨_, rfl, rfl, (Nx.refl wr).drew.trans hn2⟩
      case rest =>
        obtain ⟨bb, rfl, hbb, hn2⟩ := hcut
        have HBB := hide hbb
        clear hbb
        rcases Bool.eq_false_or_eq_true bb with rfl | rfl
        · have HNG := hide (of_decide_eq_true HBB.out.symm)
          go_wp2_with fail
          go_roundw
          case rel => exact ⟨h + 1, j, by omega, by omega, by go_num, rfl, hbw.trans hn2, fun m hm => HM.out m h (by omega) (by omega) (by rw [HE.out]; exact HNG.out), HHI.out⟩
          case measure => simp [intOf]; omega
        · have HNG := hide (of_decide_eq_false HBB.out.symm)
          go_wp2_with fail
          go_roundw
          case rel => exact ⟨i, h, by omega, by omega, rfl, rfl, hbw.trans hn2, HLO.out, fun m h1 h2 => by
            refine Int.not_lt.1 fun hc => ?_
            have h3 := HM.out h m h1 h2 hc
            rw [HE.out] at h3
            have := HNG.out
            omega⟩
          case measure => simp [intOf]; omega
    · have hij' : i = j := by omega
      subst hij'
      clear hlt hij
      by_cases hin : i < n
      · have hi' : i < l.length := by have := HN.out; omega
        obtain ⟨b, off, rfl, _, hb, hbr, hc⟩ := HR.out.open_ hbw (by omega)
        have c0 : wr.cell? ⟨b, off + i * 2, none⟩ = some (.string l[i].from_) := hc i hi' 0 _ rfl
        have c1 : wr.cell? ⟨b, off + i * 2 + 1, none⟩ = some (.string l[i].to_) := hc i hi' 1 _ rfl
        clear hc
        have HE := hide (HG.out i hi')
        have HCY := hide (HC0.out l[i])
        generalize l[i] = y at *
        have k1 : (i : Int) < (n : Int) := by omega
        have k2 : (0 : Int) ≤ (i : Int) := by omega
        have hgr := Nat.lt_of_lt_of_le hgw hbw.sz
        have hlt2 : decide ((i : Int) < (n : Int)) = true := decide_eq_true (by omega)
        go_upto_region 8 with fail
        go_region_held3 (fun w' => w'.cell? ⟨gb, 0, none⟩ = some (.string x.from_) ∧ w'.cell? ⟨gb, 1, none⟩ = some (.string x.to_) ∧ w'.cell? ⟨b, off + i * 2, none⟩ = some (.string y.from_) ∧ w'.cell? ⟨b, off + i * 2 + 1, none⟩ = some (.string y.to_))
          (first | (go_split_ands; exact ⟨nx_cell hn2 hgr ‹_›, nx_cell hn2 hgr ‹_›, nx_cell hn2 hbr ‹_›, nx_cell hn2 hbr ‹_›⟩) | go_keep)
          (first | (go_at_fn g; refine (HCY.out _).mono ?_; rintro e w2 ⟨rfl, hn2⟩))
        go_wp2_with fail
        go_ret2
        exact ⟨i, _, rfl, ⟨hj, HLO.out, HHI.out, by show _ = (decide (i < n) && decide (f (l.getD i default) = 0)); rw [HE.out, decide_eq_true hin]; first | rfl | (rw [Bool.true_and]; exact beq_eq_decide _ _) | simp⟩, hna.trans (hbw.trans ((Nx.refl wr).drew.trans hn2))⟩
      · have hlt2 : decide ((i : Int) < (n : Int)) = false := decide_eq_false (by omega)
        go_upto_region 8 with fail
        go_quiet (fail)
        go_wp2_with fail
        go_ret2
        exact ⟨i, _, rfl, ⟨hj, HLO.out, HHI.out, by rw [decide_eq_false hin]; rfl⟩, hna.trans (hbw.drewN _)⟩

end Go.Proofs.YtbhlldpmklkeoaaGreatDoor
/- Arcs one after the other: the program. -/
namespace Go.Proofs.YtbhlldpmklkeoaaGreatDoor
open Go.RowKit

/-- Roads in a box, read. -/
structure BoxR (w : World) (g lo : Nat) (A B C : Option Addr) (ca cb cc : Nat) (ns : List Node) (rs : List Arc) (bs : List Ban) : Prop where
  g0 : w.cell? ⟨g, 0, none⟩ = some (.slice A ns.length ca)
  g1 : w.cell? ⟨g, 1, none⟩ = some (.slice B rs.length cb)
  g2 : w.cell? ⟨g, 2, none⟩ = some (.slice C bs.length cc)
  gl : g < w.heap.size
  hN : Rd w lo A 3 encNode ns
  hA : RdArcs w lo B rs
  hB : Rd w lo C 2 encBan bs
  nl : ns.length ≤ 400
  al : rs.length ≤ 400
  bl : bs.length ≤ 400
theorem BoxR.nx {w w' : World} {g lo : Nat} {A B C : Option Addr} {ca cb cc : Nat} {ns : List Node} {rs : List Arc} {bs : List Ban} (h : BoxR w g lo A B C ca cb cc ns rs bs) (hn : Nx w w') : BoxR w' g lo A B C ca cb cc ns rs bs :=
  ⟨nx_cell hn h.gl h.g0, nx_cell hn h.gl h.g1, nx_cell hn h.gl h.g2, Nat.lt_of_lt_of_le h.gl hn.sz, h.hN.nx hn, h.hA.nx hn, h.hB.nx hn, h.nl, h.al, h.bl⟩
theorem roads_ok {ns : List Node} {rs : List Arc} {bs : List Ban} (h : roadsF ns rs bs = 0) : nodesF ns = 0 ∧ chk (arcF ns) none rs = 0 ∧ chk (banF rs) none bs = 0 := by
  unfold roadsF at h
  by_cases h0 : nodesF ns = 0
  · rw [if_pos h0] at h
    by_cases h1 : chk (arcF ns) none rs = 0
    · rw [if_pos h1] at h; exact ⟨h0, h1, h⟩
    · rw [if_neg h1] at h; exact absurd h h1
  · rw [if_neg h0] at h; exact absurd h h0

set_option maxRecDepth 100000 in
set_option maxHeartbeats 2000000 in
theorem w_bannedR {w : World} {g lo : Nat} {A B C : Option Addr} {ca cb cc : Nat} {ns : List Node} {rs : List Arc} {bs : List Ban} (h : BoxR w g lo A B C ca cb cc ns rs bs) (hs : bs.Pairwise fun a b => banC a b < 0) (f t : ByteArray) :
    Calls Tryz.prog 75 #[.pointer (some ⟨g, 0, none⟩), .string f, .string t] w fun e w' => e = .returned (.bool (bannedB bs f t)) ∧ Nx w w' := by
  have hB := w_BsfBan 38 (fun y => banC y ⟨f, t⟩) ⟨f, t⟩ (enters_of Tryz.func38 (by kernel_rfl) rfl) (fun y W => w_byBan y ⟨f, t⟩ W) lo C cc bs w h.hB (by have := h.bl; omega) (fun i j hij hj hn => by
    rcases Nat.lt_or_ge i j with h3 | h3
    · exact banC_trans (banB_at hs h3 hj) hn
    · have : i = j := by omega
      subst this; exact hn)
  have g2 := h.g2
  have hB2 : Calls Tryz.prog 99 #[.slice C bs.length cc, .agg #[.string f, .string t], .func (.func 38) #[] #[]] w fun e w' => ∃ r : Nat, e = .returned (.tuple #[.int .i64 (r : Int), .bool (bannedB bs f t)]) ∧ Nx w w' := by
    refine hB.mono ?_
    rintro e w' ⟨r, is, rfl, hF, hn⟩
    refine ⟨r, ?_, hn⟩
    congr 3
    cases hbb : bannedB bs f t with
    | true =>
      obtain ⟨k, hk, e⟩ := bannedB_iff.1 hbb
      have := (found_at hF k hk (by rw [e]; exact banC_zero.2 rfl) (fun i hi => by have := banB_at hs hi hk; rw [e] at this; exact this)).2
      rw [this]
    | false =>
      have : is = false := found_no hF (fun k hk e => by
        have := bannedB_iff.2 ⟨k, hk, banC_zero.1 e⟩
        rw [hbb] at this; cases this)
      rw [this]
  have HB := hide hB2
  clear hB hB2 hs h
  generalize bs.length = n at *
  generalize bannedB bs f t = z at *
  go_enter Tryz.func75, Tryz.ntmps75
  go_wp2_with (go_at_call 99; refine HB.out.mono ?_; rintro e w2 ⟨r, rfl, hn2⟩)
  go_ret
  exact ⟨rfl, hn2⟩

theorem emptyL (f : ByteArray) : f.toList = [] ↔ f = ByteArray.empty := by
  constructor
  · intro h
    have h2 : (f.toList == ByteArray.empty.toList) = true := by rw [h, Lib.toList_data]; rfl
    rw [eqS_iff] at h2
    exact of_decide_eq_true h2
  · rintro rfl
    rw [Lib.toList_data]; rfl
theorem chain_drop (rs : List Arc) (bs : List Ban) (l : List ByteArray) (fr : ByteArray) (k : Nat) (hk : k < l.length) : chainF rs bs fr (prevOf l k) (l.drop k) = if arcI rs l[k] < 0 then 8 else if fr ≠ ByteArray.empty ∧ (arcAt rs l[k]).from_ ≠ fr then 3 else if prevBan bs (prevOf l k) l[k] then 16 else chainF rs bs (arcAt rs l[k]).to_ (prevOf l (k + 1)) (l.drop (k + 1)) := by
  rw [List.drop_eq_getElem_cons hk, chainF]
  have e : prevOf l (k + 1) = some l[k] := by unfold prevOf; simp [List.getElem?_eq_getElem hk]
  rw [e]
set_option maxRecDepth 100000 in
set_option maxHeartbeats 4000000 in
theorem w_chainFault {w : World} {g lo : Nat} {A B C : Option Addr} {ca cb cc : Nat} {ns : List Node} {rs : List Arc} {bs : List Ban} (h : BoxR w g lo A B C ca cb cc ns rs bs) (hsA : SortA rs) (hsB : bs.Pairwise fun a b => banC a b < 0)
    (fr : ByteArray) (lo2 : Nat) (D : Option Addr) (cd : Nat) (l : List ByteArray) (hR : Rd w lo2 D 1 encS l) (hl : l.length ≤ 1000) :
    Calls Tryz.prog 53 #[.pointer (some ⟨g, 0, none⟩), .string fr, .slice D l.length cd] w fun e w' => e = .returned (.int .i64 (chainF rs bs fr none l)) ∧ Nx w w' := by
  have HAR := hide (fun s W (hx : Nx w W) => w_arcR g lo B cb rs s W (h.nx hx).g1 (h.nx hx).hA.1 (by have := h.al; omega) hsA)
  have HBN := hide (fun f t W (hx : Nx w W) => w_bannedR (h.nx hx) hsB f t)
  have HRA := hide h.hA.1
  have HR := hide hR
  have hg1 := h.g1
  have hgl := h.gl
  have hal := h.al
  clear h hR hsA hsB
  generalize hn : l.length = n at *
  generalize hm : rs.length = m at *
  have HN := hide hn
  have HM := hide hm
  clear hn hm
  obtain ⟨V, hV⟩ : ∃ V, V = chainF rs bs fr none l := ⟨_, rfl⟩
  rw [← hV]
  have HV := hide hV
  clear hV
  have tl : decide ((n : Int) > 2000) = false := decide_eq_false (by omega)
  have tl2 : decide ((2000 : Int) < (n : Int)) = false := decide_eq_false (by omega)
  go_enter Tryz.func53, Tryz.ntmps53
  go_wp2_with fail
  go_loopw [1, 16] (fun vf i wr => ∃ (k : Nat) (f : ByteArray), k ≤ n ∧ vf = .string f ∧ i = .int .i64 k ∧ Nx w wr ∧ V = chainF rs bs f (prevOf l k) (l.drop k)) (fun _ i _ => n - (intOf i).toNat)
  case atStart => exact ⟨0, fr, Nat.zero_le _, rfl, rfl, Nx.refl _, HV.out⟩
  case round =>
    obtain ⟨k, f, hk, rfl, rfl, hbw, hq⟩ := hrel
    have HQ := hide hq
    clear hq
    by_cases hlt : k < n
    · have hlt' : k < l.length := by have := HN.out; omega
      have HD := hide (chain_drop rs bs l f k hlt')
      obtain ⟨b, off, rfl, _, hb, hbr, hc⟩ := HR.out.open_ hbw (by have := HN.out; omega)
      have c0 : wr.cell? ⟨b, off + k, none⟩ = some (.string l[k]) := by have := hc k hlt' 0 _ rfl; simpa using this
      have HPC := hide (fun h0 : 0 < k => (show wr.cell? ⟨b, off + (k - 1), none⟩ = some (.string (l[k - 1]'(by omega))) by have := hc (k - 1) (by omega) 0 _ rfl; simpa using this))
      have HPV := hide (fun h0 : 0 < k => (show prevBan bs (prevOf l k) l[k] = bannedB bs (l[k - 1]'(by omega)) l[k] by rw [prevOf_pos _ k h0 (by omega)]; rfl))
      have HP0 := hide (fun h0 : k = 0 => (show prevBan bs (prevOf l k) l[k] = false by rw [show prevOf l k = none by subst h0; rfl]; rfl))
      clear hc
      generalize l[k] = s at *
      generalize prevBan bs (prevOf l k) s = pb at *
      by_cases hf : arcI rs s < 0
      · have tf : decide (arcI rs s < 0) = true := decide_eq_true hf
        have HG := hide (HD.out.trans (if_pos hf))
        clear hf
        go_wp2_with (go_at_call 37; refine (HAR.out s _ hbw).mono ?_; rintro e w2 ⟨rfl, hn2⟩)
        go_ret
        exact ⟨ret_int (by rw [HQ.out, HG.out]), hbw.trans hn2⟩
      obtain ⟨i, hi, ei⟩ : ∃ i : Nat, i < rs.length ∧ arcI rs s = (i : Int) := by
        rcases findI_bd (fun n : Arc => decide (n.key = s)) rs with h | h
        · exact absurd (show arcI rs s < 0 by unfold arcI; omega) hf
        · exact h
      have tf : decide (arcI rs s < 0) = false := decide_eq_false hf
      have ha : arcAt rs s = rs[i] := by
        unfold arcAt
        rw [ei, List.getD_eq_getElem?_getD, List.getElem?_eq_getElem (show (i : Int).toNat < rs.length from hi)]
        rfl
      have HG := hide (HD.out.trans (if_neg hf))
      rw [ha] at HG
      have HARs := hide (fun W hx => HAR.out s W hx)
      rw [ei] at HARs tf
      clear hf ei HD
      have him : i < m := by have := HM.out; omega
      go_wp2_with fail
      refine (HARs.out _ hbw).mono ?_
      rintro e w2 ⟨rfl, hn2⟩
      have hnx2 := hbw.trans hn2
      have gg1 := nx_cell hnx2 hgl hg1
      obtain ⟨ba, offa, rfl, _, hba, hbar, hca⟩ := HRA.out.open_ hnx2 (by omega)
      have a0 : w2.cell? ⟨ba, offa + i * 5, none⟩ = some (.string rs[i].key) := hca i hi 0 _ rfl
      have a1 : w2.cell? ⟨ba, offa + i * 5 + 1, none⟩ = some (.string rs[i].from_) := hca i hi 1 _ rfl
      have a2 : w2.cell? ⟨ba, offa + i * 5 + 2, none⟩ = some (.string rs[i].to_) := hca i hi 2 _ rfl
      have a3 : w2.cell? ⟨ba, offa + i * 5 + 3, none⟩ = some (.int .i64 rs[i].long) := hca i hi 3 _ rfl
      have a4 : w2.cell? ⟨ba, offa + i * 5 + 4, none⟩ = some (.slice rs[i].ka rs[i].knots.length rs[i].kc) := hca i hi 4 _ rfl
      have HPC2 := hide (fun h0 : 0 < k => nx_cell hn2 hbr (HPC.out h0))
      have hb2 := Nat.lt_of_lt_of_le hbr hn2.sz
      clear hca c0 HPC
      generalize rs[i] = x at *
      generalize x.knots.length = xn at *
      have t0 : decide ((i : Int) < 0) = false := decide_eq_false (by omega)
      go_upto_region 10 with fail
      obtain ⟨wk, hwk⟩ : ∃ wk, wk = w2.alloc (.cells #[.string x.key, .string x.from_, .string x.to_, .int .i64 x.long, .slice x.ka xn x.kc] 38) := ⟨_, rfl⟩
      have hnk : Nx w2 wk := hwk ▸ (Nx.refl w2).alloc _
      have hsk : w2.heap.size < wk.heap.size := by rw [hwk]; simp
      have d1 : wk.cell? ⟨w2.heap.size, 1, none⟩ = some (.string x.from_) := by rw [hwk]; go_simp
      have d2 : wk.cell? ⟨w2.heap.size, 2, none⟩ = some (.string x.to_) := by rw [hwk]; go_simp
      rw [← hwk]
      have HWK := hide hwk
      clear hwk a0 a1 a2 a3 a4
      have hnxk := hnx2.trans hnk
      go_cut [40] (fun v wx => ∃ bb : Bool, v = .bool bb ∧ bb = decide (f ≠ ByteArray.empty ∧ x.from_ ≠ f) ∧ wk = wx)
      case first =>
        by_cases hc1 : f = ByteArray.empty
        · have e1 : f.toList = [] := (emptyL f).2 hc1
          have HC := hide hc1
          clear hc1
          go_wp2_with fail
          go_meet
          exact ⟨_, rfl, by rw [decide_eq_false (fun h => h.1 HC.out)], rfl⟩
        · have e1 : ¬ f.toList = [] := fun h => hc1 ((emptyL f).1 h)
          have HC := hide hc1
          clear hc1
          by_cases hc2 : x.from_ = f
          · have e2 : (x.from_.toList == f.toList) = true := by rw [eqS_iff]; exact decide_eq_true hc2
            have HC2 := hide hc2
            clear hc2
            go_wp2_with fail
            go_meet
            exact ⟨_, rfl, by rw [decide_eq_false (fun h => h.2 HC2.out)], rfl⟩
          · have e2 : (x.from_.toList == f.toList) = false := by rw [eqS_iff]; exact decide_eq_false hc2
            have HC2 := hide hc2
            clear hc2
            go_wp2_with fail
            go_meet
            exact ⟨_, rfl, by rw [decide_eq_true ⟨HC.out, HC2.out⟩]; first | rfl | simp [e1], rfl⟩
      case rest =>
        obtain ⟨bb, rfl, hbb, rfl⟩ := hcut
        have HBB := hide hbb
        clear hbb
        rcases Bool.eq_false_or_eq_true bb with rfl | rfl
        · have HG2 := hide (HG.out.trans (if_pos (of_decide_eq_true HBB.out.symm)))
          go_wp2_with fail
          go_ret
          exact ⟨ret_int (by rw [HQ.out, HG2.out]), hnxk⟩
        · have HG2 := hide (HG.out.trans (if_neg (of_decide_eq_false HBB.out.symm)))
          have HPC3 := hide (fun h0 : 0 < k => nx_cell hnk hb2 (HPC2.out h0))
          clear HG HBB HPC2
          go_upto_region 12 with fail
          go_cut [52] (fun v wx => v = .bool pb ∧ Nx wk wx)
          case first =>
            by_cases hk0 : 0 < k
            · have hp := HPC3.out hk0
              have hpv := HPV.out hk0
              generalize (l[k - 1]'(by omega)) = p0 at *
              have k1 : IntKind.i64.wrap ((k : Int) - 1) = (k : Int) - 1 := IntWalk.i64_in _ (by omega)
              have k2 : (1 : Int) ≤ (k : Int) := by omega
              have k3 : ((k : Int) - 1).toNat = k - 1 := by omega
              have k4 : (k : Int) - 1 < (n : Int) := by omega
              have kp : decide ((k : Int) > 0) = true := decide_eq_true (by omega)
              have kp2 : decide ((0 : Int) < (k : Int)) = true := decide_eq_true (by omega)
              have hB2 := HBN.out p0 s _ hnxk
              rw [← hpv] at hB2
              have HB2 := hide hB2
              clear hB2 hpv
              go_wp2_with (go_at_call 75; refine HB2.out.mono ?_; rintro e w4 ⟨rfl, hn4⟩)
              go_meet
              exact ⟨rfl, hn4⟩
            · have kp : decide ((k : Int) > 0) = false := decide_eq_false (by omega)
              have kp2 : decide ((0 : Int) < (k : Int)) = false := decide_eq_false (by omega)
              have hb0 := HP0.out (by omega)
              go_wp2_with fail
              go_meet
              exact ⟨by rw [hb0], Nx.refl _⟩
          case rest =>
            obtain ⟨rfl, hx⟩ := hcut
            have e2 := nx_cell hx hsk d2
            clear d1 d2
            cases hpb : pb
            · rw [hpb, if_neg (by simp)] at HG2
              go_wp2_with fail
              go_roundw
              case rel => exact ⟨k + 1, x.to_, by omega, rfl, by go_num, hnxk.trans hx, by rw [HQ.out, HG2.out]⟩
              case measure => simp [intOf]; omega
            · rw [hpb, if_pos rfl] at HG2
              go_wp2_with fail
              go_ret
              exact ⟨ret_int (by rw [HQ.out, HG2.out]), hnxk.trans hx⟩
    · go_wp2
      go_ret
      exact ⟨ret_int (by rw [HQ.out, List.drop_of_length_le (by have := HN.out; omega)]; rfl), hbw⟩
end Go.Proofs.YtbhlldpmklkeoaaGreatDoor
/- How long arcs are: the program. -/
namespace Go.Proofs.YtbhlldpmklkeoaaGreatDoor
open Go.RowKit

def lenF (ns : List Node) (rs : List Arc) (bs : List Ban) (l : List ByteArray) : Int := if roadsF ns rs bs = 0 then chainF rs bs ByteArray.empty none l else roadsF ns rs bs
def lenI (ns : List Node) (rs : List Arc) (bs : List Ban) (l : List ByteArray) : Int := if lenF ns rs bs l = 0 then lengthI rs l else 0
theorem chain_ok (rs : List Arc) (bs : List Ban) : ∀ (l : List ByteArray) (fr : ByteArray) (p : Option ByteArray), chainF rs bs fr p l = 0 → ∀ k ∈ l, 0 ≤ arcI rs k
  | [], _, _, _ => fun _ h => absurd h (by simp)
  | s :: l, fr, p, h => by
    unfold chainF at h
    split at h
    · exact absurd h (by decide)
    rename_i h1
    split at h
    · exact absurd h (by decide)
    split at h
    · exact absurd h (by decide)
    intro k hk
    rcases List.mem_cons.1 hk with rfl | hk
    · omega
    · exact chain_ok rs bs l _ _ h k hk
theorem arc_found {rs : List Arc} {s : ByteArray} (h : 0 ≤ arcI rs s) : ∃ i : Nat, i < rs.length ∧ arcI rs s = (i : Int) ∧ ∀ hi : i < rs.length, arcAt rs s = rs[i] := by
  rcases findI_bd (fun n : Arc => decide (n.key = s)) rs with h1 | ⟨i, hi, e⟩
  · exact absurd h (by unfold arcI; omega)
  · refine ⟨i, hi, e, fun _ => ?_⟩
    unfold arcAt
    rw [show arcI rs s = (i : Int) from e, List.getD_eq_getElem?_getD, List.getElem?_eq_getElem (show (i : Int).toNat < rs.length from hi)]
    rfl
theorem long_bd {ns : List Node} {rs : List Arc} (h : chk (arcF ns) none rs = 0) : ∀ x ∈ rs, 1 ≤ x.long ∧ x.long ≤ 1000000 :=
  chk_all (F := arcF ns) (fun _ _ hx => outB_false.1 (arcG_ok (arcF_ok hx).2).2.2.2.1) rs none h
theorem knots_ok {ns : List Node} {rs : List Arc} (h : chk (arcF ns) none rs = 0) : ∀ x ∈ rs, KOk x.knots :=
  chk_all (F := arcF ns) (fun _ _ hx => knotsF_chk (arcG_ok (arcF_ok hx).2).2.2.2.2) rs none h
theorem length_drop (rs : List Arc) (l : List ByteArray) (k : Nat) (hk : k < l.length) : lengthI rs (l.drop k) = (arcAt rs l[k]).long + lengthI rs (l.drop (k + 1)) := by
  rw [List.drop_eq_getElem_cons hk, lengthI]

set_option maxRecDepth 100000 in
set_option maxHeartbeats 4000000 in
theorem w_Length (lo : Nat) (A B C : Option Addr) (ca cb cc : Nat) (ns : List Node) (rs : List Arc) (bs : List Ban) (lo2 : Nat) (D : Option Addr) (cd : Nat) (l : List ByteArray) (w : World)
    (hN : Rd w lo A 3 encNode ns) (hS : SmallN ns) (hnl : ns.length ≤ 400) (hA : RdArcs w lo B rs) (hal : rs.length ≤ 400) (hB : Rd w lo C 2 encBan bs) (hbl : bs.length ≤ 400) (hR : Rd w lo2 D 1 encS l) (hl : l.length ≤ 100) :
    Calls Tryz.prog 18 #[.agg #[.slice A ns.length ca, .slice B rs.length cb, .slice C bs.length cc], .slice D l.length cd] w fun e w' => e = .returned (.tuple #[.int .i64 (lenI ns rs bs l), .int .i64 (lenF ns rs bs l)]) ∧ Nx w w' := by
  obtain ⟨wa, hwa⟩ : ∃ wa, wa = w.alloc (.cells #[.slice A ns.length ca, .slice B rs.length cb, .slice C bs.length cc] 30) := ⟨_, rfl⟩
  have hna : Nx w wa := hwa ▸ (Nx.refl w).alloc _
  have hgw : w.heap.size < wa.heap.size := by rw [hwa]; simp
  have b0 : wa.cell? ⟨w.heap.size, 0, none⟩ = some (.slice A ns.length ca) := by rw [hwa]; go_simp
  have b1 : wa.cell? ⟨w.heap.size, 1, none⟩ = some (.slice B rs.length cb) := by rw [hwa]; go_simp
  have b2 : wa.cell? ⟨w.heap.size, 2, none⟩ = some (.slice C bs.length cc) := by rw [hwa]; go_simp
  have hBox : BoxR wa w.heap.size lo A B C ca cb cc ns rs bs := ⟨b0, b1, b2, hgw, hN.nx hna, hA.nx hna, hB.nx hna, hnl, hal, hbl⟩
  have HCR := hide (w_CheckRoads lo lo lo A B C ca cb cc ns rs bs wa (hN.nx hna) hS hnl (hA.nx hna) hal (hB.nx hna) hbl)
  have HRA := hide (hA.nx hna).1
  have HRL := hide (hR.nx hna)
  have HLI := hide (show lenI ns rs bs l = if lenF ns rs bs l = 0 then lengthI rs l else 0 from rfl)
  by_cases hF : roadsF ns rs bs = 0
  · obtain ⟨o1, o2, o3⟩ := roads_ok hF
    have HAR := hide (fun s W (hx : Nx wa W) => w_arcR w.heap.size lo B cb rs s W (hBox.nx hx).g1 (hBox.nx hx).hA.1 (by omega) (sortA_of o2))
    have HCF := hide (fun W (hx : Nx wa W) => w_chainFault (hBox.nx hx) (sortA_of o2) (chkB_sorted rs bs none o3).1 ByteArray.empty lo2 D cd l ((hR.nx hna).nx hx) (by omega))
    have HLB := hide (long_bd o2)
    have HLF := hide (show lenF ns rs bs l = chainF rs bs ByteArray.empty none l by unfold lenF; rw [if_pos hF])
    rw [hF] at HCR
    have HOK := hide (chain_ok rs bs l ByteArray.empty none)
    have HTOT := hide (rfl : lengthI rs l = lengthI rs l)
    clear hN hS hA hB hR hBox hF o1 o2 o3
    generalize lenF ns rs bs l = F at *
    generalize lenI ns rs bs l = I at *
    generalize hn : l.length = n at *
    generalize hm : rs.length = m at *
    have HN := hide hn
    have HM := hide hm
    clear hn hm
    obtain ⟨T, hT⟩ : ∃ T, T = lengthI rs l := ⟨_, rfl⟩
    rw [← hT] at HLI
    have HT := hide hT
    clear hT HTOT
    go_enter Tryz.func18, Tryz.ntmps18
    go_wp2_with fail
    rw [← hwa]
    refine HCR.out.mono ?_
    rintro e w1 ⟨rfl, hn1⟩
    have HWA := hide hwa
    clear hwa HCR b0 b2
    generalize w.heap.size = g at *
    have b1' := nx_cell hn1 hgw b1
    go_wp2_with fail
    refine (HCF.out _ hn1).mono ?_
    rintro e w2 ⟨rfl, hn2⟩
    have hn12 := hn1.trans hn2
    by_cases hc : chainF rs bs ByteArray.empty none l = 0
    · rw [hc]
      have HOK2 := hide (HOK.out hc)
      have hF0 : F = 0 := HLF.out.trans hc
      clear hc b1' HCF HOK HLF
      go_wp2_with fail
      go_loopw [8, 23] (fun va i wr => ∃ (k : Nat) (a : Int), k ≤ n ∧ va = .int .i64 a ∧ i = .int .i64 k ∧ Nx wa wr ∧ a + lengthI rs (l.drop k) = T ∧ 0 ≤ a ∧ a ≤ 1000000 * k) (fun _ i _ => n - (intOf i).toNat)
      case atStart => exact ⟨0, 0, Nat.zero_le _, rfl, rfl, hn12, by rw [HT.out, List.drop_zero]; omega, by omega, by omega⟩
      case round =>
        obtain ⟨k, a, hk, rfl, rfl, hbw, hq, ha1, ha2⟩ := hrel
        have HQ := hide hq
        clear hq
        by_cases hlt : k < n
        · have hlt' : k < l.length := by have := HN.out; omega
          have HD := hide (length_drop rs l k hlt')
          obtain ⟨b, off, rfl, _, hb, hbr, hc⟩ := HRL.out.open_ hbw (by have := HN.out; omega)
          have c0 : wr.cell? ⟨b, off + k, none⟩ = some (.string l[k]) := by have := hc k hlt' 0 _ rfl; simpa using this
          obtain ⟨i, hi, ei, hai⟩ := arc_found (HOK2.out l[k] (List.getElem_mem hlt'))
          have ha := hai hi
          have hARs := fun W hx => HAR.out l[k] W hx
          rw [ei] at hARs
          have HARs := hide hARs
          rw [ha] at HD
          clear hc hai ha ei hARs
          generalize l[k] = s at *
          have him : i < m := by have := HM.out; omega
          have gg1 := nx_cell hbw hgw b1
          have hgr := Nat.lt_of_lt_of_le hgw hbw.sz
          obtain ⟨ba, offa, rfl, _, hba, hbar, hca⟩ := HRA.out.open_ hbw (by omega)
          have a3 : wr.cell? ⟨ba, offa + i * 5 + 3, none⟩ = some (.int .i64 rs[i].long) := hca i hi 3 _ rfl
          have hlb := HLB.out rs[i] (List.getElem_mem hi)
          clear hca
          generalize rs[i].long = z at *
          have i1 : (0 : Int) ≤ (i : Int) := by omega
          have i2 : (i : Int) < (m : Int) := by omega
          have q1 : IntKind.i64.wrap (a + z) = a + z := IntWalk.i64_in _ (by omega)
          go_upto_region 11 with fail
          go_region_held3 (fun w' => w'.cell? ⟨g, 1, none⟩ = some (.slice (some ⟨ba, offa, none⟩) m cb) ∧ w'.cell? ⟨ba, offa + i * 5 + 3, none⟩ = some (.int .i64 z))
            (first | (go_split_ands; exact ⟨nx_cell hn4 hgr ‹_›, nx_cell hn4 hbar ‹_›⟩) | go_keep)
            (first | (go_at_call 37; refine (HARs.out _ hbw.drew).mono ?_; rintro e w4 ⟨rfl, hn4⟩))
          go_wp2_with fail
          go_roundw
          case rel => exact ⟨k + 1, a + z, by omega, rfl, by go_num, hbw.trans ((Nx.refl wr).drew.trans hn4), by have := HQ.out; rw [HD.out] at this; omega, by omega, by omega⟩
          case measure => simp [intOf]; omega
        · have hT : a = T := by
            have := HQ.out
            rw [List.drop_of_length_le (by have := HN.out; omega)] at this
            show a = T
            have e : lengthI rs [] = 0 := rfl
            omega
          go_wp2_with fail
          go_ret2
          exact ⟨by rw [HLI.out, hF0, hT]; rfl, hna.trans hbw⟩
    · have tz : (chainF rs bs ByteArray.empty none l != 0) = true := by simpa using hc
      have HZ := hide hc
      clear hc b1'
      go_wp2_with fail
      go_ret2
      exact ⟨by rw [HLI.out, HLF.out, if_neg HZ.out]; rfl, hna.trans hn12⟩
  · have HLF := hide (show lenF ns rs bs l = roadsF ns rs bs by unfold lenF; rw [if_neg hF])
    have tz : (roadsF ns rs bs != 0) = true := by simpa using hF
    have HZ := hide hF
    clear hN hS hA hB hR hBox hF
    generalize lenF ns rs bs l = F at *
    generalize lenI ns rs bs l = I at *
    go_enter Tryz.func18, Tryz.ntmps18
    go_wp2_with fail
    rw [← hwa]
    refine HCR.out.mono ?_
    rintro e w1 ⟨rfl, hn1⟩
    go_wp2_with fail
    go_ret2
    exact ⟨by rw [HLI.out, HLF.out, if_neg HZ.out]; rfl, hna.trans hn1⟩
end Go.Proofs.YtbhlldpmklkeoaaGreatDoor
