/- Knots: rows, clones. -/
import Derived.Test.YtbhlldpmklkeoaaGreatDoorQG0
import Derived.Test.YtbhlldpmklkeoaaGreatDoorQStrS
import Derived.Test.YtbhlldpmklkeoaaGreatDoorQCheckR
import Derived.Deep.Onto
namespace Go.Proofs.YtbhlldpmklkeoaaGreatDoor
open Go.RowKit Go.Proofs Go.Shelf

theorem el_Knot : ElemOf Tryz.prog 36 68 2 16 := ElemOf.mk' (z := .agg #[.int .i64 0, .int .i64 0]) Tryz.underlying36 (by kernel_rfl) rfl
theorem encKnot_one (x : Knot) : ∀ v ∈ encKnot x, v.oneCell' = true := by
  intro v hv; simp [encKnot] at hv; rcases hv with rfl | rfl <;> rfl
set_option maxRecDepth 100000 in
set_option maxHeartbeats 400000 in
theorem w_CloneK (lo : Nat) (A : Option Addr) (c : Nat) (l : List Knot) (w : World) (hR : Rd w lo A 2 encKnot l) (hl : l.length ≤ 100000) :
    Calls Tryz.prog 49 #[.slice A l.length c] w fun e w' => ∃ v, e = .returned v ∧ w'.ownsRow w.heap.size 68 2 v l.length (l.flatMap encKnot) ∧ Nx w w' := by
  have q22 : ∀ (w : World) (a : Option Addr) (n c n' c' : Nat), (binOp .eql 36 (.slice a n c) (.slice none n' c')).run Tryz.prog w = .ok (.bool a.isNone) w := fun w a n c n' c' => Lib.run_eql_slice_nil w _ _ a n c n' c' Tryz.underlying36
  cases A with
  | none =>
    have hy : l = [] := by
      rcases l with _ | ⟨y, l⟩
      · rfl
      · obtain ⟨b, off, e, _⟩ := hR (by simp); cases e
    subst hy
    go_enter Tryz.func49, Tryz.ntmps49
    go_wp2
    go_ret
    exact ⟨_, rfl, World.ownsRow_nil _ _ _ _, Nx.refl _⟩
  | some a =>
    have hst := own_lit (w := w.alloc (.cells #[] 68)) (e := 68) (g := w.heap.size) (n := 0) (m := 0) (base := w.heap.size) (xs := ([] : List Knot)) encKnot_len (hnew rfl) (Nat.le_refl _) rfl rfl (Nat.le_refl _) (by unfold maxLen; omega)
    have HST := hide hst
    have HR := hide hR
    clear hst hR
    generalize hn : l.length = n at *
    have HN := hide hn
    clear hn
    go_enter Tryz.func49, Tryz.ntmps49
    go_wp2_with (at_builtin; refine wpAppL rfl _ _ _ rfl el_Knot encKnot encKnot_len encKnot_one (by omega) (by omega) w.heap.size _ [] rfl HST.out (some a) c l (by rw [HN.out]; rfl) (HR.out.nx ((Nx.refl _).alloc _)) (by have := HN.out; simp; omega) (by simp) ?_; intro v2 w2 hown2 hg2)
    go_ret
    rw [List.nil_append, HN.out] at hown2
    refine ⟨_, rfl, hown2, ?_⟩
    exact ((Nx.refl w).alloc _).grown hg2 (own_blk_lt HST.out)

end Go.Proofs.YtbhlldpmklkeoaaGreatDoor
/- Roads in the making. -/
namespace Go.Proofs.YtbhlldpmklkeoaaGreatDoor
open Go.RowKit

theorem el_NodeO : ElemOf Tryz.prog 26 43 3 32 := ElemOf.mk' (z := .agg #[.string ByteArray.empty, .int .i64 0, .int .i64 0]) Tryz.underlying26 (by kernel_rfl) rfl
theorem el_ArcO : ElemOf Tryz.prog 27 38 5 80 := ElemOf.mk' (z := .agg #[.string ByteArray.empty, .string ByteArray.empty, .string ByteArray.empty, .int .i64 0, .slice none 0 0]) Tryz.underlying27 (by kernel_rfl) rfl
theorem el_BanO : ElemOf Tryz.prog 28 70 2 32 := ElemOf.mk' (z := .agg #[.string ByteArray.empty, .string ByteArray.empty]) Tryz.underlying28 (by kernel_rfl) rfl

def rowK (a : Arc) : Value := .slice a.ka a.knots.length a.kc
/-- An arc's strings are small, its knots few. -/
def SmA (a : Arc) : Prop := a.knots.length ≤ 400 ∧ a.key.size ≤ 1000000 ∧ a.from_.size ≤ 1000000 ∧ a.to_.size ≤ 1000000
/-- Three rows of the call's own, and each arc's knots in one. -/
structure OwnR (w : World) (base : Nat) (vN vA vB : Value) (ns : List Node) (rs : List Arc) (bs : List Ban) : Prop where
  rowN : w.ownsRow base 43 3 vN ns.length (ns.flatMap encNode)
  rowA : w.ownsRow base 38 5 vA rs.length (rs.flatMap encArc)
  rowB : w.ownsRow base 70 2 vB bs.length (bs.flatMap encBan)
  each : ∀ a ∈ rs, w.ownsRow base 68 2 (rowK a) a.knots.length (a.knots.flatMap encKnot)
  smN : SmallN ns
  smA : ∀ a ∈ rs, SmA a
section
variable {w w' : World} {base : Nat} {vN vA vB : Value} {ns : List Node} {rs : List Arc} {bs : List Ban}
theorem OwnR.nil (w : World) (base : Nat) : OwnR w base (.slice none 0 0) (.slice none 0 0) (.slice none 0 0) [] [] [] :=
  ⟨World.ownsRow_nil _ _ _ _, World.ownsRow_nil _ _ _ _, World.ownsRow_nil _ _ _ _, (fun _ h => absurd h (by simp)), (fun _ h => absurd h (by simp)), (fun _ h => absurd h (by simp))⟩
theorem OwnR.gr {s : Nat} (h : OwnR w base vN vA vB ns rs bs) (hn : Gr s w w') (hs : s < base) : OwnR w' base vN vA vB ns rs bs :=
  ⟨own_gr h.rowN hn hs, own_gr h.rowA hn hs, own_gr h.rowB hn hs, fun a ha => own_gr (h.each a ha) hn hs, h.smN, h.smA⟩
theorem OwnR.nx (h : OwnR w base vN vA vB ns rs bs) (hn : Nx w w') : OwnR w' base vN vA vB ns rs bs :=
  ⟨own_nx h.rowN hn, own_nx h.rowA hn, own_nx h.rowB hn, fun a ha => own_nx (h.each a ha) hn, h.smN, h.smA⟩
theorem OwnR.low {base' : Nat} (h : OwnR w base vN vA vB ns rs bs) (hb : base' ≤ base) : OwnR w base' vN vA vB ns rs bs :=
  ⟨h.rowN.mono hb, h.rowA.mono hb, h.rowB.mono hb, fun a ha => (h.each a ha).mono hb, h.smN, h.smA⟩
theorem OwnR.appN {v' : Value} {ns' : List Node} (h : OwnR w base vN vA vB ns rs bs) (hg : w.grownBy w' vN.ownBlock) (hown : w'.ownsRow base 43 3 v' ns'.length (ns'.flatMap encNode)) (hs : SmallN ns') : OwnR w' base v' vA vB ns' rs bs :=
  ⟨hown, h.rowA.kept hg (own_apart h.rowA h.rowN (by decide)), h.rowB.kept hg (own_apart h.rowB h.rowN (by decide)), fun a ha => (h.each a ha).kept hg (own_apart (h.each a ha) h.rowN (by decide)), hs, h.smA⟩
theorem OwnR.appA {v' : Value} {rs' : List Arc} (h : OwnR w base vN vA vB ns rs bs) (hg : w.grownBy w' vA.ownBlock) (hown : w'.ownsRow base 38 5 v' rs'.length (rs'.flatMap encArc)) (hk : ∀ a ∈ rs', SmA a ∧ w.ownsRow base 68 2 (rowK a) a.knots.length (a.knots.flatMap encKnot)) : OwnR w' base vN v' vB ns rs' bs :=
  ⟨h.rowN.kept hg (own_apart h.rowN h.rowA (by decide)), hown, h.rowB.kept hg (own_apart h.rowB h.rowA (by decide)), fun a ha => (hk a ha).2.kept hg (own_apart (hk a ha).2 h.rowA (by decide)), h.smN, fun a ha => (hk a ha).1⟩
theorem OwnR.appB {v' : Value} {bs' : List Ban} (h : OwnR w base vN vA vB ns rs bs) (hg : w.grownBy w' vB.ownBlock) (hown : w'.ownsRow base 70 2 v' bs'.length (bs'.flatMap encBan)) : OwnR w' base vN vA v' ns rs bs' :=
  ⟨h.rowN.kept hg (own_apart h.rowN h.rowB (by decide)), h.rowA.kept hg (own_apart h.rowA h.rowB (by decide)), hown, fun a ha => (h.each a ha).kept hg (own_apart (h.each a ha) h.rowB (by decide)), h.smN, h.smA⟩
theorem rd_ownK {K : Nat} {α : Type} {enc : α → List Value} {xs : List α} {e : TypeId} {A : Option Addr} {n c : Nat} (hk : ∀ x, (enc x).length = K) (hn : n = xs.length) (h : w.ownsRow base e K (.slice A n c) n (xs.flatMap enc)) : Rd w base A K enc xs := by
  obtain ⟨A', c', e', hr, _⟩ := Rd.of_own hk hn h
  injection e' with e1 e2 e3
  rw [e1]; exact hr
/-- Read. -/
theorem OwnR.rd (h : OwnR w base vN vA vB ns rs bs) : ∃ A B C ca cb cc, vN = .slice A ns.length ca ∧ vA = .slice B rs.length cb ∧ vB = .slice C bs.length cc ∧ Rd w base A 3 encNode ns ∧ RdArcs w base B rs ∧ Rd w base C 2 encBan bs := by
  obtain ⟨A, ca, e1, r1, _⟩ := Rd.of_own encNode_len rfl h.rowN
  obtain ⟨B, cb, e2, r2, _⟩ := Rd.of_own encArc_len rfl h.rowA
  obtain ⟨C, cc, e3, r3, _⟩ := Rd.of_own encBan_len rfl h.rowB
  exact ⟨A, B, C, ca, cb, cc, e1, e2, e3, r1, ⟨r2, fun a ha => ⟨rd_ownK encKnot_len rfl (h.each a ha), (h.smA a ha).1, (h.smA a ha).2.1⟩⟩, r3⟩
end

def nLs : List ByteArray := [⟨#[110, 97]⟩, ⟨#[110, 98]⟩, ⟨#[110, 99]⟩, ⟨#[110, 100]⟩, ⟨#[110, 101]⟩]
theorem nLs_small : ∀ x ∈ nLs, x.size ≤ 1000000 := by
  intro x hx
  simp [nLs] at hx
  rcases hx with rfl | rfl | rfl | rfl | rfl <;> decide
/-- The stream's roads in the making: the call began in w0. -/
structure RM (w0 : World) (s : Nat) (w : World) (vN vA vB : Value) (ns : List Node) (rs : List Arc) (bs : List Ban) (K : Nat) : Prop where
  own : OwnR w (w0.heap.size + 3) vN vA vB ns rs bs
  box : w.heap[w0.heap.size + 1]? = some (.cells #[vN, vA, vB] 30 (0, 0))
  res : ∃ cs, w.heap[w0.heap.size]? = some (.cells cs 30 (0, 0)) ∧ cs.size = 3
  lit : w.heap[w0.heap.size + 2]? = some (.cells (nLs.map Value.string).toArray 9 (0, 0))
  gr_ : Gr s w0 w
  str : Str w s K
  slt : s < w0.heap.size
section
variable {w0 w w' : World} {s K K' : Nat} {vN vA vB : Value} {ns : List Node} {rs : List Arc} {bs : List Ban}
theorem RM.gr (h : RM w0 s w vN vA vB ns rs bs K) (hn : Gr s w w') (hS : Str w' s K') : RM w0 s w' vN vA vB ns rs bs K' := by
  have hs := h.slt
  have hl : ∀ g o, w.heap[g]? = some o → g ≠ s → w'.heap[g]? = some o := fun g o hg hne => (World.grownBy.block (row := some s) hn g (Array.getElem?_eq_some_iff.1 hg).1 (by simp; omega)).trans hg
  obtain ⟨cs, h1, h2⟩ := h.res
  exact ⟨h.own.gr hn (by omega), hl _ _ h.box (by omega), ⟨cs, hl _ _ h1 (by omega), h2⟩, hl _ _ h.lit (by omega), h.gr_.trans hn, hS, hs⟩
theorem RM.nx (h : RM w0 s w vN vA vB ns rs bs K) (hn : Nx w w') : RM w0 s w' vN vA vB ns rs bs K := h.gr (Gr.of_nx hn) (h.str.nx hn)
theorem RM.more (h : RM w0 s w vN vA vB ns rs bs K) (hk : K ≤ K') : RM w0 s w vN vA vB ns rs bs K' := { h with str := h.str.more hk }
theorem RM.sz (h : RM w0 s w vN vA vB ns rs bs K) : w0.heap.size + 2 < w.heap.size := (Array.getElem?_eq_some_iff.1 h.lit).1
/-- A row is written, then the box. -/
theorem RM.set {v' : Value} {j : Nat} {b : Option Nat} (h : RM w0 s w vN vA vB ns rs bs K) (hg : w.grownBy w' b) (hb : ∀ k, b = some k → w0.heap.size + 3 ≤ k) {vN' vA' vB' : Value} {ns' : List Node} {rs' : List Arc} {bs' : List Ban}
    (ho : OwnR w' (w0.heap.size + 3) vN' vA' vB' ns' rs' bs') (he : (#[vN, vA, vB] : Array Value).setIfInBounds j v' = #[vN', vA', vB']) :
    RM w0 s (w'.setCell ⟨w0.heap.size + 1, j, none⟩ v') vN' vA' vB' ns' rs' bs' K := by
  have hs := h.slt
  have hl : ∀ g o, w.heap[g]? = some o → g < w0.heap.size + 3 → w'.heap[g]? = some o := fun g o hg2 hne => (World.grownBy.block hg g (Array.getElem?_eq_some_iff.1 hg2).1 (fun e => by have := hb g e.symm; omega)).trans hg2
  have hset : Gr (w0.heap.size + 1) w' (w'.setCell ⟨w0.heap.size + 1, j, none⟩ v') := (Gr.refl _ _).setS (.inl rfl) _
  have hl2 : ∀ g o, w'.heap[g]? = some o → g ≠ w0.heap.size + 1 → (w'.setCell ⟨w0.heap.size + 1, j, none⟩ v').heap[g]? = some o := fun g o hg2 hne => (World.grownBy.block (row := some (w0.heap.size + 1)) hset g (Array.getElem?_eq_some_iff.1 hg2).1 (by simp; omega)).trans hg2
  obtain ⟨cs, h1, h2⟩ := h.res
  refine ⟨ho.gr hset (by omega), ?_, ⟨cs, hl2 _ _ (hl _ _ h1 (by omega)) (by omega), h2⟩, hl2 _ _ (hl _ _ h.lit (by omega)) (by omega), ?_, ?_, hs⟩
  · rw [← he]; exact heap_set (hl _ _ h.box (by omega))
  · exact (h.gr_.grown hg (fun k hk => .inr (by have := hb k hk; omega))).setS (.inr (by show w0.heap.size ≤ w0.heap.size + 1; omega)) _
  · exact (h.str.row hg (fun k hk => by have := hb k hk; omega)).row hset (fun k hk => by injection hk with hk; omega)
theorem RM.cellN (h : RM w0 s w vN vA vB ns rs bs K) : w.cell? ⟨w0.heap.size + 1, 0, none⟩ = some vN := cell_of_row w _ 0 _ _ _ h.box
theorem RM.cellA (h : RM w0 s w vN vA vB ns rs bs K) : w.cell? ⟨w0.heap.size + 1, 1, none⟩ = some vA := cell_of_row w _ 1 _ _ _ h.box
theorem RM.cellB (h : RM w0 s w vN vA vB ns rs bs K) : w.cell? ⟨w0.heap.size + 1, 2, none⟩ = some vB := cell_of_row w _ 2 _ _ _ h.box
theorem RM.blk {b : Option Nat} (h : RM w0 s w vN vA vB ns rs bs K) (hg : w.grownBy w' b) (hb : ∀ k, b = some k → w0.heap.size + 3 ≤ k) : w'.heap[w0.heap.size + 1]? = some (.cells #[vN, vA, vB] 30 (0, 0)) :=
  (World.grownBy.block hg _ (Array.getElem?_eq_some_iff.1 h.box).1 (fun e => by have := hb _ e.symm; omega)).trans h.box
end
theorem frozen_blk {w : World} {g j : Nat} {cs : Array Value} {t : TypeId} (h : w.heap[g]? = some (.cells cs t (0, 0))) : w.frozen? ⟨g, j, none⟩ = false := by simp [World.frozen?, h]
theorem blkA (w : World) (o1 o2 : Obj) : ((w.alloc o1).alloc o2).drew.heap[w.heap.size]? = some o1 := (((Nx.refl (w.alloc o1)).alloc o2).block _ (by simp)).trans (hnew rfl)
theorem blkB (w : World) (o1 o2 : Obj) : ((w.alloc o1).alloc o2).drew.heap[w.heap.size + 1]? = some o2 := hnew_drew (by simp)
end Go.Proofs.YtbhlldpmklkeoaaGreatDoor
/- Roads in the making, once more: the box lies behind the rows. -/
namespace Go.Proofs.YtbhlldpmklkeoaaGreatDoor
open Go.RowKit

theorem own_neU {w : World} {base : Nat} {e t : TypeId} {K n : Nat} {v : Value} {xs : List Value} {G : Nat} {cs : Array Value} (h : w.ownsRow base e K v n xs) (hb : w.heap[G]? = some (.cells cs t (0, 0))) (hne : t ≠ e) : v.ownBlock ≠ some G := by
  rcases h.2 with ⟨rfl, _⟩ | ⟨g, cap, cur, rfl, _, hg, _⟩
  · intro e; cases e
  · intro e
    injection e with e
    subst e
    rw [hb] at hg
    injection hg with hg
    injection hg with _ h2 _
    exact hne h2
section
variable {w w' : World} {base : Nat} {vN vA vB : Value} {ns : List Node} {rs : List Arc} {bs : List Ban}
/-- A block of another type has been written. -/
theorem OwnR.off {g : Nat} {cs : Array Value} {t : TypeId} (h : OwnR w base vN vA vB ns rs bs) (hb : w.heap[g]? = some (.cells cs t (0, 0))) (h1 : t ≠ 43) (h2 : t ≠ 38) (h3 : t ≠ 70) (h4 : t ≠ 68) (hg : w.grownBy w' (some g)) : OwnR w' base vN vA vB ns rs bs :=
  ⟨h.rowN.kept hg (.inr (own_neU h.rowN hb h1)), h.rowA.kept hg (.inr (own_neU h.rowA hb h2)), h.rowB.kept hg (.inr (own_neU h.rowB hb h3)), fun a ha => (h.each a ha).kept hg (.inr (own_neU (h.each a ha) hb h4)), h.smN, h.smA⟩
end
/-- The stream's roads, once they are made: they lie in box g3. -/
structure RQ (w0 : World) (s g3 : Nat) (w : World) (vN vA vB : Value) (ns : List Node) (rs : List Arc) (bs : List Ban) (K : Nat) : Prop where
  own : OwnR w (w0.heap.size + 1) vN vA vB ns rs bs
  box : w.heap[g3]? = some (.cells #[vN, vA, vB] 30 (0, 0))
  res : ∃ cs, w.heap[w0.heap.size]? = some (.cells cs 30 (0, 0)) ∧ cs.size = 3
  gr_ : Gr s w0 w
  str : Str w s K
  slt : s < w0.heap.size
  g3gt : w0.heap.size < g3
section
variable {w0 w w' : World} {s g3 K K' : Nat} {vN vA vB : Value} {ns : List Node} {rs : List Arc} {bs : List Ban}
theorem RQ.gr (h : RQ w0 s g3 w vN vA vB ns rs bs K) (hn : Gr s w w') (hS : Str w' s K') : RQ w0 s g3 w' vN vA vB ns rs bs K' := by
  have hs := h.slt
  have h3 := h.g3gt
  have hl : ∀ g o, w.heap[g]? = some o → g ≠ s → w'.heap[g]? = some o := fun g o hg hne => (World.grownBy.block (row := some s) hn g (Array.getElem?_eq_some_iff.1 hg).1 (by simp; omega)).trans hg
  obtain ⟨cs, h1, h2⟩ := h.res
  exact ⟨h.own.gr hn (by omega), hl _ _ h.box (by omega), ⟨cs, hl _ _ h1 (by omega), h2⟩, h.gr_.trans hn, hS, hs, h3⟩
theorem RQ.nx (h : RQ w0 s g3 w vN vA vB ns rs bs K) (hn : Nx w w') : RQ w0 s g3 w' vN vA vB ns rs bs K := h.gr (Gr.of_nx hn) (h.str.nx hn)
theorem RQ.more (h : RQ w0 s g3 w vN vA vB ns rs bs K) (hk : K ≤ K') : RQ w0 s g3 w vN vA vB ns rs bs K' := { h with str := h.str.more hk }
theorem RQ.sz (h : RQ w0 s g3 w vN vA vB ns rs bs K) : g3 < w.heap.size := (Array.getElem?_eq_some_iff.1 h.box).1
theorem RQ.cellN (h : RQ w0 s g3 w vN vA vB ns rs bs K) : w.cell? ⟨g3, 0, none⟩ = some vN := cell_of_row w _ 0 _ _ _ h.box
theorem RQ.cellA (h : RQ w0 s g3 w vN vA vB ns rs bs K) : w.cell? ⟨g3, 1, none⟩ = some vA := cell_of_row w _ 1 _ _ _ h.box
theorem RQ.cellB (h : RQ w0 s g3 w vN vA vB ns rs bs K) : w.cell? ⟨g3, 2, none⟩ = some vB := cell_of_row w _ 2 _ _ _ h.box
/-- A row has been written: the box is as it was. -/
theorem RQ.row {v : Value} {base n K2 : Nat} {e : TypeId} {xs : List Value} (h : RQ w0 s g3 w vN vA vB ns rs bs K) (ho : w.ownsRow base e K2 v n xs) (hne : 30 ≠ e) (hb : w0.heap.size + 1 ≤ base) (hg : w.grownBy w' v.ownBlock) {vN' vA' vB' : Value} {ns' : List Node} {rs' : List Arc} {bs' : List Ban} (ho' : OwnR w' (w0.heap.size + 1) vN' vA' vB' ns' rs' bs') :
    w'.heap[g3]? = some (.cells #[vN, vA, vB] 30 (0, 0)) ∧ (∃ cs, w'.heap[w0.heap.size]? = some (.cells cs 30 (0, 0)) ∧ cs.size = 3) ∧ Gr s w0 w' ∧ Str w' s K ∧ OwnR w' (w0.heap.size + 1) vN' vA' vB' ns' rs' bs' := by
  have hs := h.slt
  have hbl := own_blk_lt ho
  obtain ⟨cs, h1, h2⟩ := h.res
  exact ⟨(World.grownBy.block hg _ h.sz (fun e => own_neU ho h.box hne e.symm)).trans h.box,
    ⟨cs, (World.grownBy.block hg _ (Array.getElem?_eq_some_iff.1 h1).1 (fun e => own_neU ho h1 hne e.symm)).trans h1, h2⟩,
    h.gr_.grown hg (fun k hk => .inr (by have := hbl k hk; omega)), h.str.row hg (fun k hk => by have := hbl k hk; omega), ho'⟩
/-- .. and then the box's field. -/
theorem RQ.set {v v' : Value} {base n K2 j : Nat} {e : TypeId} {xs : List Value} (h : RQ w0 s g3 w vN vA vB ns rs bs K) (ho : w.ownsRow base e K2 v n xs) (hne : 30 ≠ e) (hb : w0.heap.size + 1 ≤ base) (hg : w.grownBy w' v.ownBlock) {vN' vA' vB' : Value} {ns' : List Node} {rs' : List Arc} {bs' : List Ban} (ho' : OwnR w' (w0.heap.size + 1) vN' vA' vB' ns' rs' bs')
    (he : (#[vN, vA, vB] : Array Value).setIfInBounds j v' = #[vN', vA', vB']) : RQ w0 s g3 (w'.setCell ⟨g3, j, none⟩ v') vN' vA' vB' ns' rs' bs' K := by
  have hs := h.slt
  have h3 := h.g3gt
  obtain ⟨h1, ⟨cs, h2, h2'⟩, h4, h5, h6⟩ := h.row ho hne hb hg ho'
  have hset : Gr g3 w' (w'.setCell ⟨g3, j, none⟩ v') := (Gr.refl g3 w').setS (p := ⟨g3, j, none⟩) (.inl rfl) v'
  refine ⟨h6.off h1 (by decide) (by decide) (by decide) (by decide) hset, ?_, ⟨cs, (World.grownBy.block (row := some g3) hset _ (Array.getElem?_eq_some_iff.1 h2).1 (by simp; omega)).trans h2, h2'⟩, ?_, ?_, hs, h3⟩
  · rw [← he]; exact heap_set h1
  · exact h4.setS (p := ⟨g3, j, none⟩) (.inr (by show w0.heap.size ≤ g3; omega)) v'
  · exact h5.row hset (fun k hk => by injection hk with hk; omega)
end
/-- Region r, wherever it stands. -/
def findReg (r : Nat) : Code → Option Code
  | .region n o b => bif Nat.beq n r then some (.region n o b) else none
  | .seq a b => match findReg r a with | some c => some c | none => findReg r b
  | .cond _ a b => match findReg r a with | some c => some c | none => findReg r b
  | .scope c => findReg r c
  | .block _ c => findReg r c
  | .loop c => findReg r c
  | _ => none
noncomputable def regR (r : Nat) : Code := (findReg r (Tryz.f5.body.getD .skip)).getD .skip
end Go.Proofs.YtbhlldpmklkeoaaGreatDoor
