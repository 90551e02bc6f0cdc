/- Roads in the making. -/
import Derived.Test.YtmpnilliichpfaaGreatDoorQCheckR
import Derived.Test.YtmpnilliichpfaaGreatDoorQG21
import Derived.Deep.Onto
import Derived.Deep.RegionHeld3
import Derived.Deep.DeepCutAuto
import Derived.Test.YtmpnilliichpfaaGreatDoorQG8
import Derived.Test.YtmpnilliichpfaaGreatDoorQKnotR
import Derived.Test.YtmpnilliichpfaaGreatDoorQG11
import Derived.Test.YtmpnilliichpfaaGreatDoorQG1
import Derived.Below
namespace Go.Proofs.YtmpnilliichpfaaGreatDoor
open Go.RowKit

theorem el_NodeO : ElemOf Tryz.prog 26 39 3 32 := ElemOf.mk' (z := .agg #[.string ByteArray.empty, .int .i64 0, .int .i64 0]) Tryz.underlying26 (by kernel_rfl) rfl
theorem el_ArcO : ElemOf Tryz.prog 27 63 5 80 := ElemOf.mk' (z := .agg #[.string ByteArray.empty, .string ByteArray.empty, .string ByteArray.empty, .int .i64 0, .slice none 0 0]) Tryz.underlying27 (by kernel_rfl) rfl
theorem el_BanO : ElemOf Tryz.prog 28 114 2 32 := ElemOf.mk' (z := .agg #[.string ByteArray.empty, .string ByteArray.empty]) Tryz.underlying28 (by kernel_rfl) rfl

def rowK (a : Arc) : Value := .slice a.ka a.knots.length a.kc
/-- An arc's strings are small, its knots few. -/
def SmA (a : Arc) : Prop := a.knots.length ≤ 400 ∧ a.key.size ≤ 1000000 ∧ a.from_.size ≤ 1000000 ∧ a.to_.size ≤ 1000000
/-- Three rows of the call's own, and each arc's knots in one. -/
structure OwnR (w : World) (base : Nat) (vN vA vB : Value) (ns : List Node) (rs : List Arc) (bs : List Ban) : Prop where
  rowN : w.ownsRow base 39 3 vN ns.length (ns.flatMap encNode)
  rowA : w.ownsRow base 63 5 vA rs.length (rs.flatMap encArc)
  rowB : w.ownsRow base 114 2 vB bs.length (bs.flatMap encBan)
  each : ∀ a ∈ rs, w.ownsRow base 112 2 (rowK a) a.knots.length (a.knots.flatMap encKnot)
  smN : SmallN ns
  smA : ∀ a ∈ rs, SmA a
section
variable {w w' : World} {base : Nat} {vN vA vB : Value} {ns : List Node} {rs : List Arc} {bs : List Ban}
theorem OwnR.nil (w : World) (base : Nat) : OwnR w base (.slice none 0 0) (.slice none 0 0) (.slice none 0 0) [] [] [] :=
  ⟨World.ownsRow_nil _ _ _ _, World.ownsRow_nil _ _ _ _, World.ownsRow_nil _ _ _ _, (fun _ h => absurd h (by simp)), (fun _ h => absurd h (by simp)), (fun _ h => absurd h (by simp))⟩
theorem OwnR.gr {s : Nat} (h : OwnR w base vN vA vB ns rs bs) (hn : Gr s w w') (hs : s < base) : OwnR w' base vN vA vB ns rs bs :=
  ⟨own_gr h.rowN hn hs, own_gr h.rowA hn hs, own_gr h.rowB hn hs, fun a ha => own_gr (h.each a ha) hn hs, h.smN, h.smA⟩
theorem OwnR.nx (h : OwnR w base vN vA vB ns rs bs) (hn : Nx w w') : OwnR w' base vN vA vB ns rs bs :=
  ⟨own_nx h.rowN hn, own_nx h.rowA hn, own_nx h.rowB hn, fun a ha => own_nx (h.each a ha) hn, h.smN, h.smA⟩
theorem OwnR.low {base' : Nat} (h : OwnR w base vN vA vB ns rs bs) (hb : base' ≤ base) : OwnR w base' vN vA vB ns rs bs :=
  ⟨h.rowN.mono hb, h.rowA.mono hb, h.rowB.mono hb, fun a ha => (h.each a ha).mono hb, h.smN, h.smA⟩
theorem OwnR.appN {v' : Value} {ns' : List Node} (h : OwnR w base vN vA vB ns rs bs) (hg : w.grownBy w' vN.ownBlock) (hown : w'.ownsRow base 39 3 v' ns'.length (ns'.flatMap encNode)) (hs : SmallN ns') : OwnR w' base v' vA vB ns' rs bs :=
  ⟨hown, h.rowA.kept hg (own_apart h.rowA h.rowN (by decide)), h.rowB.kept hg (own_apart h.rowB h.rowN (by decide)), fun a ha => (h.each a ha).kept hg (own_apart (h.each a ha) h.rowN (by decide)), hs, h.smA⟩
theorem OwnR.appA {v' : Value} {rs' : List Arc} (h : OwnR w base vN vA vB ns rs bs) (hg : w.grownBy w' vA.ownBlock) (hown : w'.ownsRow base 63 5 v' rs'.length (rs'.flatMap encArc)) (hk : ∀ a ∈ rs', SmA a ∧ w.ownsRow base 112 2 (rowK a) a.knots.length (a.knots.flatMap encKnot)) : OwnR w' base vN v' vB ns rs' bs :=
  ⟨h.rowN.kept hg (own_apart h.rowN h.rowA (by decide)), hown, h.rowB.kept hg (own_apart h.rowB h.rowA (by decide)), fun a ha => (hk a ha).2.kept hg (own_apart (hk a ha).2 h.rowA (by decide)), h.smN, fun a ha => (hk a ha).1⟩
theorem OwnR.appB {v' : Value} {bs' : List Ban} (h : OwnR w base vN vA vB ns rs bs) (hg : w.grownBy w' vB.ownBlock) (hown : w'.ownsRow base 114 2 v' bs'.length (bs'.flatMap encBan)) : OwnR w' base vN vA v' ns rs bs' :=
  ⟨h.rowN.kept hg (own_apart h.rowN h.rowB (by decide)), h.rowA.kept hg (own_apart h.rowA h.rowB (by decide)), hown, fun a ha => (h.each a ha).kept hg (own_apart (h.each a ha) h.rowB (by decide)), h.smN, h.smA⟩
theorem rd_ownK {K : Nat} {α : Type} {enc : α → List Value} {xs : List α} {e : TypeId} {A : Option Addr} {n c : Nat} (hk : ∀ x, (enc x).length = K) (hn : n = xs.length) (h : w.ownsRow base e K (.slice A n c) n (xs.flatMap enc)) : Rd w base A K enc xs := by
  obtain ⟨A', c', e', hr, _⟩ := Rd.of_own hk hn h
  injection e' with e1 e2 e3
  rw [e1]; exact hr
/-- Read. -/
theorem OwnR.rd (h : OwnR w base vN vA vB ns rs bs) : ∃ A B C ca cb cc, vN = .slice A ns.length ca ∧ vA = .slice B rs.length cb ∧ vB = .slice C bs.length cc ∧ Rd w base A 3 encNode ns ∧ RdArcs w base B rs ∧ Rd w base C 2 encBan bs := by
  obtain ⟨A, ca, e1, r1, _⟩ := Rd.of_own encNode_len rfl h.rowN
  obtain ⟨B, cb, e2, r2, _⟩ := Rd.of_own encArc_len rfl h.rowA
  obtain ⟨C, cc, e3, r3, _⟩ := Rd.of_own encBan_len rfl h.rowB
  exact ⟨A, B, C, ca, cb, cc, e1, e2, e3, r1, ⟨r2, fun a ha => ⟨rd_ownK encKnot_len rfl (h.each a ha), (h.smA a ha).1, (h.smA a ha).2.1⟩⟩, r3⟩
end

def nLs : List ByteArray := [⟨#[110, 97]⟩, ⟨#[110, 98]⟩, ⟨#[110, 99]⟩, ⟨#[110, 100]⟩, ⟨#[110, 101]⟩]
theorem nLs_small : ∀ x ∈ nLs, x.size ≤ 1000000 := by
  intro x hx
  simp [nLs] at hx
  rcases hx with rfl | rfl | rfl | rfl | rfl <;> decide
/-- The stream's roads in the making: the call began in w0. -/
structure RM (w0 : World) (s : Nat) (w : World) (vN vA vB : Value) (ns : List Node) (rs : List Arc) (bs : List Ban) (K : Nat) : Prop where
  own : OwnR w (w0.heap.size + 3) vN vA vB ns rs bs
  box : w.heap[w0.heap.size + 1]? = some (.cells #[vN, vA, vB] 30 (0, 0))
  res : ∃ cs, w.heap[w0.heap.size]? = some (.cells cs 30 (0, 0)) ∧ cs.size = 3
  lit : w.heap[w0.heap.size + 2]? = some (.cells (nLs.map Value.string).toArray 9 (0, 0))
  gr_ : Gr s w0 w
  str : Str w s K
  slt : s < w0.heap.size
section
variable {w0 w w' : World} {s K K' : Nat} {vN vA vB : Value} {ns : List Node} {rs : List Arc} {bs : List Ban}
theorem RM.gr (h : RM w0 s w vN vA vB ns rs bs K) (hn : Gr s w w') (hS : Str w' s K') : RM w0 s w' vN vA vB ns rs bs K' := by
  have hs := h.slt
  have hl : ∀ g o, w.heap[g]? = some o → g ≠ s → w'.heap[g]? = some o := fun g o hg hne => (World.grownBy.block (row := some s) hn g (Array.getElem?_eq_some_iff.1 hg).1 (by simp; omega)).trans hg
  obtain ⟨cs, h1, h2⟩ := h.res
  exact ⟨h.own.gr hn (by omega), hl _ _ h.box (by omega), ⟨cs, hl _ _ h1 (by omega), h2⟩, hl _ _ h.lit (by omega), h.gr_.trans hn, hS, hs⟩
theorem RM.nx (h : RM w0 s w vN vA vB ns rs bs K) (hn : Nx w w') : RM w0 s w' vN vA vB ns rs bs K := h.gr (Gr.of_nx hn) (h.str.nx hn)
theorem RM.more (h : RM w0 s w vN vA vB ns rs bs K) (hk : K ≤ K') : RM w0 s w vN vA vB ns rs bs K' := { h with str := h.str.more hk }
theorem RM.sz (h : RM w0 s w vN vA vB ns rs bs K) : w0.heap.size + 2 < w.heap.size := (Array.getElem?_eq_some_iff.1 h.lit).1
/-- A row is written, then the box. -/
theorem RM.set {v' : Value} {j : Nat} {b : Option Nat} (h : RM w0 s w vN vA vB ns rs bs K) (hg : w.grownBy w' b) (hb : ∀ k, b = some k → w0.heap.size + 3 ≤ k) {vN' vA' vB' : Value} {ns' : List Node} {rs' : List Arc} {bs' : List Ban}
    (ho : OwnR w' (w0.heap.size + 3) vN' vA' vB' ns' rs' bs') (he : (#[vN, vA, vB] : Array Value).setIfInBounds j v' = #[vN', vA', vB']) :
    RM w0 s (w'.setCell ⟨w0.heap.size + 1, j, none⟩ v') vN' vA' vB' ns' rs' bs' K := by
  have hs := h.slt
  have hl : ∀ g o, w.heap[g]? = some o → g < w0.heap.size + 3 → w'.heap[g]? = some o := fun g o hg2 hne => (World.grownBy.block hg g (Array.getElem?_eq_some_iff.1 hg2).1 (fun e => by have := hb g e.symm; omega)).trans hg2
  have hset : Gr (w0.heap.size + 1) w' (w'.setCell ⟨w0.heap.size + 1, j, none⟩ v') := (Gr.refl _ _).setS (.inl rfl) _
  have hl2 : ∀ g o, w'.heap[g]? = some o → g ≠ w0.heap.size + 1 → (w'.setCell ⟨w0.heap.size + 1, j, none⟩ v').heap[g]? = some o := fun g o hg2 hne => (World.grownBy.block (row := some (w0.heap.size + 1)) hset g (Array.getElem?_eq_some_iff.1 hg2).1 (by simp; omega)).trans hg2
  obtain ⟨cs, h1, h2⟩ := h.res
  refine ⟨ho.gr hset (by omega), ?_, ⟨cs, hl2 _ _ (hl _ _ h1 (by omega)) (by omega), h2⟩, hl2 _ _ (hl _ _ h.lit (by omega)) (by omega), ?_, ?_, hs⟩
  · rw [← he]; exact heap_set (hl _ _ h.box (by omega))
  · exact (h.gr_.grown hg (fun k hk => .inr (by have := hb k hk; omega))).setS (.inr (by show w0.heap.size ≤ w0.heap.size + 1; omega)) _
  · exact (h.str.row hg (fun k hk => by have := hb k hk; omega)).row hset (fun k hk => by injection hk with hk; omega)
theorem RM.cellN (h : RM w0 s w vN vA vB ns rs bs K) : w.cell? ⟨w0.heap.size + 1, 0, none⟩ = some vN := cell_of_row w _ 0 _ _ _ h.box
theorem RM.cellA (h : RM w0 s w vN vA vB ns rs bs K) : w.cell? ⟨w0.heap.size + 1, 1, none⟩ = some vA := cell_of_row w _ 1 _ _ _ h.box
theorem RM.cellB (h : RM w0 s w vN vA vB ns rs bs K) : w.cell? ⟨w0.heap.size + 1, 2, none⟩ = some vB := cell_of_row w _ 2 _ _ _ h.box
theorem RM.blk {b : Option Nat} (h : RM w0 s w vN vA vB ns rs bs K) (hg : w.grownBy w' b) (hb : ∀ k, b = some k → w0.heap.size + 3 ≤ k) : w'.heap[w0.heap.size + 1]? = some (.cells #[vN, vA, vB] 30 (0, 0)) :=
  (World.grownBy.block hg _ (Array.getElem?_eq_some_iff.1 h.box).1 (fun e => by have := hb _ e.symm; omega)).trans h.box
end
theorem frozen_blk {w : World} {g j : Nat} {cs : Array Value} {t : TypeId} (h : w.heap[g]? = some (.cells cs t (0, 0))) : w.frozen? ⟨g, j, none⟩ = false := by simp [World.frozen?, h]
theorem blkA (w : World) (o1 o2 : Obj) : ((w.alloc o1).alloc o2).drew.heap[w.heap.size]? = some o1 := (((Nx.refl (w.alloc o1)).alloc o2).block _ (by simp)).trans (hnew rfl)
theorem blkB (w : World) (o1 o2 : Obj) : ((w.alloc o1).alloc o2).drew.heap[w.heap.size + 1]? = some o2 := hnew_drew (by simp)
end Go.Proofs.YtmpnilliichpfaaGreatDoor
/- The stream's knots. -/
namespace Go.Proofs.YtmpnilliichpfaaGreatDoor
open Go.RowKit Go.Proofs Go.Shelf

/-- Some knots, in a row of the call's own. -/
def StrKnots (s k : Nat) (w : World) (e : Ending) (w' : World) : Prop :=
  ∃ (v : Value) (l : List Knot), e = .returned v ∧ w'.ownsRow w.heap.size 112 2 v l.length (l.flatMap encKnot) ∧ l.length ≤ 8 ∧ Gr s w w' ∧ Str w' s k
theorem int_of_mem {cs : List Value} (h : ∀ v ∈ cs, ∃ z : Int, v = .int .i64 z) {v : Value} (hv : v ∈ cs) : ∃ z : Int, v = .int .i64 z := h v hv

set_option maxRecDepth 100000 in
set_option maxHeartbeats 4000000 in
theorem w_knots (s k : Nat) (w : World) (hS : Str w s k) (hk : k < 700000) :
    Calls Tryz.prog 64 #[.pointer (some ⟨s, 0, none⟩)] w (StrKnots s (k + 20) w) := by
  have hsl := hS.lt
  go_enter Tryz.func64, Tryz.ntmps64
  go_wp2_with fail
  refine (w_Pick _ 5 _ _ _ _ (hS.nx ((Nx.refl _).alloc _)) (by omega) (hnew rfl) (by omega) rfl (by omega) (by omega)).mono ?_
  rintro e w1 ⟨v, hv, rfl, hg1, hS1⟩
  obtain ⟨b0, rfl⟩ : ∃ z : Int, v = .int .i64 z := by simp at hv; rcases hv with h | h | h | h | h <;> exact ⟨_, h⟩
  have hgr1 : Gr s w w1 := ((Gr.refl s w).alloc _).trans hg1
  have hsz1 := hgr1.sz
  have hown0 : (w1.alloc (.cells #[.int .i64 0, .int .i64 b0] 112)).ownsRow w.heap.size 112 2 (.slice (some ⟨w1.heap.size, 0, none⟩) 1 1) ([(⟨0, b0⟩ : Knot)]).length (([(⟨0, b0⟩ : Knot)]).flatMap encKnot) := own_lit (w := w1.alloc (.cells #[.int .i64 0, .int .i64 b0] 112)) (e := 112) (g := w1.heap.size) (n := 1) (m := 1) (base := w.heap.size) (xs := [(⟨0, b0⟩ : Knot)]) encKnot_len (hnew rfl) hsz1 rfl rfl (Nat.le_refl _) (by unfold maxLen; omega)
  have HO0 := hide hown0
  clear hown0 hv hg1
  have hS1s := hS1.lt
  go_wp2_with fail
  refine (w_Pick (w1.heap.size + 1) 4 _ _ _ _ ((hS1.nx ((Nx.refl _).alloc _)).nx ((Nx.refl _).alloc _)) (by omega) (hnew (by simp)) (by omega) rfl (by omega) (by omega)).mono ?_
  rintro e w2 ⟨v, hv, rfl, hg2, hS2⟩
  obtain ⟨a0, rfl⟩ : ∃ z : Int, v = .int .i64 z := by simp at hv; rcases hv with h | h | h | h <;> exact ⟨_, h⟩
  have hgr2 : Gr s (w1.alloc (.cells #[.int .i64 0, .int .i64 b0] 112)) w2 := ((Gr.refl s _).alloc _).trans hg2
  have HO2 := hide (own_gr HO0.out hgr2 hsl)
  have hgw2 : Gr s w w2 := (hgr1.alloc _).trans hgr2
  have hsz2 := hgw2.sz
  clear HO0 hv hg2 hgr2 hgr1 hS1
  go_wp2_with fail
  refine (w_PickI _ [0, 0, 1, 2, 3] _ _ _ _ (hS2.nx ((Nx.refl _).alloc _)) (by omega) (hnew rfl) (by omega) rfl (by simp) (by simp)).mono ?_
  rintro e w3 ⟨m, hm, rfl, hg3, hS3⟩
  obtain ⟨m, hm3, rfl⟩ : ∃ n : Nat, n ≤ 3 ∧ m = (n : Int) := by
    simp at hm
    rcases hm with h | h | h | h
    · exact ⟨0, by omega, h⟩
    · exact ⟨1, by omega, h⟩
    · exact ⟨2, by omega, h⟩
    · exact ⟨3, by omega, h⟩
  have hgr3 : Gr s w2 w3 := ((Gr.refl s _).alloc _).trans hg3
  have HO3 := hide (own_gr HO2.out hgr3 hsl)
  have hgw3 : Gr s w w3 := hgw2.trans hgr3
  clear hm HO2 hg3 hgr3 hgw2 hS2 hsz2
  go_wp2_with fail
  go_loopw [4, 5, 20] (fun v at_ i wr => ∃ (j : Nat) (l : List Knot) (a : Int), j ≤ m ∧ i = .int .i64 j ∧ at_ = .int .i64 a ∧ l.length = j + 1 ∧ wr.ownsRow w.heap.size 112 2 v l.length (l.flatMap encKnot) ∧ Gr s w wr ∧ Str wr s (k + 3 + 2 * j)) (fun _ _ i _ => m - (intOf i).toNat)
  case atStart => exact ⟨0, [⟨0, b0⟩], a0, Nat.zero_le _, rfl, rfl, rfl, HO3.out, hgw3, hS3⟩
  case round =>
    clear HO3 hgw3 hS3
    obtain ⟨j, l, a, hj, rfl, rfl, hll, hown, hgr, hSr⟩ := hrel
    by_cases hlt : j < m
    · obtain ⟨A4, c4, ev, hR4, hA4⟩ := Rd.of_own encKnot_len rfl hown
      have HOW := hide hown
      subst ev
      obtain ⟨b, off, rfl, _, hb, hbr, hc⟩ := hR4.open_ (Nx.refl wr) (by omega)
      have hjl : j < l.length := by omega
      have c0 : wr.cell? ⟨b, off + j * 2, none⟩ = some (.int .i64 l[j].at_) := hc j hjl 0 _ rfl
      have c1 : wr.cell? ⟨b, off + j * 2 + 1, none⟩ = some (.int .i64 l[j].time) := hc j hjl 1 _ rfl
      clear hc hown hR4
      generalize l[j].at_ = x1 at *
      generalize l[j].time = x2 at *
      rw [hll]
      have n1 : IntKind.i64.wrap (((j + 1 : Nat) : Int) - 1) = (j : Int) := by rw [IntWalk.i64_in _ (by omega)]; omega
      have n2 : (j : Int) < ((j + 1 : Nat) : Int) := by omega
      have hsr := hSr.lt
      have hgsz := hgr.sz
      go_upto_region 7 with fail
      obtain ⟨wk, hwk⟩ : ∃ wk, wk = wr.alloc (.cells #[.int .i64 x1, .int .i64 x2] 112) := ⟨_, rfl⟩
      have hnk : Nx wr wk := hwk ▸ (Nx.refl wr).alloc _
      have hsk : wr.heap.size < wk.heap.size := by rw [hwk]; simp
      have d0 : wk.cell? ⟨wr.heap.size, 0, none⟩ = some (.int .i64 x1) := by rw [hwk]; go_simp
      have d1 : wk.cell? ⟨wr.heap.size, 1, none⟩ = some (.int .i64 x2) := by rw [hwk]; go_simp
      rw [← hwk]
      have HWK := hide hwk
      have hSk := hSr.nx hnk
      have hgk := hgr.then_nx hnk
      have HOK := hide (own_nx HOW.out hnk)
      clear hwk c0 c1 hSr hgr HOW
      obtain ⟨bx, hbx⟩ : ∃ bx, bx = wr.heap.size := ⟨_, rfl⟩
      rw [← hbx] at hsk d0 d1 ⊢
      rw [← hbx] at hsr
      have HBX := hide hbx
      clear hbx hnk
      have hsk2 : s < wk.heap.size := by omega
      go_cut [7] (fun v wx => ∃ z : Int, v = .int .i64 z ∧ Gr s wk wx ∧ Str wx s (k + 3 + 2 * j + 1))
      case first =>
        go_region_held3 (fun w' => w'.cell? ⟨bx, 0, none⟩ = some (.int .i64 x1) ∧ w'.cell? ⟨bx, 1, none⟩ = some (.int .i64 x2))
          (first | (go_split_ands; exact ⟨World.grownBy.cell hg4 ‹_› (by simp; omega), World.grownBy.cell hg4 ‹_› (by simp; omega)⟩) | go_keep)
          (first
            | (go_at_call 15; refine (w_Pick wk.heap.size 7 _ _ _ _ (hSk.nx (((Nx.refl wk).alloc _).drew)) (by omega) (hnew_drew rfl) (by omega) rfl (by omega) (by omega)).mono ?_; rintro e w4 ⟨v, hv, rfl, hg4, hS4⟩; (obtain ⟨z, rfl⟩ : ∃ z : Int, v = .int .i64 z := by (simp at hv; rcases hv with h | h | h | h | h | h | h <;> exact ⟨_, h⟩))))
        go_wp2
        go_meet
        exact ⟨_, rfl, (((Gr.refl s wk).alloc _).drew).trans hg4, hS4⟩
      case rest =>
        obtain ⟨z, rfl, hg4, hS4⟩ := hcut
        have e0 := World.grownBy.cell hg4 d0 (by simp; omega)
        have e1 := World.grownBy.cell hg4 d1 (by simp; omega)
        have HO4 := hide (own_gr HOK.out hg4 hsl)
        have hg4w := hgk.trans hg4
        have hgsz4 := hg4w.sz
        clear d0 d1 HOK hg4 hgk hSk
        go_upto_region 8 with fail
        go_cut [57] (fun v wx => ∃ b : Bool, v = .bool b ∧ wc = wx)
        case first =>
          go_wp2_with fail
          all_goals
            go_meet
            exact ⟨_, rfl, rfl⟩
        case rest =>
          obtain ⟨bb, rfl, rfl⟩ := hcut
          go_upto_if 57 with fail
          go_cut [7] (fun v wx => ∃ z : Int, v = .int .i64 z ∧ wc = wx)
          case first =>
            cases bb
            all_goals
              go_wp2_with fail
              go_meet
              exact ⟨_, rfl, rfl⟩
          case rest =>
            obtain ⟨y, rfl, rfl⟩ := hcut
            clear e0 e1
            go_wp2_with (first
              | (at_builtin; refine wpApp rfl _ _ _ rfl el_Knot encKnot encKnot_len encKnot_one (by omega) (by omega) w.heap.size _ l (by rw [hll]; rfl) (HO4.out.alloc _) _ ⟨a, y⟩ _ rfl (hnew rfl) rfl (by omega) (by simp; omega) ?_; intro v5 w5 hown5 hg5)
              | fail)
            have hbl := own_blk_lt HO4.out
            have hS5 := (hS4.nx ((Nx.refl wc).alloc (.cells #[.int .i64 a, .int .i64 y] 112))).row hg5 (fun j hj => by have := hbl j hj; omega)
            have hg5w : Gr s w w5 := (hg4w.alloc _).grown hg5 (fun k hk => .inr (hbl k hk))
            have hs5 := hS5.lt
            have HO5 := hide hown5
            clear hown5 HO4
            refine (w_Pick w5.heap.size 5 _ _ _ _ (hS5.nx ((Nx.refl w5).alloc _)) (by omega) (hnew rfl) (by omega) rfl (by omega) (by omega)).mono ?_
            rintro e w6 ⟨v, hv, rfl, hg6, hS6⟩
            obtain ⟨z2, rfl⟩ : ∃ z : Int, v = .int .i64 z := by simp at hv; rcases hv with h | h | h | h | h <;> exact ⟨_, h⟩
            have hg56 : Gr s w5 w6 := ((Gr.refl s w5).alloc _).trans hg6
            have HO6 := hide (own_gr HO5.out hg56 hsl)
            go_wp2_with fail
            go_roundw
            case rel => exact ⟨j + 1, l ++ [⟨a, y⟩], _, by omega, by go_num, rfl, by rw [List.length_append, hll]; rfl, HO6.out, hg5w.trans hg56, hS6.more (by omega)⟩
            case measure => simp [intOf]; omega
    · go_wp2_with fail
      go_ret
      exact ⟨_, l, rfl, hown, by omega, hgr, hSr.more (by omega)⟩
end Go.Proofs.YtmpnilliichpfaaGreatDoor
/- Bans: the reference's check. -/
namespace Go.Proofs.YtmpnilliichpfaaGreatDoor
open Go.RowKit

set_option maxRecDepth 100000 in
set_option maxHeartbeats 4000000 in
theorem w_bansFaultQ (lo' lo'' : Nat) (A B C : Option Addr) (nn ca cb cc : Nat) (rs : List Arc) (bs : List Ban) (w : World)
    (hA : RdArcs w lo' B rs) (hal : rs.length ≤ 400) (hB : Rd w lo'' C 2 encBan bs) (hbl : bs.length ≤ 400) :
    Calls Tryz.prog 83 #[.agg #[.slice A nn ca, .slice B rs.length cb, .slice C bs.length cc]] w fun e w' => e = .returned (.int .i64 (chk (banF rs) none bs)) ∧ Nx w w' := by
  obtain ⟨wa, hwa⟩ : ∃ wa, wa = w.alloc (.cells #[.slice A nn ca, .slice B rs.length cb, .slice C bs.length cc] 30) := ⟨_, rfl⟩
  have hna : Nx w wa := hwa ▸ (Nx.refl w).alloc _
  have hgw : w.heap.size < wa.heap.size := by rw [hwa]; simp
  have b0 : wa.cell? ⟨w.heap.size, 0, none⟩ = some (.slice A nn ca) := by rw [hwa]; go_simp
  have b1 : wa.cell? ⟨w.heap.size, 1, none⟩ = some (.slice B rs.length cb) := by rw [hwa]; go_simp
  have b2 : wa.cell? ⟨w.heap.size, 2, none⟩ = some (.slice C bs.length cc) := by rw [hwa]; go_simp
  have HAR := hide (fun s W (hx : Nx wa W) => w_ArcAt lo' A B C nn bs.length ca cb cc rs s W ((hA.1.nx hna).nx hx) (by omega))
  have HRA := hide (hA.nx hna).1
  have HRB := hide (hB.nx hna)
  obtain ⟨V, hV⟩ : ∃ V, V = chk (banF rs) none bs := ⟨_, rfl⟩
  have HRF := hide hV
  rw [← hV]
  clear hA hB hV
  generalize hrl : rs.length = n at *
  generalize hbl' : bs.length = m at *
  have HRL := hide hrl
  have HBL := hide hbl'
  clear hrl hbl'
  have tm : decide ((m : Int) > 1000) = false := decide_eq_false (by omega)
  have tm2 : decide ((1000 : Int) < (m : Int)) = false := decide_eq_false (by omega)
  go_enter Tryz.func83, Tryz.ntmps83
  go_wp2_with fail
  rw [← hwa]
  have HWA := hide hwa
  clear hwa
  have hbw := Nx.refl wa
  generalize w.heap.size = gb at *
  go_wp2_with fail
  go_loopw [14] (fun i wr => ∃ k : Nat, k ≤ m ∧ i = .int .i64 k ∧ Nx wa wr ∧ chk (banF rs) none bs = chk (banF rs) (prevOf bs k) (bs.drop k)) (fun i _ => m - (intOf i).toNat)
  case atStart => exact ⟨0, Nat.zero_le _, rfl, hbw, rfl⟩
  case round =>
    clear hbw
    obtain ⟨k, hk, rfl, hbw, hq⟩ := hrel
    have HQ := hide hq
    clear hq
    by_cases hlt : k < m
    · have hlt' : k < bs.length := by have := HBL.out; omega
      have HD := hide (chk_drop (banF rs) bs k hlt')
      have HV := hide (banF_at rs bs k hlt')
      have HB1 := hide (nx_cell hbw hgw b1)
      have HB2 := hide (nx_cell hbw hgw b2)
      obtain ⟨b, off, rfl, _, hb, hbr, hc⟩ := HRB.out.open_ hbw (by have := HBL.out; omega)
      have c0 : wr.cell? ⟨b, off + k * 2, none⟩ = some (.string bs[k].from_) := hc k hlt' 0 _ rfl
      have c1 : wr.cell? ⟨b, off + k * 2 + 1, none⟩ = some (.string bs[k].to_) := hc k hlt' 1 _ rfl
      have HPC := hide (fun h0 : 0 < k => And.intro (show wr.cell? ⟨b, off + (k - 1) * 2, none⟩ = some (.string (bs[k - 1]'(by omega)).from_) from hc (k - 1) (by omega) 0 _ rfl) (show wr.cell? ⟨b, off + (k - 1) * 2 + 1, none⟩ = some (.string (bs[k - 1]'(by omega)).to_) from hc (k - 1) (by omega) 1 _ rfl))
      have HPV := hide (fun h0 : 0 < k => (show banBad bs k = decide (banC bs[k] (bs[k - 1]'(by omega)) ≤ 0) by
        unfold banBad
        rw [prevOf_pos _ k h0 (by omega), List.getD_eq_getElem?_getD, List.getElem?_eq_getElem hlt']; rfl))
      have HP0 := hide (fun h0 : k = 0 => (show banBad bs k = false by subst h0; rfl))
      clear hc
      generalize bs[k] = x at *
      generalize banBad bs k = bad at *
      go_upto_region 6 with fail
      obtain ⟨wk, hwk⟩ : ∃ wk, wk = wr.alloc (.cells #[.string x.from_, .string x.to_] 114) := ⟨_, rfl⟩
      have hnk : Nx wr wk := hwk ▸ (Nx.refl wr).alloc _
      have hsk : wr.heap.size < wk.heap.size := by rw [hwk]; simp
      have d0 : wk.cell? ⟨wr.heap.size, 0, none⟩ = some (.string x.from_) := by rw [hwk]; go_simp
      have d1 : wk.cell? ⟨wr.heap.size, 1, none⟩ = some (.string x.to_) := by rw [hwk]; go_simp
      rw [← hwk]
      have HWK := hide hwk
      clear hwk c0 c1
      have hnx := hbw.trans hnk
      have hgk := Nat.lt_of_lt_of_le hgw hnx.sz
      have bb0 := nx_cell hnx hgw b0
      have bb1 := nx_cell hnx hgw b1
      have bb2 := nx_cell hnx hgw b2
      obtain ⟨bx, hbx⟩ : ∃ bx, bx = wr.heap.size := ⟨_, rfl⟩
      rw [← hbx] at hsk d0 d1 ⊢
      have HBX := hide hbx
      clear hbx
      generalize hx1 : x.from_ = x1 at *
      generalize hx2 : x.to_ = x2 at *
      have HX := hide (And.intro hx1 hx2)
      clear hx1 hx2
      go_cut [5, 6] (fun v9 v10 wx => v9 = .int .i64 (arcI rs x1) ∧ v10 = .int .i64 (arcI rs x2) ∧ Nx wk wx)
      case first =>
        go_region_held3 (fun w' => w'.cell? ⟨bx, 0, none⟩ = some (.string x1) ∧ w'.cell? ⟨bx, 1, none⟩ = some (.string x2) ∧ w'.cell? ⟨gb, 0, none⟩ = some (.slice A nn ca) ∧ w'.cell? ⟨gb, 1, none⟩ = some (.slice B n cb) ∧ w'.cell? ⟨gb, 2, none⟩ = some (.slice (some ⟨b, off, none⟩) m cc))
          (first | (go_split_ands; exact ⟨nx_cell hn3 (Nat.lt_of_lt_of_le hsk hn2.sz) ‹_›, nx_cell hn3 (Nat.lt_of_lt_of_le hsk hn2.sz) ‹_›, nx_cell hn3 (Nat.lt_of_lt_of_le hgk hn2.sz) ‹_›, nx_cell hn3 (Nat.lt_of_lt_of_le hgk hn2.sz) ‹_›, nx_cell hn3 (Nat.lt_of_lt_of_le hgk hn2.sz) ‹_›⟩) | (go_split_ands; exact ⟨nx_cell hn2 hsk ‹_›, nx_cell hn2 hsk ‹_›, nx_cell hn2 hgk ‹_›, nx_cell hn2 hgk ‹_›, nx_cell hn2 hgk ‹_›⟩) | go_keep)
          (first
            | (go_at_call 59; refine (HAR.out _ _ (hnx.drew.trans hn2)).mono ?_; rintro e w3 ⟨rfl, hn3⟩)
            | (go_at_call 59; refine (HAR.out _ _ hnx.drew).mono ?_; rintro e w2 ⟨rfl, hn2⟩))
        go_wp2
        go_meet
        exact ⟨rfl, rfl, ((Nx.refl wk).drew.trans hn2).trans hn3⟩
      case rest =>
        obtain ⟨rfl, rfl, hx1⟩ := hcut
        have hnx1 := hnx.trans hx1
        clear bb0 bb1 bb2
        have HG := hide (show banG rs x = if arcI rs x1 < 0 ∨ arcI rs x2 < 0 then 8 else if (arcAt rs x1).to_ = (arcAt rs x2).from_ then 0 else 3 by unfold banG; rw [HX.out.1, HX.out.2])
        by_cases hf : arcI rs x1 < 0
        · have tf : decide (arcI rs x1 < 0) = true := decide_eq_true hf
          have HG8 := hide (HG.out.trans (if_pos (.inl hf)))
          clear hf d0 d1
          go_wp2_with fail
          go_ret
          exact ⟨ret_int (by rw [HRF.out, HQ.out, HD.out, HV.out, HG8.out]; rfl), hna.trans hnx1⟩
        by_cases ht : arcI rs x2 < 0
        · have tf : decide (arcI rs x1 < 0) = false := decide_eq_false hf
          have tt : decide (arcI rs x2 < 0) = true := decide_eq_true ht
          have HG8 := hide (HG.out.trans (if_pos (.inr ht)))
          clear hf ht d0 d1
          go_wp2_with fail
          go_ret
          exact ⟨ret_int (by rw [HRF.out, HQ.out, HD.out, HV.out, HG8.out]; rfl), hna.trans hnx1⟩
        obtain ⟨i, hi, ei⟩ : ∃ i : Nat, i < rs.length ∧ arcI rs x1 = (i : Int) := by
          rcases findI_bd (fun n : Arc => decide (n.key = x1)) rs with h | h
          · exact absurd (show arcI rs x1 < 0 by unfold arcI; omega) hf
          · exact h
        obtain ⟨j, hj, ej⟩ : ∃ i : Nat, i < rs.length ∧ arcI rs x2 = (i : Int) := by
          rcases findI_bd (fun n : Arc => decide (n.key = x2)) rs with h | h
          · exact absurd (show arcI rs x2 < 0 by unfold arcI; omega) ht
          · exact h
        have HG2 := hide (show banG rs x = if rs[i].to_ = rs[j].from_ then 0 else 3 by
          rw [HG.out, if_neg (by omega)]
          unfold arcAt
          rw [ei, ej, List.getD_eq_getElem?_getD, List.getD_eq_getElem?_getD, List.getElem?_eq_getElem (show (i : Int).toNat < rs.length from hi), List.getElem?_eq_getElem (show (j : Int).toNat < rs.length from hj)]
          rfl)
        rw [ei, ej]
        clear hf ht HG ei ej
        have B1 := nx_cell hnx1 hgw b1
        obtain ⟨ba, offa, rfl, _, hba, hbar, hca⟩ := HRA.out.open_ hnx1 (by omega)
        have a1 : wc.cell? ⟨ba, offa + i * 5 + 2, none⟩ = some (.string rs[i].to_) := hca i hi 2 _ rfl
        have a2 : wc.cell? ⟨ba, offa + j * 5 + 1, none⟩ = some (.string rs[j].from_) := hca j hj 1 _ rfl
        have hin : i < n := by have := HRL.out; omega
        have hjn : j < n := by have := HRL.out; omega
        have D0 := hide (nx_cell hx1 hsk d0)
        have D1 := hide (nx_cell hx1 hsk d1)
        clear hca d0 d1
        generalize rs[i].to_ = r1 at *
        generalize rs[j].from_ = r2 at *
        go_upto_region 9 with fail
        have i1 : (0 : Int) ≤ (i : Int) := by omega
        have i2 : (i : Int) < (n : Int) := by omega
        have i3 : (0 : Int) ≤ (j : Int) := by omega
        have i4 : (j : Int) < (n : Int) := by omega
        by_cases heq : r1 = r2
        · have te : (r1.toList == r2.toList) = true := by rw [eqS_iff]; exact decide_eq_true heq
          have HG3 := hide (HG2.out.trans (if_pos heq))
          clear heq HG2
          rw [HG3.out, if_pos rfl] at HV
          go_quiet (fail)
          clear i1 i2 i3 i4 a1 a2 te
          go_upto_region 11 with fail
          have hnx2 : Nx wa (wc.drewN nq) := hnx1.drewN _
          have E0 : (wc.drewN nq).cell? ⟨bx, 0, none⟩ = some (.string x1) := D0.out
          have E1 : (wc.drewN nq).cell? ⟨bx, 1, none⟩ = some (.string x2) := D1.out
          have hsk2 : bx < (wc.drewN nq).heap.size := Nat.lt_of_lt_of_le hsk hx1.sz
          have HWK2 := hide (hnk.trans (hx1.drewN nq))
          generalize wc.drewN nq = wd at *
          clear B1 D0 D1
          go_cut [48] (fun v wx => v = .bool bad ∧ Nx wd wx)
          case first =>
            by_cases hk0 : 0 < k
            · have p1 := nx_cell HWK2.out hbr (HPC.out hk0).1
              have p2 := nx_cell HWK2.out hbr (HPC.out hk0).2
              have B2 := nx_cell HWK2.out (Nat.lt_of_lt_of_le hgw hbw.sz) HB2.out
              have hbw2 := Nat.lt_of_lt_of_le hbr HWK2.out.sz
              have hgw2 := Nat.lt_of_lt_of_le (Nat.lt_of_lt_of_le hgw hbw.sz) HWK2.out.sz
              have hpv := HPV.out hk0
              have hxe : x = ⟨x1, x2⟩ := by obtain ⟨h1, h2⟩ := HX.out; rw [← h1, ← h2]
              rw [hxe] at hpv
              have hkz : k - 1 < bs.length := by have := HBL.out; omega
              generalize (bs[k - 1]'(by omega)) = q at *
              obtain ⟨q1, q2⟩ := q
              have k1 : IntKind.i64.wrap ((k : Int) - 1) = (k : Int) - 1 := IntWalk.i64_in _ (by omega)
              have k2 : (1 : Int) ≤ (k : Int) := by omega
              have k3 : ((k : Int) - 1).toNat = k - 1 := by omega
              have k4 : (k : Int) - 1 < (m : Int) := by omega
              have kp : decide ((k : Int) > 0) = true := decide_eq_true (by omega)
              have kp2 : decide ((0 : Int) < (k : Int)) = true := decide_eq_true (by omega)
              have t1 : decide (0 ≤ banC ⟨q1, q2⟩ ⟨x1, x2⟩) = bad := by rw [hpv]; exact decide_eq_decide.2 (banC_anti _ _).symm
              have HOR := hide (fun g c W (hg : W.heap[g]? = some (.cells #[.int .i64 (cmpS q1 x1), .int .i64 (cmpS q2 x2)] 3 (0, 0))) => w_OrI2 _ _ g c W hg)
              rw [show (if cmpS q1 x1 = 0 then cmpS q2 x2 else cmpS q1 x1) = banC ⟨q1, q2⟩ ⟨x1, x2⟩ from rfl] at HOR
              clear hpv
              generalize banC ⟨q1, q2⟩ ⟨x1, x2⟩ = bz at *
              go_region_held3 (fun w' => w'.cell? ⟨bx, 0, none⟩ = some (.string x1) ∧ w'.cell? ⟨bx, 1, none⟩ = some (.string x2) ∧ w'.cell? ⟨b, off + (k - 1) * 2, none⟩ = some (.string q1) ∧ w'.cell? ⟨b, off + (k - 1) * 2 + 1, none⟩ = some (.string q2) ∧ w'.cell? ⟨gb, 2, none⟩ = some (.slice (some ⟨b, off, none⟩) m cc))
                (go_keep)
                (first
                  | (go_at_call 150; refine (w_CompareS _ _ _).mono ?_; rintro e w' ⟨rfl, rfl⟩)
                  | (go_at_call 149; refine (HOR.out _ _ _ (hnew_drew rfl)).mono ?_; rintro e w' ⟨rfl, rfl⟩))
              go_wp2
              go_meet
              exact ⟨rfl, ((Nx.refl wd).alloc _).drew⟩
            · have kp : decide ((k : Int) > 0) = false := decide_eq_false (by omega)
              have kp2 : decide ((0 : Int) < (k : Int)) = false := decide_eq_false (by omega)
              have hb0 := HP0.out (by omega)
              go_quiet (fail)
              go_wp2
              go_meet
              exact ⟨by rw [hb0], (Nx.refl _).drewN _⟩
          case rest =>
            obtain ⟨rfl, hx2⟩ := hcut
            cases hbd : bad
            · rw [hbd, if_neg (by simp)] at HV
              go_wp2_with fail
              go_roundw
              case rel => exact ⟨k + 1, by omega, by go_num, hnx2.trans hx2, by rw [HQ.out, HD.out, HV.out, if_pos rfl]⟩
              case measure => simp [intOf]; omega
            · rw [hbd, if_pos rfl] at HV
              go_wp2_with fail
              go_ret
              exact ⟨ret_int (by rw [HRF.out, HQ.out, HD.out, HV.out]; rfl), hna.trans (hnx2.trans hx2)⟩
        · have te : (r1.toList == r2.toList) = false := by rw [eqS_iff]; exact decide_eq_false heq
          have HG3 := hide (HG2.out.trans (if_neg heq))
          clear heq HG2
          rw [HG3.out] at HV
          go_quiet (fail)
          clear i1 i2 i3 i4
          go_wp2_with fail
          go_ret
          exact ⟨ret_int (by rw [HRF.out, HQ.out, HD.out, HV.out]; rfl), hna.trans (hnx1.drewN _)⟩
    · go_wp2
      go_ret
      exact ⟨ret_int (by rw [HRF.out, HQ.out, List.drop_of_length_le (by have := HBL.out; omega)]; rfl), hna.trans hbw⟩
end Go.Proofs.YtmpnilliichpfaaGreatDoor
/- Roads: the reference's check. -/
namespace Go.Proofs.YtmpnilliichpfaaGreatDoor
open Go.RowKit

def nodeBad (ns : List Node) (k : Nat) : Bool := match prevOf ns k with | some q => strLe (ns.getD k default).key q.key | none => false
theorem nodeF_at (ns : List Node) (k : Nat) (hk : k < ns.length) : nodeF (prevOf ns k) ns[k] = if keyB ns[k].key then (if nodeBad ns k then 7 else ptF ns[k].x ns[k].y) else 5 := by
  have e : ns.getD k default = ns[k] := by rw [List.getD_eq_getElem?_getD, List.getElem?_eq_getElem hk]; rfl
  unfold nodeF nodeBad
  rw [e]
  cases prevOf ns k with
  | none => simp
  | some q => rfl

set_option maxRecDepth 100000 in
set_option maxHeartbeats 4000000 in
theorem w_RoadsFault (lo lo' lo'' : Nat) (A B C : Option Addr) (ca cb cc : Nat) (ns : List Node) (rs : List Arc) (bs : List Ban) (w : World)
    (hN : Rd w lo A 3 encNode ns) (hS : SmallN ns) (hnl : ns.length ≤ 400) (hA : RdArcs w lo' B rs) (hal : rs.length ≤ 400) (hB : Rd w lo'' C 2 encBan bs) (hbl : bs.length ≤ 400) :
    Calls Tryz.prog 20 #[.agg #[.slice A ns.length ca, .slice B rs.length cb, .slice C bs.length cc]] w fun e w' => e = .returned (.int .i64 (roadsF ns rs bs)) ∧ Nx w w' := by
  obtain ⟨wa, hwa⟩ : ∃ wa, wa = w.alloc (.cells #[.slice A ns.length ca, .slice B rs.length cb, .slice C bs.length cc] 30) := ⟨_, rfl⟩
  have hna : Nx w wa := hwa ▸ (Nx.refl w).alloc _
  have hgw : w.heap.size < wa.heap.size := by rw [hwa]; simp
  have b0 : wa.cell? ⟨w.heap.size, 0, none⟩ = some (.slice A ns.length ca) := by rw [hwa]; go_simp
  have b1 : wa.cell? ⟨w.heap.size, 1, none⟩ = some (.slice B rs.length cb) := by rw [hwa]; go_simp
  have b2 : wa.cell? ⟨w.heap.size, 2, none⟩ = some (.slice C bs.length cc) := by rw [hwa]; go_simp
  have HND := hide (fun s W (hx : Nx wa W) => w_NodeAt lo A B C rs.length bs.length ca cb cc ns s W ((hN.nx hna).nx hx) (by omega))
  have HBF := hide (fun W (hx : Nx wa W) => w_bansFaultQ lo' lo'' A B C ns.length ca cb cc rs bs W ((hA.nx hna).nx hx) hal ((hB.nx hna).nx hx) hbl)
  have HRN := hide (hN.nx hna)
  have HSN := hide hS
  have HRA := hide (hA.nx hna).1
  have HKN := hide (hA.nx hna).2
  have HRF := hide (show roadsF ns rs bs = if nodesF ns = 0 then (if chk (arcF ns) none rs = 0 then chk (banF rs) none bs else chk (arcF ns) none rs) else nodesF ns from rfl)
  have HNF := hide (show nodesF ns = chk nodeF none ns by unfold nodesF; rw [if_neg (by omega)])
  clear hN hS hA hB
  generalize roadsF ns rs bs = V at *
  generalize hnl' : ns.length = l at *
  generalize hrl : rs.length = n at *
  generalize hbl' : bs.length = m at *
  have HNL := hide hnl'
  have HRL := hide hrl
  have HBL := hide hbl'
  clear hnl' hrl hbl'
  have tl : decide ((l : Int) > 500) = false := decide_eq_false (by omega)
  have tl2 : decide ((500 : Int) < (l : Int)) = false := decide_eq_false (by omega)
  have tn : decide ((n : Int) > 2000) = false := decide_eq_false (by omega)
  have tn2 : decide ((2000 : Int) < (n : Int)) = false := decide_eq_false (by omega)
  go_enter Tryz.func20, Tryz.ntmps20
  go_wp2_with fail
  rw [← hwa]
  have HWA := hide hwa
  clear hwa
  generalize w.heap.size = gb at *
  have hbw := Nx.refl wa
  go_wp2_with fail
  go_loopw [15] (fun i wr => ∃ k : Nat, k ≤ l ∧ i = .int .i64 k ∧ Nx wa wr ∧ chk nodeF none ns = chk nodeF (prevOf ns k) (ns.drop k)) (fun i _ => l - (intOf i).toNat)
  case atStart => exact ⟨0, Nat.zero_le _, rfl, hbw, rfl⟩
  case round =>
    clear hbw
    obtain ⟨k, hk, rfl, hbw, hq⟩ := hrel
    have HQ := hide hq
    clear hq
    by_cases hlt : k < l
    · have hlt' : k < ns.length := by have := HNL.out; omega
      have HD := hide (chk_drop nodeF ns k hlt')
      have HV := hide (nodeF_at ns k hlt')
      have HB0 := hide (nx_cell hbw hgw b0)
      obtain ⟨b, off, rfl, _, hb, hbr, hc⟩ := HRN.out.open_ hbw (by have := HNL.out; omega)
      have c0 : wr.cell? ⟨b, off + k * 3, none⟩ = some (.string ns[k].key) := hc k hlt' 0 _ rfl
      have c1 : wr.cell? ⟨b, off + k * 3 + 1, none⟩ = some (.int .i64 ns[k].x) := hc k hlt' 1 _ rfl
      have c2 : wr.cell? ⟨b, off + k * 3 + 2, none⟩ = some (.int .i64 ns[k].y) := hc k hlt' 2 _ rfl
      have HPC := hide (fun h0 : 0 < k => (show wr.cell? ⟨b, off + (k - 1) * 3, none⟩ = some (.string (ns[k - 1]'(by omega)).key) from hc (k - 1) (by omega) 0 _ rfl))
      have HPV := hide (fun h0 : 0 < k => (show nodeBad ns k = strLe ns[k].key (ns[k - 1]'(by omega)).key by
        unfold nodeBad
        rw [prevOf_pos _ k h0 (by omega), List.getD_eq_getElem?_getD, List.getElem?_eq_getElem hlt']; rfl))
      have HP0 := hide (fun h0 : k = 0 => (show nodeBad ns k = false by subst h0; rfl))
      clear hc
      have hSx := HSN.out ns[k] (List.getElem_mem hlt')
      generalize ns[k] = x at *
      generalize nodeBad ns k = bad at *
      go_wp2_with fail
      obtain ⟨wk, hwk⟩ : ∃ wk, wk = wr.alloc (.cells #[.string x.key, .int .i64 x.x, .int .i64 x.y] 39) := ⟨_, rfl⟩
      have hnk0 : Nx wr wk := hwk ▸ (Nx.refl wr).alloc _
      have hsk0 : wr.heap.size < wk.heap.size := by rw [hwk]; simp
      have d0 : wk.cell? ⟨wr.heap.size, 0, none⟩ = some (.string x.key) := by rw [hwk]; go_simp
      have d1 : wk.cell? ⟨wr.heap.size, 1, none⟩ = some (.int .i64 x.x) := by rw [hwk]; go_simp
      have d2 : wk.cell? ⟨wr.heap.size, 2, none⟩ = some (.int .i64 x.y) := by rw [hwk]; go_simp
      rw [← hwk]
      have HWK := hide hwk
      clear hwk c0 c1 c2
      refine (w_KeyR _ _ hSx).mono ?_
      rintro e wj ⟨rfl, hnj⟩
      replace d0 := nx_cell hnj hsk0 d0
      replace d1 := nx_cell hnj hsk0 d1
      replace d2 := nx_cell hnj hsk0 d2
      have hsk := Nat.lt_of_lt_of_le hsk0 hnj.sz
      have hnk := hnk0.trans hnj
      have hnx := hbw.trans hnk
      clear hnk0 hsk0
      cases hkb : keyB x.key
      · rw [hkb] at HV
        go_wp2_with fail
        go_ret
        exact ⟨ret_int (by rw [HRF.out, HNF.out, HQ.out, HD.out, HV.out]; rfl), hna.trans hnx⟩
      rw [hkb, if_pos rfl] at HV
      go_upto_region 8 with fail
      go_cut [25] (fun v wx => v = .bool bad ∧ Nx wj wx)
      case first =>
        clear d1 d2
        by_cases hk0 : 0 < k
        · have hp := nx_cell hnk hbr (HPC.out hk0)
          have B0 := nx_cell hnk (Nat.lt_of_lt_of_le hgw hbw.sz) HB0.out
          have hpv := HPV.out hk0
          have hkz : k - 1 < ns.length := by have := HNL.out; omega
          generalize (ns[k - 1]'(by omega)).key = p0 at *
          have k1 : IntKind.i64.wrap ((k : Int) - 1) = (k : Int) - 1 := IntWalk.i64_in _ (by omega)
          have k2 : (1 : Int) ≤ (k : Int) := by omega
          have k3 : ((k : Int) - 1).toNat = k - 1 := by omega
          have k4 : (k : Int) - 1 < (l : Int) := by omega
          have kp : decide ((k : Int) > 0) = true := decide_eq_true (by omega)
          have kp2 : decide ((0 : Int) < (k : Int)) = true := decide_eq_true (by omega)
          have t1 : (Op.bytesLess x.key.toList p0.toList || x.key.toList == p0.toList) = bad := hpv.symm
          clear hpv
          go_quiet (fail)
          go_wp2
          go_meet
          exact ⟨rfl, (Nx.refl _).drewN _⟩
        · have kp : decide ((k : Int) > 0) = false := decide_eq_false (by omega)
          have kp2 : decide ((0 : Int) < (k : Int)) = false := decide_eq_false (by omega)
          have hb0 := HP0.out (by omega)
          go_quiet (fail)
          go_wp2
          go_meet
          exact ⟨by rw [hb0], (Nx.refl _).drewN _⟩
      case rest =>
        obtain ⟨rfl, hx1⟩ := hcut
        cases hbd : bad
        · rw [hbd, if_neg (by simp)] at HV
          have e1 := nx_cell hx1 hsk d1
          have e2 := nx_cell hx1 hsk d2
          have hnx1 := hnx.trans hx1
          clear d0 d1 d2 HB0
          cases ho1 : outB x.x (-10000) 10000
          · have f1 : inB x.x (-10000) 10000 = true := by rw [inB_out, ho1]; rfl
            cases ho2 : outB x.y (-10000) 10000
            · have f2 : inB x.y (-10000) 10000 = true := by rw [inB_out, ho2]; rfl
              have HP := hide (show ptF x.x x.y = 0 by unfold ptF isPtB; rw [ho1, ho2]; rfl)
              go_wp2_with (go_at_call 80; refine (w_in _ _ _ _).mono ?_; rintro e w' ⟨rfl, rfl⟩)
              go_roundw
              case rel => exact ⟨k + 1, by omega, by go_num, hnx1, by rw [HQ.out, HD.out, HV.out, HP.out, if_pos rfl]⟩
              case measure => simp [intOf]; omega
            · have f2 : inB x.y (-10000) 10000 = false := by rw [inB_out, ho2]; rfl
              have HP := hide (show ptF x.x x.y = 1 by unfold ptF isPtB; rw [ho1, ho2]; rfl)
              go_wp2_with (go_at_call 80; refine (w_in _ _ _ _).mono ?_; rintro e w' ⟨rfl, rfl⟩)
              go_ret
              exact ⟨ret_int (by rw [HRF.out, HNF.out, HQ.out, HD.out, HV.out, HP.out]; rfl), hna.trans hnx1⟩
          · have f1 : inB x.x (-10000) 10000 = false := by rw [inB_out, ho1]; rfl
            have HP := hide (show ptF x.x x.y = 1 by unfold ptF isPtB; rw [ho1]; rfl)
            go_wp2_with (go_at_call 80; refine (w_in _ _ _ _).mono ?_; rintro e w' ⟨rfl, rfl⟩)
            go_ret
            exact ⟨ret_int (by rw [HRF.out, HNF.out, HQ.out, HD.out, HV.out, HP.out]; rfl), hna.trans hnx1⟩
        · rw [hbd, if_pos rfl] at HV
          go_wp2_with fail
          go_ret
          exact ⟨ret_int (by rw [HRF.out, HNF.out, HQ.out, HD.out, HV.out]; rfl), hna.trans (hnx.trans hx1)⟩
    · have H0 : nodesF ns = 0 := by rw [HNF.out, HQ.out, List.drop_of_length_le (by have := HNL.out; omega)]; rfl
      have HRF := hide (HRF.out.trans (if_pos H0))
      obtain rfl : l = k := by omega
      clear H0 HQ HNF HSN hlt hk
      have B1 := nx_cell hbw hgw b1
      go_wp2_with fail
      clear B1
      go_loopw [59] (fun i wr => ∃ k : Nat, k ≤ n ∧ i = .int .i64 k ∧ Nx wa wr ∧ chk (arcF ns) none rs = chk (arcF ns) (prevOf rs k) (rs.drop k)) (fun i _ => n - (intOf i).toNat)
      case atStart => exact ⟨0, Nat.zero_le _, rfl, hbw, rfl⟩
      case round =>
        clear hbw
        obtain ⟨k, hk, rfl, hbw, hq⟩ := hrel
        have HQ := hide hq
        clear hq
        by_cases hlt : k < n
        · have hlt' : k < rs.length := by have := HRL.out; omega
          have HD := hide (chk_drop (arcF ns) rs k hlt')
          have HV := hide (arcF_at ns rs k hlt')
          have HB1 := hide (nx_cell hbw hgw b1)
          obtain ⟨b, off, rfl, _, hb, hbr, hc⟩ := HRA.out.open_ hbw (by have := HRL.out; omega)
          have c0 : wr.cell? ⟨b, off + k * 5, none⟩ = some (.string rs[k].key) := hc k hlt' 0 _ rfl
          have c1 : wr.cell? ⟨b, off + k * 5 + 1, none⟩ = some (.string rs[k].from_) := hc k hlt' 1 _ rfl
          have c2 : wr.cell? ⟨b, off + k * 5 + 2, none⟩ = some (.string rs[k].to_) := hc k hlt' 2 _ rfl
          have c3 : wr.cell? ⟨b, off + k * 5 + 3, none⟩ = some (.int .i64 rs[k].long) := hc k hlt' 3 _ rfl
          have c4 : wr.cell? ⟨b, off + k * 5 + 4, none⟩ = some (.slice rs[k].ka rs[k].knots.length rs[k].kc) := hc k hlt' 4 _ rfl
          have HPC := hide (fun h0 : 0 < k => (show wr.cell? ⟨b, off + (k - 1) * 5, none⟩ = some (.string (rs[k - 1]'(by omega)).key) from hc (k - 1) (by omega) 0 _ rfl))
          have HPV := hide (fun h0 : 0 < k => (show arcBad rs k = strLe rs[k].key (rs[k - 1]'(by omega)).key by
            unfold arcBad
            rw [prevOf_pos _ k h0 (by omega), List.getD_eq_getElem?_getD, List.getElem?_eq_getElem hlt']; rfl))
          have HP0 := hide (fun h0 : k = 0 => (show arcBad rs k = false by subst h0; rfl))
          clear hc
          obtain ⟨hKx, hLx, hSx⟩ := HKN.out rs[k] (List.getElem_mem hlt')
          have HKF := hide (fun W (hx : Nx wa W) => w_knotsFaultQ lo' rs[k].ka rs[k].kc rs[k].knots W (hKx.nx hx) (by omega))
          clear hKx
          generalize rs[k] = x at *
          generalize hkl : x.knots.length = r at *
          generalize arcBad rs k = bad at *
          have HKL := hide hkl
          clear hkl
          go_wp2_with fail
          obtain ⟨wk, hwk⟩ : ∃ wk, wk = wr.alloc (.cells #[.string x.key, .string x.from_, .string x.to_, .int .i64 x.long, .slice x.ka r x.kc] 63) := ⟨_, rfl⟩
          have hnk0 : Nx wr wk := hwk ▸ (Nx.refl wr).alloc _
          have hsk0 : wr.heap.size < wk.heap.size := by rw [hwk]; simp
          have d0 : wk.cell? ⟨wr.heap.size, 0, none⟩ = some (.string x.key) := by rw [hwk]; go_simp
          have d1 : wk.cell? ⟨wr.heap.size, 1, none⟩ = some (.string x.from_) := by rw [hwk]; go_simp
          have d2 : wk.cell? ⟨wr.heap.size, 2, none⟩ = some (.string x.to_) := by rw [hwk]; go_simp
          have d3 : wk.cell? ⟨wr.heap.size, 3, none⟩ = some (.int .i64 x.long) := by rw [hwk]; go_simp
          have d4 : wk.cell? ⟨wr.heap.size, 4, none⟩ = some (.slice x.ka r x.kc) := by rw [hwk]; go_simp
          rw [← hwk]
          have HWK := hide hwk
          clear hwk c0 c1 c2 c3 c4
          refine (w_KeyR _ _ hSx).mono ?_
          rintro e wj ⟨rfl, hnj⟩
          replace d0 := nx_cell hnj hsk0 d0
          replace d1 := nx_cell hnj hsk0 d1
          replace d2 := nx_cell hnj hsk0 d2
          replace d3 := nx_cell hnj hsk0 d3
          replace d4 := nx_cell hnj hsk0 d4
          have hsk := Nat.lt_of_lt_of_le hsk0 hnj.sz
          have hnk := hnk0.trans hnj
          have hnx := hbw.trans hnk
          clear hnk0 hsk0
          cases hkb : keyB x.key
          · rw [hkb] at HV
            go_wp2_with fail
            go_ret
            exact ⟨ret_int (by rw [HRF.out, HQ.out, HD.out, HV.out]; rfl), hna.trans hnx⟩
          rw [hkb, if_pos rfl] at HV
          go_upto_region 20 with fail
          go_cut [69] (fun v wx => v = .bool bad ∧ Nx wj wx)
          case first =>
            clear d1 d2 d3 d4
            by_cases hk0 : 0 < k
            · have hp := nx_cell hnk hbr (HPC.out hk0)
              have B1 := nx_cell hnk (Nat.lt_of_lt_of_le hgw hbw.sz) HB1.out
              have hpv := HPV.out hk0
              have hkz : k - 1 < rs.length := by have := HRL.out; omega
              generalize (rs[k - 1]'(by omega)).key = p0 at *
              have k1 : IntKind.i64.wrap ((k : Int) - 1) = (k : Int) - 1 := IntWalk.i64_in _ (by omega)
              have k2 : (1 : Int) ≤ (k : Int) := by omega
              have k3 : ((k : Int) - 1).toNat = k - 1 := by omega
              have k4 : (k : Int) - 1 < (n : Int) := by omega
              have kp : decide ((k : Int) > 0) = true := decide_eq_true (by omega)
              have kp2 : decide ((0 : Int) < (k : Int)) = true := decide_eq_true (by omega)
              have t1 : (Op.bytesLess x.key.toList p0.toList || x.key.toList == p0.toList) = bad := hpv.symm
              clear hpv
              go_quiet (fail)
              go_wp2
              go_meet
              exact ⟨rfl, (Nx.refl _).drewN _⟩
            · have kp : decide ((k : Int) > 0) = false := decide_eq_false (by omega)
              have kp2 : decide ((0 : Int) < (k : Int)) = false := decide_eq_false (by omega)
              have hb0 := HP0.out (by omega)
              go_quiet (fail)
              go_wp2
              go_meet
              exact ⟨by rw [hb0], (Nx.refl _).drewN _⟩
          case rest =>
            obtain ⟨rfl, hx1⟩ := hcut
            cases hbd : bad
            · rw [hbd, if_neg (by simp)] at HV
              have e1 := nx_cell hx1 hsk d1
              have e2 := nx_cell hx1 hsk d2
              have e3 := nx_cell hx1 hsk d3
              have e4 := nx_cell hx1 hsk d4
              have hs1 := Nat.lt_of_lt_of_le hsk hx1.sz
              have hnx1 := hnx.trans hx1
              have bb0 := nx_cell hnx1 hgw b0
              have bb1 := nx_cell hnx1 hgw b1
              have bb2 := nx_cell hnx1 hgw b2
              clear d0 d1 d2 d3 d4 HB1
              by_cases hf : nodeI ns x.from_ < 0
              · have tf : decide (nodeI ns x.from_ < 0) = true := decide_eq_true hf
                have HG := hide (arcG_none (ns := ns) (a := x) (.inl hf))
                clear hf
                go_wp2_with fail
                refine (HND.out x.from_ _ hnx1).mono ?_
                rintro e w2 ⟨rfl, hn2⟩
                go_wp2_with fail
                go_ret
                exact ⟨ret_int (by rw [HRF.out, HQ.out, HD.out, HV.out, HG.out]; rfl), hna.trans (hnx1.trans hn2)⟩
              have tf : decide (nodeI ns x.from_ < 0) = false := decide_eq_false hf
              have HF := hide (Int.not_lt.1 hf)
              clear hf
              go_wp2_with fail
              refine (HND.out x.from_ _ hnx1).mono ?_
              rintro e w2 ⟨rfl, hn2⟩
              have f1 := nx_cell hn2 hs1 e1
              have f2 := nx_cell hn2 hs1 e2
              have f3 := nx_cell hn2 hs1 e3
              have f4 := nx_cell hn2 hs1 e4
              have hs2 := Nat.lt_of_lt_of_le hs1 hn2.sz
              have hnx2 := hnx1.trans hn2
              clear e1 e2 e3 e4 bb0 bb1 bb2
              have bb0 := nx_cell hnx2 hgw b0
              have bb1 := nx_cell hnx2 hgw b1
              have bb2 := nx_cell hnx2 hgw b2
              by_cases ht : nodeI ns x.to_ < 0
              · have tt : decide (nodeI ns x.to_ < 0) = true := decide_eq_true ht
                have HG := hide (arcG_none (ns := ns) (a := x) (.inr ht))
                clear ht
                go_wp2_with fail
                refine (HND.out x.to_ _ hnx2).mono ?_
                rintro e w3 ⟨rfl, hn3⟩
                go_wp2_with fail
                go_ret
                exact ⟨ret_int (by rw [HRF.out, HQ.out, HD.out, HV.out, HG.out]; rfl), hna.trans (hnx2.trans hn3)⟩
              have tt : decide (nodeI ns x.to_ < 0) = false := decide_eq_false ht
              have HT := hide (Int.not_lt.1 ht)
              clear ht
              go_wp2_with fail
              refine (HND.out x.to_ _ hnx2).mono ?_
              rintro e w3 ⟨rfl, hn3⟩
              have g1 := nx_cell hn3 hs2 f1
              have g2 := nx_cell hn3 hs2 f2
              have g3 := nx_cell hn3 hs2 f3
              have g4 := nx_cell hn3 hs2 f4
              have hs3 := Nat.lt_of_lt_of_le hs2 hn3.sz
              have hnx3 := hnx2.trans hn3
              clear f1 f2 f3 f4 bb0 bb1 bb2
              by_cases heq : x.from_ = x.to_
              · have te : (x.from_.toList == x.to_.toList) = true := by rw [eqS_iff]; exact decide_eq_true heq
                have HG := hide (arcG_twice (ns := ns) (a := x) HF.out HT.out heq)
                clear heq
                go_wp2_with fail
                go_ret
                exact ⟨ret_int (by rw [HRF.out, HQ.out, HD.out, HV.out, HG.out]; rfl), hna.trans hnx3⟩
              have te : (x.from_.toList == x.to_.toList) = false := by rw [eqS_iff]; exact decide_eq_false heq
              cases hlo : outB x.long 1 1000000
              · have fl : inB x.long 1 1000000 = true := by rw [inB_out, hlo]; rfl
                have HG := hide (arcG_knots (ns := ns) (a := x) HF.out HT.out heq hlo)
                clear heq
                by_cases hz : knotsF x.knots = 0
                · rw [hz] at HG
                  have HKF := hide (fun W hx => HKF.out W hx)
                  rw [hz] at HKF
                  clear hz
                  go_wp2_with (go_at_call 80; refine (w_in _ _ _ _).mono ?_; rintro e w' ⟨rfl, rfl⟩)
                  refine (HKF.out _ hnx3).mono ?_
                  rintro e w4 ⟨rfl, hn4⟩
                  go_wp2_with fail
                  go_roundw
                  case rel => exact ⟨k + 1, by omega, by go_num, hnx3.trans hn4, by rw [HQ.out, HD.out, HV.out, HG.out, if_pos rfl]⟩
                  case measure => simp [intOf]; omega
                · have tz : (knotsF x.knots != 0) = true := by simpa using hz
                  have HZ := hide hz
                  clear hz
                  go_wp2_with (go_at_call 80; refine (w_in _ _ _ _).mono ?_; rintro e w' ⟨rfl, rfl⟩)
                  refine (HKF.out _ hnx3).mono ?_
                  rintro e w4 ⟨rfl, hn4⟩
                  go_wp2_with fail
                  go_ret
                  exact ⟨ret_int (by rw [HRF.out, HQ.out, HD.out, HV.out, HG.out, if_neg HZ.out, if_neg HZ.out]), hna.trans (hnx3.trans hn4)⟩
              · have fl : inB x.long 1 1000000 = false := by rw [inB_out, hlo]; rfl
                have HG := hide (arcG_long (ns := ns) (a := x) HF.out HT.out heq hlo)
                clear heq
                go_wp2_with (go_at_call 80; refine (w_in _ _ _ _).mono ?_; rintro e w' ⟨rfl, rfl⟩)
                go_ret
                exact ⟨ret_int (by rw [HRF.out, HQ.out, HD.out, HV.out, HG.out]; rfl), hna.trans hnx3⟩
            · rw [hbd, if_pos rfl] at HV
              go_wp2_with fail
              go_ret
              exact ⟨ret_int (by rw [HRF.out, HQ.out, HD.out, HV.out]; rfl), hna.trans (hnx.trans hx1)⟩
        · have H0 : chk (arcF ns) none rs = 0 := by rw [HQ.out, List.drop_of_length_le (by have := HRL.out; omega)]; rfl
          have HRF := hide (HRF.out.trans (if_pos H0))
          have bb0 := nx_cell hbw hgw b0
          have bb1 := nx_cell hbw hgw b1
          have bb2 := nx_cell hbw hgw b2
          clear H0 HQ
          go_wp2_with fail
          refine (HBF.out _ hbw).mono ?_
          rintro e w2 ⟨rfl, hn2⟩
          go_wp2_with fail
          go_ret
          exact ⟨ret_int HRF.out.symm, hna.trans (hbw.trans hn2)⟩
end Go.Proofs.YtmpnilliichpfaaGreatDoor
/- When somebody leaves: the stream's moments. -/
namespace Go.Proofs.YtmpnilliichpfaaGreatDoor
open Go.RowKit

set_option maxRecDepth 100000 in
set_option maxHeartbeats 2000000 in
theorem w_Departure (s k : Nat) (w : World) (hS : Str w s k) (hk : k < 900000) :
    Calls Tryz.prog 14 #[.pointer (some ⟨s, 0, none⟩)] w (StrInt (-1) 345686400000 s (k + 4) w) := by
  have hsl := hS.lt
  go_enter Tryz.func14, Tryz.ntmps14
  go_wp2_with fail
  refine (w_Next 20000 _ _ _ hS (by omega) (by omega)).mono ?_
  rintro e w1 ⟨r1, h11, h12, rfl, hg1, hS1⟩
  go_wp2_with fail
  refine (w_Next 20000 _ _ _ hS1 (by omega) (by omega)).mono ?_
  rintro e w2 ⟨r2, h21, h22, rfl, hg2, hS2⟩
  have hs2 := hS2.lt
  go_wp2_with fail
  refine (w_PickI w2.heap.size [345686399999, 345686399950, -1, 345686400000] _ _ _ _ (hS2.nx ((Nx.refl _).alloc _)) (by omega) (hnew rfl) (by omega) rfl (by simp) (by simp)).mono ?_
  rintro e w3 ⟨r3, h3, rfl, hg3, hS3⟩
  have hs3 := hS3.lt
  have h3' : -1 ≤ r3 ∧ r3 ≤ 345686400000 := by simp at h3; omega
  go_wp2_with fail
  refine (w_PickI w3.heap.size [0, 30, 55, 100, 500, 1000, 5000, 3600000, 86399980, r1, r2, r3] _ _ _ _ (hS3.nx ((Nx.refl _).alloc _)) (by omega) (hnew rfl) (by omega) rfl (by simp) (by simp)).mono ?_
  rintro e w4 ⟨r4, h4, rfl, hg4, hS4⟩
  have h4' : -1 ≤ r4 ∧ r4 ≤ 345686400000 := by simp at h4; omega
  go_wp2_with fail
  go_ret
  exact ⟨r4, h4'.1, h4'.2, rfl, hg1.trans (hg2.trans (((Gr.refl s w2).alloc _).trans (hg3.trans (((Gr.refl s w3).alloc _).trans hg4)))), hS4⟩
end Go.Proofs.YtmpnilliichpfaaGreatDoor
/- What the laws share: the end, the stream, cmp.Or of two or three. -/
namespace Go.Proofs.YtmpnilliichpfaaGreatDoor
open Go.RowKit

/-- The law's world: what was there stays. -/
def TrueNx (w : World) (e : Ending) (w' : World) : Prop := e = .returned (.bool true) ∧ Nx w w'

theorem w_Or2 (a b : Int) (g c : Nat) (w : World) (hg : w.heap[g]? = some (.cells #[.int .i64 a, .int .i64 b] 42 (0, 0))) :
    Calls Tryz.prog 22 #[.slice (some ⟨g, 0, none⟩) 2 c] w fun e w' => e = .returned (.int .i64 (orI [a, b])) ∧ w = w' := by
  have hR : Rd w 0 (some ⟨g, 0, none⟩) 1 encI [a, b] := Rd.lit hg (Nat.zero_le _) (fun _ => rfl) rfl
  exact w_OrE 0 _ c [a, b] w hR (by simp)

theorem str_new (A : Option Addr) (n c : Nat) (w : World) (hn : n ≤ 9223372036854775807)
    (hL : 0 < n → ∃ b off, A = some ⟨b, off, none⟩ ∧ b < w.heap.size ∧ ∀ j, j < n → ∃ z : Int, w.cell? ⟨b, off + j, none⟩ = some (.int .i64 z) ∧ -9223372036854775808 ≤ z ∧ z ≤ 9223372036854775807) :
    Str (w.alloc (.cells #[.slice A n c, .int .i64 0] 25)) w.heap.size 0 := by
  refine ⟨A, n, c, 0, Nat.le_refl _, hn, hnew rfl, fun hp => ?_⟩
  obtain ⟨b, off, e, hb, hz⟩ := hL hp
  refine ⟨b, off, e, hb, fun j hj => ?_⟩
  obtain ⟨z, h1, h2⟩ := hz j hj
  exact ⟨z, (Below.cell ((Nx.refl w).alloc _) (p := ⟨b, _, none⟩) hb).trans h1, h2⟩
end Go.Proofs.YtmpnilliichpfaaGreatDoor
