/- The day's cars: broken, car, was. -/
import Derived.Test.YtfkmbeppckelfaaGreatDoorQG5
import Derived.Deep.RegionHeld3
import Derived.Deep.RegionWith
import Derived.Deep.DeepCutAuto
import Derived.RegionTactic
import Derived.StillTailTactics
import Derived.Lib.SlicesCompact
import Derived.Lib.Strings
import Derived.Shelf.Spec.SearchS
import Derived.Shelf.Slices.Turned
import Derived.Shelf.Slices.CompactS
import Derived.Ground.Names2Prog
import Derived.Ground.NamesProg
import Derived.Test.YtfkmbeppckelfaaGreatDoorProg
import Derived.Test.YtfkmbeppckelfaaGreatDoorQG4
import Derived.Shelf.Slices.Cells
import Derived.Lib.LazyBuf
import Derived.Test.YtfkmbeppckelfaaGreatDoorQShelfG
import Derived.Sort.OwnSorted
import Derived.Sort.EveryDepth
import Derived.Deep.Onto
import Derived.Maps.RangeWalk
namespace Go.Proofs.YtfkmbeppckelfaaGreatDoor
open Go.RowKit Go.Maps

theorem zeroCrewE (w : World) : (zeroValue 109).run Tryz.prog w = .ok (ptrV none) w := by kernel_rfl
theorem zeroStateE (w : World) : (zeroValue 105).run Tryz.prog w = .ok (ptrV none) w := by kernel_rfl
theorem look_car {w : World} {cb n : Nat} {fc : ByteArray → Option (Option Nat)} (h : MpSP w cb n fc) {key : ByteArray} (hk : domS key) : (Instr.lookup 87 (.map (some cb)) (.string key) false).run Tryz.prog w = .ok (ptrV ((fc key).getD none)) w :=
  (h.look elemPtr law_strE Tryz.underlying87 trivial (zeroCrewE w) hk (keyS_mk Tryz.underlying9 hk)).1
theorem look_ride {w : World} {rb n : Nat} {fr : ByteArray → Option (Option Nat)} (h : MpSP w rb n fr) {key : ByteArray} (hk : domS key) : (Instr.lookup 86 (.map (some rb)) (.string key) false).run Tryz.prog w = .ok (ptrV ((fr key).getD none)) w :=
  (h.look elemPtr law_strE Tryz.underlying86 trivial (zeroStateE w) hk (keyS_mk Tryz.underlying9 hk)).1
theorem crw_cells {w : World} {p m : Nat} {c : Crew} (h : w.heap[p]? = some (crwO c m)) : w.cell? ⟨p, 0, none⟩ = some (.string c.node) ∧ w.cell? ⟨p, 1, none⟩ = some (.int .i64 c.at_) ∧ w.cell? ⟨p, 2, none⟩ = some (.bool c.broken) ∧ w.cell? ⟨p, 3, none⟩ = some (.map (some m)) :=
  ⟨cell_of_row w p 0 _ _ _ h, cell_of_row w p 1 _ _ _ h, cell_of_row w p 2 _ _ _ h, cell_of_row w p 3 _ _ _ h⟩
theorem sta_cells {w : World} {p : Nat} {s : St} (h : w.heap[p]? = some (staO s)) : w.cell? ⟨p, 0, none⟩ = some (.string s.ride) ∧ w.cell? ⟨p, 1, none⟩ = some (.string s.car) ∧ w.cell? ⟨p, 2, none⟩ = some (.int .i64 s.how) ∧ w.cell? ⟨p, 3, none⟩ = some (.int .i64 s.up) ∧ w.cell? ⟨p, 4, none⟩ = some (.int .i64 s.down) ∧ w.cell? ⟨p, 5, none⟩ = some (.int .i64 s.on) ∧ w.cell? ⟨p, 6, none⟩ = some (.int .i64 s.off) :=
  ⟨cell_of_row w p 0 _ _ _ h, cell_of_row w p 1 _ _ _ h, cell_of_row w p 2 _ _ _ h, cell_of_row w p 3 _ _ _ h, cell_of_row w p 4 _ _ _ h, cell_of_row w p 5 _ _ _ h, cell_of_row w p 6 _ _ _ h⟩
set_option maxRecDepth 100000 in
set_option maxHeartbeats 1000000 in
theorem w_broken (d lo rb cb N : Nat) (D : DayP) (fr fc : ByteArray → Option (Option Nat)) (fm : ByteArray → Nat) (key : ByteArray) (w : World) (h : DayW w lo rb cb N D fr fc fm) (h2 : w.cell? ⟨d, 2, none⟩ = some (.map (some cb))) (hk : domS key) :
    Calls Tryz.prog 128 #[.pointer (some ⟨d, 0, none⟩), .string key] w fun e w' => e = .returned (.bool (brokenP D key)) ∧ w = w' := by
  have hl := look_car h.cars.map hk
  cases hc : D.cars key with
  | none =>
    have hb : brokenP D key = false := by unfold brokenP carP; rw [hc]; rfl
    rw [h.cars.non key hc] at hl
    rw [hb]
    simp only [Option.getD_none, ptrV] at hl
    have H := hide h
    clear h hb hc
    go_enter Tryz.func128, Tryz.ntmps128
    go_wp2_with fail
    go_ret
    exact ⟨rfl, rfl⟩
  | some c =>
    obtain ⟨p, hp, _, hpo, _⟩ := h.cars.at_ key c hc
    have hb : brokenP D key = c.broken := by unfold brokenP carP; rw [hc]; rfl
    rw [hp] at hl
    rw [hb]
    simp only [Option.getD_some, ptrV] at hl
    have c2 := (crw_cells hpo).2.2.1
    have H := hide h
    clear h hb hc hpo hp
    go_enter Tryz.func128, Tryz.ntmps128
    go_wp2_with fail
    go_ret
    exact ⟨rfl, rfl⟩
theorem setC_same {D : DayP} {k : ByteArray} {c : Crew} (h : D.cars k = some c) : setC D k (carP D k) = D := by
  obtain ⟨r, f⟩ := D
  unfold setC carP
  simp only at h ⊢
  rw [h]
  simp only [Option.getD_some, DayP.mk.injEq, true_and]
  funext j
  unfold updF
  split
  · rename_i e; subst e; exact h.symm
  · rfl
theorem carP_none {D : DayP} {k : ByteArray} (h : D.cars k = none) : carP D k = crew0 := by unfold carP; rw [h]; rfl
/-- The car that is told of, and where it lies. -/
def CarOut (lo rb cb N : Nat) (D : DayP) (fr : ByteArray → Option (Option Nat)) (key : ByteArray) (w : World) (e : Ending) (w' : World) : Prop :=
  ∃ (p : Nat) (fc' : ByteArray → Option (Option Nat)) (fm' : ByteArray → Nat), e = .returned (.pointer (some ⟨p, 0, none⟩)) ∧ DayW w' lo rb cb (N + 1) (setC D key (carP D key)) fr fc' fm' ∧ fc' key = some (some p) ∧ lo ≤ p ∧ Gr cb w w'
set_option maxRecDepth 100000 in
set_option maxHeartbeats 2000000 in
theorem w_car (d lo rb cb N : Nat) (D : DayP) (fr fc : ByteArray → Option (Option Nat)) (fm : ByteArray → Nat) (key : ByteArray) (w : World) (h : DayW w lo rb cb N D fr fc fm) (h2 : w.cell? ⟨d, 2, none⟩ = some (.map (some cb))) (hd : d < lo) (hdc : d ≠ cb) (hk : domS key) (hN : N < 100000) :
    Calls Tryz.prog 182 #[.pointer (some ⟨d, 0, none⟩), .string key] w (CarOut lo rb cb N D fr key w) := by
  have hl := look_car h.cars.map hk
  cases hc : D.cars key with
  | some c =>
    obtain ⟨p, hp, hlp, hpo, _⟩ := h.cars.at_ key c hc
    rw [hp] at hl
    simp only [Option.getD_some, ptrV] at hl
    have H := hide h
    have HP := hide hp
    have HS := hide (setC_same hc)
    clear h hc hpo hp
    go_enter Tryz.func182, Tryz.ntmps182
    go_wp2_with fail
    go_ret
    exact ⟨p, fc, fm, rfl, by rw [HS.out]; exact H.out.mono (Nat.le_succ _), HP.out, hlp, Gr.refl _ _⟩
  | none =>
    have hnn := h.cars.non key hc
    rw [hnn] at hl
    simp only [Option.getD_none, ptrV] at hl
    have hsz := h.sz
    have hrl := h.rlo
    have hcl := h.clo
    have hM := h.cars.map
    have hkey := keyS_mk (P := Tryz.prog) Tryz.underlying9 hk
    have hmm := @run_makeMap Tryz.prog
    obtain ⟨w1, hw1⟩ : ∃ w1, w1 = (w.alloc (.map #[] 0)).alloc (.cells #[.string ⟨#[]⟩, .int .i64 0, .bool false, .map (some w.heap.size)] 111 (0, 0)) := ⟨_, rfl⟩
    have hn1 : Nx w w1 := hw1 ▸ ((Nx.refl w).alloc _).alloc _
    have hD1 := h.nx hn1
    have hM1 := hM.nx hn1
    have hp1 : w1.heap[w.heap.size + 1]? = some (crwO crew0 w.heap.size) := by
      rw [hw1]
      have := heap_alloc_new (w.alloc (.map #[] 0)) (.cells #[.string ⟨#[]⟩, .int .i64 0, .bool false, .map (some w.heap.size)] 111 (0, 0))
      simpa [crwO, crwV, crew0, eB] using this
    have hm1 : MpKB w1 w.heap.size 0 (fun _ => none) := by
      rw [hw1]; exact (MgI.made w).nx ((Nx.refl _).alloc _)
    have hd1 : w1.cell? ⟨d, 2, none⟩ = some (.map (some cb)) := nx_cell hn1 (by omega) h2
    have hpn : ∀ j q, fc j = some (some q) → q ≠ w.heap.size + 1 := by
      intro j q hj e
      cases hcj : D.cars j with
      | none => rw [h.cars.non j hcj] at hj; cases hj
      | some c =>
        obtain ⟨q', a, _, b, _⟩ := h.cars.at_ j c hcj
        rw [hj] at a; injection a with a; injection a with a; subst a
        have := (Array.getElem?_eq_some_iff.1 b).1
        omega
    have hmn : ∀ j, (D.cars j).isSome = true → fm j ≠ w.heap.size := by
      intro j hj e
      cases hcj : D.cars j with
      | none => rw [hcj] at hj; cases hj
      | some c =>
        obtain ⟨q', _, _, _, _, g⟩ := h.cars.at_ j c hcj
        have := g.lt
        omega
    have H := hide h
    have HD1 := hide hD1
    have HP1 := hide hp1
    have HM1 := hide hm1
    have HPN := hide hpn
    have HMN := hide hmn
    have HC := hide hc
    have HW1 := hide hw1
    have HN1 := hide hn1
    have HG := hide hM1
    clear h hD1 hp1 hm1 hpn hmn hc hw1 hn1 hM hM1 hnn
    go_enter Tryz.func182, Tryz.ntmps182
    go_wp2_with (at_mapUpdate; rw [show ((w.alloc (.map #[] 0)).alloc (.cells #[.string ⟨#[]⟩, .int .i64 0, .bool false, .map (some w.heap.size)] 111 (0, 0))) = w1 from HW1.out.symm]; refine wpMgPut _ rfl _ _ _ _ rfl elemPtr law_strE strV_inj Tryz.underlying87 cb N _ rfl HG.out (by unfold maxLen; omega) key rfl hk _ hkey (some (w.heap.size + 1)) rfl trivial ?_; intro w2 hM2 hg2; (have hl2 := look_car hM2 hk); (simp only [if_true, Option.getD_some, ptrV] at hl2); (have hd2 : w2.cell? ⟨d, 2, none⟩ = some (.map (some cb)) := World.grownBy.cell hg2 hd1 (by simp; omega)); (have HM2 := hide hM2); clear hM2)
    go_ret
    refine ⟨w.heap.size + 1, (fun j => if j = key then some (some (w.heap.size + 1)) else fc j), (fun j => if j = key then w.heap.size else fm j), rfl, ?_, if_pos rfl, by omega, (Gr.of_nx HN1.out).trans hg2⟩
    rw [carP_none HC.out]
    exact HD1.out.carNew HC.out (by omega) HP1.out hsz HM1.out HPN.out HMN.out hg2 HM2.out
theorem setC_setC (D : DayP) (k : ByteArray) (c c' : Crew) : setC (setC D k c) k c' = setC D k c' := by
  unfold setC
  simp only [DayP.mk.injEq, true_and]
  funext j
  unfold updF
  split <;> rfl
theorem setC_at (D : DayP) (k : ByteArray) (c : Crew) : (setC D k c).cars k = some c := updF_same _ _ _
def evA (x : Ev) : Array Value := #[.string x.source, .int .i64 x.no, .int .i64 x.at_, .int .i64 x.kind, .string x.ride, .string x.car, .string x.node, .int .i64 x.up, .int .i64 x.down, .string x.from_, .int .i64 x.number]
set_option maxRecDepth 100000 in
set_option maxHeartbeats 2000000 in
theorem w_was (d lo rb cb N : Nat) (D : DayP) (fr fc : ByteArray → Option (Option Nat)) (fm : ByteArray → Nat) (x : Ev) (w : World) (h : DayW w lo rb cb N D fr fc fm) (h2 : w.cell? ⟨d, 2, none⟩ = some (.map (some cb))) (hd : d < lo) (hdc : d ≠ cb) (hk : domS x.car) (hN : N < 100000) :
    Calls Tryz.prog 129 #[.pointer (some ⟨d, 0, none⟩), .agg (evA x)] w fun e w' => e = .returned (.tuple #[]) ∧ (∃ fc' fm', DayW w' lo rb cb (N + 1) (wasP D x) fr fc' fm') ∧ Fr2 lo rb cb w w' := by
  obtain ⟨so, no, at_, ki, ri, ca, nd, up, dn, fo, nu⟩ := x
  unfold evA
  simp only at hk
  have hsz := h.sz
  have hcl := h.clo
  have hrl := h.rlo
  obtain ⟨o, ho⟩ : ∃ o, o = (.cells #[.string so, .int .i64 no, .int .i64 at_, .int .i64 ki, .string ri, .string ca, .string nd, .int .i64 up, .int .i64 dn, .string fo, .int .i64 nu] 31 (0, 0) : Obj) := ⟨_, rfl⟩
  have hn1 : Nx w (w.alloc o) := (Nx.refl w).alloc _
  have HC := hide (w_car d lo rb cb N D fr fc fm ca (w.alloc o) (h.nx hn1) (nx_cell hn1 (by omega) h2) hd hdc hk hN)
  have hb : (w.alloc o).heap[w.heap.size]? = some o := heap_alloc_new w o
  have HN1 := hide hn1
  have HB := hide hb
  have HCM := hide (h.cars.map.nx hn1)
  subst ho
  clear h hn1 hb
  go_enter Tryz.func129, Tryz.ntmps129
  go_wp2_with fail
  refine HC.out.mono ?_
  rintro e w2 ⟨p, fc', fm', rfl, hD2, hp, hlp, hF⟩
  obtain ⟨p', a, _, hpo, _⟩ := hD2.cars.at_ ca _ (setC_at _ _ _)
  rw [hp] at a; injection a with a; injection a with a; subst a
  have hbx := gr_at hF HB.out (by omega)
  have b0 := (crw_cells hpo).1
  have b1 := (crw_cells hpo).2.1
  have e0 : w2.frozen? ⟨p, 0, none⟩ = false := by simp [World.frozen?, hpo, crwO]
  have e1 : w2.frozen? ⟨p, 1, none⟩ = false := by simp [World.frozen?, hpo, crwO]
  have a2 : w2.cell? ⟨w.heap.size, 2, none⟩ = some (.int .i64 at_) := cell_of_row w2 _ 2 _ _ _ hbx
  have a6 : w2.cell? ⟨w.heap.size, 6, none⟩ = some (.string nd) := cell_of_row w2 _ 6 _ _ _ hbx
  have hne : w.heap.size ≠ p := by
    intro e; subst e
    rw [hbx] at hpo; injection hpo with hpo; unfold crwO at hpo; injection hpo with _ hpo _; revert hpo; decide
  have HPO := hide hpo
  have HD2 := hide hD2
  have HF := hide hF
  have HBX := hide hbx
  clear hpo hD2 hF hbx
  go_wp2_with fail
  go_region
  all_goals (go_wp2; go_end0)
  have hgr : Gr p w2 ((w2.setCell ⟨p, 0, none⟩ (.string nd)).setCell ⟨p, 1, none⟩ (.int .i64 at_)).drew := (((Gr.refl p w2).setS (.inl rfl) _).setS (.inl rfl) _).drew
  have hbl : ((w2.setCell ⟨p, 0, none⟩ (.string nd)).setCell ⟨p, 1, none⟩ (.int .i64 at_)).drew.heap[p]? = some (crwO { carP D ca with node := nd, at_ := at_ } (fm' ca)) := heap_set (heap_set HPO.out)
  have hD3 := HD2.out.crPut (setC_at _ _ _) hp hgr hbl rfl
  rw [setC_setC] at hD3
  refine ⟨rfl, ⟨fc', fm', hD3⟩, ?_⟩
  obtain ⟨es, cl, hcm⟩ := mg_obj HCM.out
  exact ((Fr2.nx HN1.out hsz).trans (Fr2.grMap HF.out (.inr (.inl rfl)) (Nat.le_trans hsz HN1.out.sz) hcm)).trans (Fr2.grCrw hgr hlp HD2.out.sz HPO.out)
end Go.Proofs.YtfkmbeppckelfaaGreatDoor
/- 'delete(m, k)' on a map said of a plain function. Of no program. -/
namespace Go.Proofs.YtfkmbeppckelfaaGreatDoor
open Go.RowKit Go.Maps

section
variable {κ V : Type} {P : Program} {K : TypeId} {ek : κ → Value} {dom : κ → Prop} {R : Value → Option (DataW Unit × List MemPlace)} {dv : V → DataW Unit}
theorem MgD.del [DecidableEq κ] {D : DataW Unit} {f : κ → Option V} (h : MgD P K ek dom dv D f) (KL : Keyed P K) (hinj : ∀ a b : κ, ek a = ek b → a = b) {k : κ} {l : Lit} (hkey : keyOf P K (ek k) = some l) :
    MgD P K ek dom dv (D.del l) (fun k' => if k' = k then none else f k') where
  isMap := h.isMap.del _
  at_ k' l' hd' hk' z := by
    by_cases e : k' = k
    · subst e
      rw [hkey] at hk'; injection hk' with hk'; subst hk'
      rw [if_pos rfl]
      exact atKey_del_same _
    · rw [if_neg e]
      have hne : l' ≠ l := fun e1 => by subst e1; exact e (hinj _ _ (KL.inj hk' hkey))
      rw [atKey_del_other hne]
      exact h.at_ k' l' hd' hk' z
  keys l' hl' := by
    by_cases e : l' = l
    · subst e; rw [has_del_same] at hl'; cases hl'
    · rw [has_del_other e] at hl'; exact h.keys l' hl'
  dm k' hk' := by
    by_cases e : k' = k
    · subst e; rw [if_pos rfl] at hk'; cases hk'
    · rw [if_neg e] at hk'; exact h.dm k' hk'
/-- 'delete(m, k)' at the operation. -/
theorem wpMgDel [DecidableEq κ] (w : World) {ops : Array Oper} {rest : List Oper} {o : Oper} {a : Act} {Q : Exit → Act → World → Prop}
    (hg : o.guard = none) (m x : Operand) (t k0 : TypeId) (hop : o.op = Op.call { callee := Callee.builtin Builtin.delete, args := #[m, x], argTypes := #[t, k0] }) {E : TypeId}
    (KL : Keyed P k0) (hinj : ∀ a b : κ, ek a = ek b → a = b) (ht : P.underlying t = some (.map k0 E)) (b n : Nat) (f : κ → Option V)
    (hm : a.eval m = .map (some b)) (hown : MgI P k0 ek dom R dv w b n f) (k : κ) (hx : a.eval x = ek k) (l : Lit) (hkey : keyOf P k0 (ek k) = some l)
    (hK : ∀ w', MgI P k0 ek dom R dv w' b n (fun k' => if k' = k then none else f k') → Gr b w w' → wpList P ops Q rest (a.put o.dst (.tuple #[])) w') :
    wpList P ops Q (o :: rest) a w := by
  obtain ⟨D, h1, h2⟩ := hown
  exact wpList_delete_own w hg m x t k0 hop E KL ht R b n D hm h1 (ek k) l hx hkey fun w' r1 r2 => hK w' ⟨_, r1, h2.del KL hinj hkey⟩ r2.grown
end
end Go.Proofs.YtfkmbeppckelfaaGreatDoor
/- Plain: zones, what is wrong with them; the zone of a node; the zones to which nodes come. -/
namespace Go.Proofs.YtfkmbeppckelfaaGreatDoor

structure Zone where
  key : ByteArray
  a : Option Addr
  cap : Nat
  nodes : List ByteArray
instance : Inhabited Zone := ⟨⟨default, none, 0, []⟩⟩
end Go.Proofs.YtfkmbeppckelfaaGreatDoor
/- slices.Compact of strings on a row of one's own (cut out of XCross). -/
namespace Go.Proofs.YtfkmbeppckelfaaGreatDoor
open Go.RowKit Go.Proofs Go.Shelf

theorem encStr_back (s : ByteArray) : Go.Proofs.encStr s.data.toList = .string s := by
  obtain ⟨⟨l⟩⟩ := s
  rfl
end Go.Proofs.YtfkmbeppckelfaaGreatDoor
/- slices.Sort of strings on a row of one's own; strings in order, each once. -/
namespace Go.Proofs.YtfkmbeppckelfaaGreatDoor
open Go.RowKit Go.Proofs Go.Shelf Go.Sort

def leS (x y : ByteArray) : Prop := x.data.toList ≤ y.data.toList
def bsOf (l : List UInt8) : ByteArray := ⟨⟨l⟩⟩
theorem bsOf_data (x : ByteArray) : bsOf x.data.toList = x := by obtain ⟨⟨l⟩⟩ := x; rfl
theorem enc_bs (ts : List (List UInt8)) : ts.map encStr = (ts.map bsOf).flatMap encS := by
  induction ts with
  | nil => rfl
  | cons x l ih => rw [List.map_cons, ih]; rfl
theorem flat_strs (L : List ByteArray) : L.flatMap encS = (L.map (fun s : ByteArray => s.data.toList)).map encStr := by
  induction L with
  | nil => rfl
  | cons x l ih => rw [List.flatMap_cons, ih, List.map_cons, List.map_cons, encStr_back]; rfl
theorem w_SortS {base g cap : Nat} (L : List ByteArray) (w : World) (h : w.ownsRow base 9 1 (.slice (some ⟨g, 0, none⟩) L.length cap) L.length (L.flatMap encS)) (hl : L.length ≤ 65536) :
    Calls Tryz.prog 101 #[.slice (some ⟨g, 0, none⟩) L.length cap] w fun e w' => e = .returned (.tuple #[]) ∧ ∃ M : List ByteArray, M.length = L.length ∧ (∀ x, x ∈ M ↔ x ∈ L) ∧ M.Pairwise leS ∧ w'.ownsRow base 9 1 (.slice (some ⟨g, 0, none⟩) M.length cap) M.length (M.flatMap encS) ∧ Gr g w w' := by
  obtain ⟨zs, hzs⟩ : ∃ zs, zs = L.map (fun s : ByteArray => s.data.toList) := ⟨_, rfl⟩
  have hzl : zs.length = L.length := by rw [hzs, List.length_map]
  rw [flat_strs, ← hzs] at h
  rcases h.2 with ⟨h0, _⟩ | ⟨g', cap', cur, hv, hg, hb, h1, h2, h3, h4⟩
  · cases h0
  · cases hv
    rw [Nat.mul_one, ← hzl] at h4
    have hcon := calls_of_every_depth fun D => AnyS.slices_Sort_string_alone Tryz.sortStr D g 0 cap zs w (holds_of_block hb h4) (Array.getElem?_eq_some_iff.1 hb).1 (by omega)
    rw [hzl] at hcon
    change Calls Tryz.prog 101 _ _ _ at hcon
    refine hcon.mono ?_
    rintro e w' ⟨rfl, n, os, rfl⟩
    have hml : (zs.mergeSort fun x y => decide (x ≤ y)).length = zs.length := List.length_mergeSort zs
    have hsort : (zs.mergeSort fun x y => decide (x ≤ y)).Pairwise (fun x y => decide (x ≤ y) = true) := List.pairwise_mergeSort (le := fun x y : List UInt8 => decide (x ≤ y)) (fun a b c h1 h2 => decide_eq_true (List.le_trans (of_decide_eq_true h1) (of_decide_eq_true h2))) (fun a b => by
      rcases List.le_total a b with h | h
      · simp [h]
      · simp [h]) zs
    have hmem : ∀ x, x ∈ (zs.mergeSort fun x y => decide (x ≤ y)) ↔ x ∈ zs := fun x => List.mem_mergeSort
    generalize (zs.mergeSort fun x y => decide (x ≤ y)) = ts at *
    refine ⟨rfl, ts.map bsOf, by rw [List.length_map]; omega, fun x => ?_, ?_, ?_, grownBy_sorted _⟩
    · rw [List.mem_map]
      constructor
      · rintro ⟨t, ht, rfl⟩
        have := (hmem t).1 ht
        rw [hzs] at this
        obtain ⟨y, hy, e⟩ := List.mem_map.1 this
        rw [← e, bsOf_data]
        exact hy
      · intro hx
        exact ⟨x.data.toList, (hmem _).2 (by rw [hzs]; exact List.mem_map.2 ⟨x, hx, rfl⟩), bsOf_data x⟩
    · rw [List.pairwise_map]
      exact hsort.imp (fun h => of_decide_eq_true h)
    · have := ownsRow_sorted (n := n) (os := os) (cap := cap) hml hg hb (by omega) h2 h3
      rw [enc_bs, ← hml] at this
      rw [List.length_map]
      exact this
end Go.Proofs.YtfkmbeppckelfaaGreatDoor
/- A range over a map whose round stores at a key that is there. Of no program. -/
namespace Go.Proofs.YtfkmbeppckelfaaGreatDoor
open Go Go.ChangeMaps Go.MapKept Go.WideShapes Go.Maps
open Go.WideElems (Fit rd rg pl rd_key rd_val rg_of other_key)

variable {H : Type} {P : Program} {k : TypeId} {R : Value → Option (DataW H × List MemPlace)} {w : World} {b r n : Nat} {D : DataW H} {left : Lit → Bool} {cnt : Nat}

theorem leftOf_size (es : Array MapEntry) (seen : Array Nat) : (leftOf es seen).size = ((es.toList.map (·.born)).filter fun z => !seen.contains z).length := by
  unfold leftOf
  rw [← Array.length_toList, Array.toList_filter, List.filter_map, List.length_map]
  rfl
/-- 'm[k] = v' in the round, at a key that is there. -/
theorem ranges_store {t e : TypeId} (h : w.ranges P k R b r n D left cnt) (K : Keyed P k) (ht : P.underlying t = some (.map k e)) (hn : n < maxLen) {key val : Value} {kl : Lit} {yv : DataW H × List MemPlace}
    (hkey : keyOf P k key = some kl) (hv : R val = some yv) (hth : Maps.has D kl = true) :
    ∃ w', (Instr.mapUpdate t (.map (some b)) key val).run P w = .ok () w' ∧ w'.ranges P k R b r n (D.put kl yv.1) left cnt ∧ w.mapTurned w' b := by
  have hne := h.ne
  obtain ⟨es, clock, since, seen, c0, hb, F, hs, rfl, hr, hold, rfl, hl1, hl2, hsc, hsk⟩ := h
  obtain ⟨es', clock', hrun, F', hput, _⟩ := Maps.fit_store (R' := R) K ht hb F (Nat.lt_of_le_of_lt hs hn) (fun _ _ _ _ hz => hz) hkey hv
  rcases K.find w hkey es.toList F.keys with ⟨_, h2⟩ | ⟨j, e0, h1, h2, h3⟩
  · exfalso
    obtain ⟨p, hp, hpk⟩ := List.any_eq_true.1 hth
    obtain ⟨x, hx, rfl⟩ := List.mem_map.1 (mem_sorted.1 hp)
    have e1 := WideAt.sameKey_eq hpk
    obtain ⟨y, hy⟩ := F.reads x hx
    rw [rg_of hy] at e1
    exact h2 x hx (K.inj (e1 ▸ rd_key hy) hkey)
  have hj : es[j]? = some e0 := by simpa using h2
  have hjl : j < es.toList.length := (List.getElem?_eq_some_iff.1 h2).1
  have hlist : (es.modify j (fun e' => { e' with key := key, val := val })).toList = es.toList.set j { e0 with key := key, val := val } := by rw [Array.toList_modify, modify_eq_set _ _ _ _ h2]
  have hrun2 : (Instr.mapUpdate t (.map (some b)) key val).run P w = .ok () (setBlock w b (.map (es.modify j (fun e' => { e' with key := key, val := val })) clock)) := by
    simp [Instr.mapUpdate, run_underlying ht, MapKept.run_getObj_map hb, K.check w false hkey, h1, hj, h3, K.stays w hkey, MapKept.run_setObj_map _ hb, Result.andThen, setBlock]
  have hsame : es' = es.modify j (fun e' => { e' with key := key, val := val }) ∧ clock' = clock := by
    rw [hrun] at hrun2
    injection hrun2 with _ hw
    have a1 := heap_setBlock_same hb (.map es' clock')
    rw [hw, heap_setBlock_same hb] at a1
    injection a1 with a1; injection a1 with a1 a2
    exact ⟨a1.symm, a2.symm⟩
  obtain ⟨rfl, rfl⟩ := hsame
  have hborn : (es.modify j (fun e' => { e' with key := key, val := val })).toList.map (·.born) = es.toList.map (·.born) := by
    rw [hlist, List.map_set]
    apply List.ext_getElem?
    intro i
    rw [List.getElem?_set]
    split
    · rename_i e1
      subst e1
      simp only [List.length_map, if_pos hjl, List.getElem?_map, h2, Option.map_some]
    · rfl
  have hk0 : (rg P k R e0).1 = kl := by
    obtain ⟨y, hy⟩ := F.reads e0 (List.mem_of_getElem? h2)
    have := rd_key hy
    rw [h3, hkey] at this
    rw [rg_of hy]; exact (Option.some.inj this).symm
  have hkn : (rg P k R ⟨key, val, e0.born⟩).1 = kl := by
    obtain ⟨y, hy⟩ := F'.reads ⟨key, val, e0.born⟩ (by rw [hlist]; exact List.mem_iff_getElem.2 ⟨j, by simpa using hjl, by simp⟩)
    have := rd_key hy
    rw [hkey] at this
    rw [rg_of hy]; exact (Option.some.inj this).symm
  have who : ∀ x ∈ es.toList.set j { e0 with key := key, val := val }, x = { e0 with key := key, val := val } ∨ x ∈ es.toList := fun x hx => (List.mem_or_eq_of_mem_set hx).symm
  refine ⟨_, hrun, ⟨_, clock', since, seen, c0, heap_setBlock_same hb _, F', by simpa using hs, by rw [DataW.put_eq, hput], (heap_setBlock_other hb _ hne).trans hr, ?_, ?_, ?_, ?_, hsc, hsk⟩, ⟨es, clock', _, clock', hb, rfl⟩⟩
  · intro x hx
    rw [hlist] at hx
    rcases who x hx with rfl | hx
    · exact hold e0 (List.mem_of_getElem? h2)
    · exact hold x hx
  · rw [leftOf_size, leftOf_size, hborn]
  · intro x hx
    rw [hlist] at hx
    rcases who x hx with rfl | hx
    · rw [hkn, ← hk0]; exact hl1 e0 (List.mem_of_getElem? h2)
    · exact hl1 x hx
  · intro z hz
    obtain ⟨x, hx, rfl⟩ := hl2 z hz
    rw [hlist]
    obtain ⟨i, hi⟩ := List.getElem?_of_mem hx
    by_cases e1 : i = j
    · subst e1
      rw [h2] at hi; injection hi with hi; subst hi
      exact ⟨{ e0 with key := key, val := val }, List.mem_iff_getElem.2 ⟨i, by simpa using hjl, by simp⟩, by rw [hk0]; exact hkn⟩
    · refine ⟨x, List.mem_of_getElem? (i := i) ?_, rfl⟩
      rw [List.getElem?_set, if_neg (fun e2 => e1 e2.symm)]; exact hi
end Go.Proofs.YtfkmbeppckelfaaGreatDoor
