/- When one arrives at the earliest, and leaves at the latest: the reference. -/
import Derived.Test.YtbjbeddjaajdaaaGreatDoorQOutL
import Derived.Test.YtbjbeddjaajdaaaGreatDoorQG28
import Derived.Test.YtbjbeddjaajdaaaGreatDoorQG27
import Derived.Deep.DeepCutAuto
import Derived.Test.YtbjbeddjaajdaaaGreatDoorQG0
import Derived.Deep.AppendLies
import Derived.Deep.RegionLawGrows
import Derived.Test.YtbjbeddjaajdaaaGreatDoorQG7
import Derived.Deep.RegionHeldLaw
import Derived.Laws.EntriesVeiled
namespace Go.Proofs.YtbjbeddjaajdaaaGreatDoor
open Go.RowKit

theorem lt_heapA {w : World} {k : Nat} {o : Obj} (h : w.heap[k]? = some o) : k < w.heap.size := (Array.getElem?_eq_some_iff.1 h).1
/-- Right roads that are handed in by value, read. -/
structure ValR (w : World) (lo : Nat) (A B C : Option Addr) (nn ca cb cc : Nat) (ns : List Node) (rs : List Arc) (bs : List Ban) : Prop where
  hA : RdArcs w lo B rs
  hal : rs.length ≤ 400
  hB : Rd w lo C 2 encBan bs
  hbl : bs.length ≤ 400
  hC : chk (arcF ns) none rs = 0
theorem ValR.nx {w w' : World} {lo : Nat} {A B C : Option Addr} {nn ca cb cc : Nat} {ns : List Node} {rs : List Arc} {bs : List Ban} (h : ValR w lo A B C nn ca cb cc ns rs bs) (hn : Nx w w') : ValR w' lo A B C nn ca cb cc ns rs bs := ⟨h.hA.nx hn, h.hal, h.hB.nx hn, h.hbl, h.hC⟩
set_option maxRecDepth 100000 in
set_option maxHeartbeats 4000000 in
theorem w_ArriveAt (lo : Nat) (A B C : Option Addr) (nn ca cb cc : Nat) (ns : List Node) (rs : List Arc) (bs : List Ban) (fr to_ : ByteArray) (at_ : Int) (w : World) (hV : ValR w lo A B C nn ca cb cc ns rs bs) (hfr : 0 ≤ nodeI ns fr) (hto : 0 ≤ nodeI ns to_) (hat : 0 ≤ at_ ∧ at_ ≤ 345686399999) :
    Calls Tryz.prog 75 #[.agg #[.slice A nn ca, .slice B rs.length cb, .slice C bs.length cc], .string fr, .string to_, .int .i64 at_] w fun e w' => e = .returned (.int .i64 (arrG (gphOf ns rs bs) (nodeN ns fr) (nodeN ns to_) at_)) ∧ Nx w w' := by
  have HG := hide (gph_ok (bs := bs) hV.hC)
  by_cases he : fr = to_
  · subst he
    have hE := arrG_self HG.out hat.1 (show nodeN ns fr < (gphOf ns rs bs).nn from nodeN_lt hfr)
    rw [hE]
    have te : (fr.toList == fr.toList) = true := by rw [eqS_iff]; exact decide_eq_true rfl
    clear hV hE
    go_enter Tryz.func75, Tryz.ntmps75
    go_wp2_with fail
    go_ret
    exact ⟨rfl, (Nx.refl _).alloc _⟩
  · have te : (fr.toList == to_.toList) = false := by rw [eqS_iff]; exact decide_eq_false he
    have hab : nodeN ns fr ≠ nodeN ns to_ := fun h => he ((node_iff hfr hto).1 h)
    obtain ⟨wa, hwa⟩ : ∃ wa, wa = w.alloc (.cells #[.slice A nn ca, .slice B rs.length cb, .slice C bs.length cc] 30) := ⟨_, rfl⟩
    have hna : Nx w wa := hwa ▸ (Nx.refl w).alloc _
    have hbx : wa.heap[w.heap.size]? = some (.cells #[.slice A nn ca, .slice B rs.length cb, .slice C bs.length cc] 30 (0, 0)) := by rw [hwa]; exact hnew rfl
    have HO := hide (w_outs lo A B C nn ca cb cc ns rs bs fr at_ wa (hV.hA.nx hna) hV.hal (hV.hB.nx hna) hV.hbl hV.hC hfr hat)
    have HBX := hide hbx
    have HA := hide (hV.hA.nx hna)
    have hal := hV.hal
    have HSOL := hide (fun o (h : OutSol (gphOf ns rs bs) (nodeN ns fr) at_ o) => arrG_sol HG.out hat.1 (show nodeN ns fr < (gphOf ns rs bs).nn from nodeN_lt hfr) (show nodeN ns to_ < (gphOf ns rs bs).nn from nodeN_lt hto) h hab)
    have HTO := hide (fun k (hk : k < rs.length) => (show (gphOf ns rs bs).to_ k = nodeN ns to_ ↔ (arcX rs k).to_ = to_ from node_iff (arc_right hV.hC hk).2.1 hto))
    have HGM := hide (show (gphOf ns rs bs).m = rs.length from rfl)
    have r0 : wa.cell? ⟨w.heap.size, 0, none⟩ = some (.slice A nn ca) := (cell_of_row wa _ 0 _ _ _ hbx).trans rfl
    have r1 : wa.cell? ⟨w.heap.size, 1, none⟩ = some (.slice B rs.length cb) := (cell_of_row wa _ 1 _ _ _ hbx).trans rfl
    have r2 : wa.cell? ⟨w.heap.size, 2, none⟩ = some (.slice C bs.length cc) := (cell_of_row wa _ 2 _ _ _ hbx).trans rfl
    clear hV hbx he hab
    generalize gphOf ns rs bs = G at *
    generalize nodeN ns fr = a at *
    generalize nodeN ns to_ = b at *
    generalize arrG G a b at_ = V at *
    generalize hm : rs.length = m at *
    have HM := hide hm
    clear hm hfr hto
    go_enter Tryz.func75, Tryz.ntmps75
    go_wp2_with fail
    rw [← hwa]
    have HWA := hide hwa
    clear hwa
    generalize w.heap.size = gb at *
    go_wp2_with fail
    refine HO.out.mono ?_
    rintro e w1 ⟨g, o, rfl, hsol, hrow, hn1⟩
    have HROW := hide hrow
    have HLE := hide hsol.len
    have HV := hide (HSOL.out o hsol)
    have HBX1 := hide ((hn1.block gb (lt_heapA HBX.out)).trans HBX.out)
    have hnw := hna.trans hn1
    have HA1 := hide (HA.out.nx hn1)
    clear hrow hsol r0 r1 r2 HO HA
    go_wp2_with fail
    go_loopw [9, 21] (fun v i wr => ∃ k : Nat, k ≤ m ∧ i = .int .i64 k ∧ v = .int .i64 (leastTo G o b k) ∧ w1 = wr) (fun _ i _ => m - (intOf i).toNat)
    case atStart => exact ⟨0, Nat.zero_le _, rfl, rfl, rfl⟩
    case round =>
      obtain ⟨k, hk, rfl, rfl, rfl⟩ := hrel
      by_cases hlt : k < m
      · have hkl : k < rs.length := by have := HM.out; omega
        have c0 := intRowO_cell (i := k) HROW.out (by rw [HLE.out, HGM.out]; exact hlt)
        obtain ⟨b', off, rfl, _, hb, hbr, hc⟩ := HA1.out.1.open_ (Nx.refl _) (by have := HM.out; omega)
        have a2 : w1.cell? ⟨b', off + k * 5 + 2, none⟩ = some (.string rs[k].to_) := hc k hkl 2 _ rfl
        have r1 : w1.cell? ⟨gb, 1, none⟩ = some (.slice (some ⟨b', off, none⟩) m cb) := (cell_of_row w1 _ 1 _ _ _ HBX1.out).trans rfl
        have hT := HTO.out k hlt
        rw [arcX_get hkl] at hT
        have HT := hide hT
        have HST := hide (show leastTo G o b (k + 1) = if G.to_ k = b then (if gi o k < leastTo G o b k then gi o k else leastTo G o b k) else leastTo G o b k from rfl)
        have i1 : (0 : Int) ≤ (k : Int) := by omega
        have i2 : (k : Int) < (m : Int) := by omega
        clear hc hT
        generalize rs[k].to_ = kt at *
        generalize leastTo G o b k = L at *
        generalize gi o k = z at *
        by_cases hf : kt = to_
        · have te : (kt.toList == to_.toList) = true := by rw [eqS_iff]; exact decide_eq_true hf
          have hst := HST.out.trans (if_pos (HT.out.2 hf))
          have HS2 := hide hst
          clear hf hst
          go_wp2_with fail
          go_roundw
          case rel => exact ⟨k + 1, by omega, by go_num, by rw [HS2.out]; congr 1; omega, trivial⟩
          case measure => simp [intOf]; omega
        · have te : (kt.toList == to_.toList) = false := by rw [eqS_iff]; exact decide_eq_false hf
          have hst := HST.out.trans (if_neg (fun h => hf (HT.out.1 h)))
          have HS2 := hide hst
          clear hf hst
          go_wp2_with fail
          go_roundw
          case rel => exact ⟨k + 1, by omega, by go_num, by rw [HS2.out], trivial⟩
          case measure => simp [intOf]; omega
      · obtain rfl : m = k := by omega
        go_wp2_with fail
        go_ret
        exact ⟨ret_int (by rw [← HV.out, HGM.out]), hnw⟩
end Go.Proofs.YtbjbeddjaajdaaaGreatDoor
/- How much is covered from some nodes: the reference. -/
namespace Go.Proofs.YtbjbeddjaajdaaaGreatDoor
open Go.RowKit

theorem covS_bd {r : ByteArray → ByteArray → Bool} {l : List ByteArray} : ∀ (ws : List Wgt), (∀ w ∈ ws, 0 ≤ w.many ∧ w.many ≤ 1000000000) → 0 ≤ covS r l ws ∧ covS r l ws ≤ ws.length * 1000000000
  | [], _ => ⟨Int.le_refl _, by simp [covS]⟩
  | w :: ws, h => by
    have h1 := covS_bd (r := r) (l := l) ws (fun x hx => h x (List.mem_cons_of_mem _ hx))
    have h2 := h w (by simp)
    unfold covS
    rw [List.length_cons]
    split <;> omega
theorem covS_drop (r : ByteArray → ByteArray → Bool) (l : List ByteArray) (ws : List Wgt) (k : Nat) (hk : k < ws.length) : covS r l (ws.drop k) = (if l.any (fun s => r s ws[k].node) then ws[k].many else 0) + covS r l (ws.drop (k + 1)) := by
  rw [List.drop_eq_getElem_cons hk, covS]
end Go.Proofs.YtbjbeddjaajdaaaGreatDoor
/- Some nodes' keys: the stream's. -/
namespace Go.Proofs.YtbjbeddjaajdaaaGreatDoor
open Go.RowKit

theorem el_SN : ElemOf Tryz.prog 34 9 1 16 := ElemOf.mk' (z := .string ByteArray.empty) Tryz.underlying34 (by kernel_rfl) rfl
def StrKs (s k most : Nat) (w : World) (e : Ending) (w' : World) : Prop := ∃ (D : Option Addr) (cd : Nat) (l : List ByteArray), e = .returned (.slice D l.length cd) ∧ l.length ≤ most ∧ Rd w' w.heap.size D 1 encS l ∧ Gr s w w' ∧ Str w' s (k + 1 + 2 * most)
end Go.Proofs.YtbjbeddjaajdaaaGreatDoor
/- 'append(x[:len(x):len(x)], y)': a new row, at a step of a region that draws; elements of one cell. Of no program. -/
namespace Go.Proofs.YtbjbeddjaajdaaaGreatDoor
open Go.RowKit
theorem own_capF {w : World} {base : Nat} {e : TypeId} {K n m c : Nat} {A : Option Addr} {xs : List Value} (h : w.ownsRow base e K (.slice A m c) n xs) : n ≤ c := by
  rcases h.2 with ⟨_, h0⟩ | ⟨g, cap, cur, e1, _, _, hc, _⟩
  · omega
  · injection e1 with _ _ e3
    subst e3
    exact hc
theorem flat_one {α : Type} {enc : α → List Value} {val : α → Value} (henc : ∀ x, enc x = [val x]) (L : List α) : L.flatMap enc = L.map val := by
  induction L with
  | nil => rfl
  | cons x L ih => rw [List.flatMap_cons, henc, ih]; rfl
theorem step_full {α : Type} {P : Program} {w : World} {ops : Array Oper} {o : Oper} {a : Act} {K' : Act → World → Prop} {Q : Exit → Act → World → Prop} {E' : Prop} (hgd : o.guard = none) (s x : Operand) (t : TypeId)
    (ho : o.op = .call { callee := .builtin .append, args := #[s, x], argTypes := #[t, t] })
    {e : TypeId} {bytes : Nat} (E : ElemOf P t e 1 bytes) (enc : α → List Value) (val : α → Value) (henc : ∀ x, enc x = [val x]) (h1c : ∀ x, ∀ v ∈ enc x, v.oneCell' = true) (hB : bytes ≤ 1000)
    (lo : Nat) (N : Option Addr) (L : List α) (hs : a.eval s = .slice N L.length L.length) (hR : Rd w lo N 1 enc L) (g : Nat) (y : α) (cs : Array Value) (hx : a.eval x = .slice (some ⟨g, 0, none⟩) 1 1)
    (hblk : w.heap[g]? = some (.cells cs e (0, 0))) (hcs : cs.toList = enc y) (hlen : L.length ≤ 10000000)
    (h : ∀ v' w', w'.ownsRow w.heap.size e 1 v' (L ++ [y]).length ((L ++ [y]).flatMap enc) → Nx w w' → K' (a.put o.dst v') w') :
    if Region.wanted o (yielded ops a.tmps) = true then Oper.wp P o a w K' Q else E' := by
  obtain ⟨i, z, h1, h2, h3, h4, h5⟩ := E.hi
  refine step_append_grows hgd s x t ho e i z 1 bytes E.ht h1 h2 h3 h4 h5 (by omega) N L.length L.length (L.map val) hs (fun hN => ?_) (by rw [List.length_map, Nat.mul_one]) (fun b hb j u hj => ?_) ⟨g, 0, none⟩ 1 1 (enc y) hx (by rw [henc]; rfl) (news_of hblk hcs) (h1c y) (by omega) (by unfold maxLen; omega) ?_ (fun v' w' ho' hg' => ?_)
  · rcases Nat.eq_zero_or_pos L.length with h0 | h0
    · exact ⟨h0, h0⟩
    · obtain ⟨b, off, e1, _⟩ := hR h0
      rw [hN] at e1; cases e1
  · rw [List.getElem?_map] at hj
    obtain ⟨q, hq, rfl⟩ := Option.map_eq_some_iff.1 hj
    have hjl : j < L.length := by
      rcases Nat.lt_or_ge j L.length with h0 | h0
      · exact h0
      · rw [List.getElem?_eq_none h0] at hq; cases hq
    obtain ⟨b', off, e1, _, _, hc⟩ := hR (by omega)
    rw [hb] at e1
    injection e1 with e1
    subst e1
    have := hc j q hq 0 (val q) (by rw [henc]; rfl)
    rw [Addr.add_lit]
    simpa using this
  · have : (L.length + 1) * bytes ≤ 10000001 * 1000 := Nat.mul_le_mul (by omega) hB
    omega
  · have e1 : (L ++ [y]).length = L.length + 1 := by simp
    refine h v' w' ?_ ((Nx.refl w).grown hg' (fun k hk => by cases hk))
    rw [e1, List.flatMap_append, flat_one henc L]
    simpa using ho'
end Go.Proofs.YtbjbeddjaajdaaaGreatDoor
/- All choices in order: the reference. -/
namespace Go.Proofs.YtbjbeddjaajdaaaGreatDoor
open Go.RowKit

/-- The best that was found so far, in its two boxes. -/
def BestR (w : World) (base qM qB : Nat) (acc : List ByteArray × Int) : Prop := w.heap[qM]? = some (.cells #[.int .i64 acc.2] 3 (0, 0)) ∧ ∃ (B : Option Addr) (cb : Nat), w.heap[qB]? = some (.cells #[.slice B acc.1.length cb] 34 (0, 0)) ∧ Rd w base B 1 encS acc.1 ∧ acc.1.length ≤ cb
theorem BestR.step {w w' : World} {base qM qB : Nat} {acc : List ByteArray × Int} (h : BestR w base qM qB acc) (hn : Nx w w') : ∃ (B : Option Addr) (cb : Nat), w'.heap[qB]? = some (.cells #[.slice B acc.1.length cb] 34 (0, 0)) ∧ Rd w' base B 1 encS acc.1 ∧ acc.1.length ≤ cb := by
  obtain ⟨B, cb, h1, h2, h3⟩ := h.2
  exact ⟨B, cb, (hn.block qB (lt_of_heap h1)).trans h1, h2.nx hn, h3⟩
section
variable {w0 : World} {q0 qm qw qa qi qM qB qs qt base nn nr nb n m2 ca cb cc ce cs : Nat} {A B C E S : Option Addr} {ad wi many : Int} {sites : List ByteArray} {cov : List ByteArray → Int}
end
end Go.Proofs.YtbjbeddjaajdaaaGreatDoor
/- The best choice of all: the reference. -/
namespace Go.Proofs.YtbjbeddjaajdaaaGreatDoor
open Go.RowKit

/-- The best of all choices. -/
def chooseR (ns : List Node) (rs : List Arc) (bs : List Ban) (sites : List ByteArray) (many : Int) (ws : List Wgt) (ad wi : Int) : List ByteArray × Int := tryG (fun so => covS (reachB ns rs bs ad wi) so ws) many sites [] ([], -1)
end Go.Proofs.YtbjbeddjaajdaaaGreatDoor
