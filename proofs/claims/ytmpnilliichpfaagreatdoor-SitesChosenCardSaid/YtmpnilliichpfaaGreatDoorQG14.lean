/- Plain: the node from which another one is reached first. -/
import Derived.Test.YtmpnilliichpfaaGreatDoorQG8
import Derived.Test.YtmpnilliichpfaaGreatDoorQG13
import Derived.Test.YtmpnilliichpfaaGreatDoorQG6
import Derived.Test.YtmpnilliichpfaaGreatDoorQG1
import Derived.Test.YtmpnilliichpfaaGreatDoorQG11
import Derived.Test.YtmpnilliichpfaaGreatDoorQG3
import Derived.Deep.DeepCutAuto
import Derived.Test.YtmpnilliichpfaaGreatDoorQSrchV
import Derived.Test.YtmpnilliichpfaaGreatDoorQG21
namespace Go.Proofs.YtmpnilliichpfaaGreatDoor

/-- The first of those from which one arrives at the earliest, and when. -/
def nearO (v : ByteArray → Int) : List ByteArray → Nat → Int → Int → Int × Int
  | [], _, fi, be => (fi, be)
  | s :: l, k, fi, be => if v s < be then nearO v l (k + 1) (k : Int) (v s) else nearO v l (k + 1) fi be
theorem nearO_drop (v : ByteArray → Int) (l : List ByteArray) (k : Nat) (hk : k < l.length) (fi be : Int) : nearO v (l.drop k) k fi be = if v l[k] < be then nearO v (l.drop (k + 1)) (k + 1) (k : Int) (v l[k]) else nearO v (l.drop (k + 1)) (k + 1) fi be := by
  rw [List.drop_eq_getElem_cons hk, nearO]
/-- What is wrong with what Nearest is asked (of no more than 200 nodes). -/
def nearF (ns : List Node) (rs : List Arc) (bs : List Ban) (l : List ByteArray) (to_ : ByteArray) (ad : Int) : Int :=
  if roadsF ns rs bs = 0 then (if missB ns l = true ∨ nodeI ns to_ < 0 then 8 else if momB ad then 0 else 1) else roadsF ns rs bs
def arrS (ns : List Node) (rs : List Arc) (bs : List Ban) (s t : ByteArray) (ad : Int) : Int := arrG (gphOf ns rs bs) (nodeN ns s) (nodeN ns t) ad
def nearP (ns : List Node) (rs : List Arc) (bs : List Ban) (l : List ByteArray) (to_ : ByteArray) (ad : Int) : Int × Int := if nearF ns rs bs l to_ ad = 0 then nearO (fun s => arrS ns rs bs s to_ ad) l 0 (-1) endT else (-1, endT)
theorem miss_all {ns : List Node} {l : List ByteArray} (h : missB ns l = false) : ∀ s ∈ l, 0 ≤ nodeI ns s := by
  intro s hs
  unfold missB at h
  rw [List.any_eq_false] at h
  have := h s hs
  simp at this
  omega
end Go.Proofs.YtmpnilliichpfaaGreatDoor
/- Plain: weights, sites: what is wrong with them; how much is covered. -/
namespace Go.Proofs.YtmpnilliichpfaaGreatDoor

structure Wgt where
  node : ByteArray
  many : Int
instance : Inhabited Wgt := ⟨⟨default, default⟩⟩
def encW (p : Wgt) : List Value := [.string p.node, .int .i64 p.many]
theorem encW_len (p : Wgt) : (encW p).length = 2 := rfl
theorem encW_one (x : Wgt) : ∀ v ∈ encW x, v.oneCell' = true := by
  intro v hv; simp [encW] at hv; rcases hv with rfl | rfl <;> rfl
def aftW (p : Option Wgt) (w : Wgt) : Bool := match p with | some q => strLe w.node q.node | none => false
def wgtF (ns : List Node) (p : Option Wgt) (w : Wgt) : Int := if nodeI ns w.node < 0 then 8 else if aftW p w then 7 else argF (!outB w.many 0 1000000000)
/-- What is wrong with weights. -/
def wgtsF (ns : List Node) (l : List Wgt) : Int := if 500 < l.length then 2 else chk (wgtF ns) none l
/-- And with a moment and a time. -/
def restF (ns : List Node) (l : List Wgt) (ad wi : Int) : Int := if wgtsF ns l = 0 then argF (momB ad && !outB wi 0 86400000) else wgtsF ns l
def aftS (p : Option ByteArray) (s : ByteArray) : Bool := match p with | some q => strLe s q | none => false
def siteF (ns : List Node) (p : Option ByteArray) (s : ByteArray) : Int := if nodeI ns s < 0 then 8 else if aftS p s then 7 else 0
/-- What is wrong with sites. -/
def sitesF (ns : List Node) (l : List ByteArray) : Int := if 14 < l.length then 2 else chk (siteF ns) none l
theorem restF_or (ns : List Node) (l : List Wgt) (ad wi : Int) : orI [wgtsF ns l, momF ad, if outB wi 0 86400000 then 1 else 0] = restF ns l ad wi := by
  unfold restF momF argF
  by_cases h : wgtsF ns l = 0
  · rw [if_pos h, h]
    cases momB ad <;> cases outB wi 0 86400000 <;> rfl
  · rw [if_neg h]
    rw [orI, if_neg h]
/-- How much is covered by those of whom r tells what they reach. -/
def covS (r : ByteArray → ByteArray → Bool) (from_ : List ByteArray) : List Wgt → Int
  | [] => 0
  | w :: l => (if from_.any (fun s => r s w.node) then w.many else 0) + covS r from_ l
end Go.Proofs.YtmpnilliichpfaaGreatDoor
/- Plain: all choices in order, the best of them. -/
namespace Go.Proofs.YtmpnilliichpfaaGreatDoor
open Go.RowKit

def updC (cov : List ByteArray → Int) (so : List ByteArray) (acc : List ByteArray × Int) : List ByteArray × Int := if acc.2 < cov so then (so, cov so) else acc
/-- All choices that go on from some, with those that are left. -/
def tryL (cov : List ByteArray → Int) (many : Int) : List ByteArray → List ByteArray → List ByteArray × Int → List ByteArray × Int
  | [], _, acc => acc
  | s :: r, so, acc => tryL cov many r so (if ((so ++ [s]).length : Int) = many then updC cov (so ++ [s]) acc else tryL cov many r (so ++ [s]) acc)
def tryG (cov : List ByteArray → Int) (many : Int) (r so : List ByteArray) (acc : List ByteArray × Int) : List ByteArray × Int := if (so.length : Int) = many then updC cov so acc else tryL cov many r so acc
theorem tryL_drop (cov : List ByteArray → Int) (many : Int) (l : List ByteArray) (k : Nat) (hk : k < l.length) (so : List ByteArray) (acc : List ByteArray × Int) : tryL cov many (l.drop k) so acc = tryL cov many (l.drop (k + 1)) so (tryG cov many (l.drop (k + 1)) (so ++ [l[k]]) acc) := by
  rw [List.drop_eq_getElem_cons hk, tryL]
  rfl
/-- Two blocks may turn; the others stay. -/
def Kp (p q : Nat) (a w : World) : Prop := w.os = a.os ∧ w.tape = a.tape ∧ w.output = a.output ∧ a.heap.size ≤ w.heap.size ∧ ∀ i, i < a.heap.size → i ≠ p → i ≠ q → w.heap[i]? = a.heap[i]?
theorem Kp.refl (p q : Nat) (w : World) : Kp p q w w := ⟨rfl, rfl, rfl, Nat.le_refl _, fun _ _ _ _ => rfl⟩
theorem Kp.of_nx {p q : Nat} {a w : World} (h : Nx a w) : Kp p q a w := ⟨h.os, h.tape, h.output, h.sz, fun i hi _ _ => h.block i hi⟩
theorem Kp.trans {p q : Nat} {a b c : World} (h : Kp p q a b) (k : Kp p q b c) : Kp p q a c :=
  ⟨k.1.trans h.1, k.2.1.trans h.2.1, k.2.2.1.trans h.2.2.1, Nat.le_trans h.2.2.2.1 k.2.2.2.1, fun i hi h1 h2 => (k.2.2.2.2 i (Nat.lt_of_lt_of_le hi h.2.2.2.1) h1 h2).trans (h.2.2.2.2 i hi h1 h2)⟩
theorem Kp.sz {p q : Nat} {a w : World} (h : Kp p q a w) : a.heap.size ≤ w.heap.size := h.2.2.2.1
theorem Kp.set {p q : Nat} {a w : World} (h : Kp p q a w) (x : Addr) (u : Value) (hx : x.block = p ∨ x.block = q) : Kp p q a (w.setCell x u) :=
  ⟨h.1, h.2.1, h.2.2.1, by have := h.sz; simpa [World.setCell] using this, fun i hi h1 h2 => (Below.heap_setCell w x u i (by rintro rfl; exact hx.elim h1 h2)).trans (h.2.2.2.2 i hi h1 h2)⟩
theorem Kp.cell {p q : Nat} {a w : World} (h : Kp p q a w) {x : Addr} {v : Value} (hc : a.cell? x = some v) (hp : x.block ≠ p) (hq : x.block ≠ q) (hl : x.block < a.heap.size) : w.cell? x = some v := by
  have hb := h.2.2.2.2 x.block hl hp hq
  unfold World.cell? at hc ⊢
  rw [hb]
  exact hc
theorem Kp.nx {p q : Nat} {o a w : World} (h : Kp p q a w) (hn : Nx o a) (hp : o.heap.size ≤ p) (hq : o.heap.size ≤ q) : Nx o w :=
  ⟨h.1.trans hn.os, h.2.1.trans hn.tape, h.2.2.1.trans hn.output, Nat.le_trans hn.sz h.sz, fun i hi => (h.2.2.2.2 i (Nat.lt_of_lt_of_le hi hn.sz) (by omega) (by omega)).trans (hn.block i hi)⟩
theorem Rd.kp {α : Type} {w w' : World} {lo : Nat} {A : Option Addr} {K : Nat} {enc : α → List Value} {xs : List α} {p q : Nat} (h : Rd w lo A K enc xs) (hk : Kp p q w w') (hp : p < lo) (hq : q < lo) : Rd w' lo A K enc xs := fun hpos => by
  obtain ⟨b, off, e, hl, hb, hc⟩ := h hpos
  exact ⟨b, off, e, hl, Nat.lt_of_lt_of_le hb hk.sz, fun i x hx j u hu => hk.cell (hc i x hx j u hu) (show b ≠ p by omega) (show b ≠ q by omega) hb⟩
theorem Kp.blk {p q : Nat} {a w : World} (h : Kp p q a w) {i : Nat} {o : Obj} (hi : a.heap[i]? = some o) (hp : i ≠ p) (hq : i ≠ q) : w.heap[i]? = some o := (h.2.2.2.2 i (Array.getElem?_eq_some_iff.1 hi).1 hp hq).trans hi
end Go.Proofs.YtmpnilliichpfaaGreatDoor
/- Plain: how long the ways between nodes take; rows of rows in memory. -/
namespace Go.Proofs.YtmpnilliichpfaaGreatDoor
open Go.RowKit

structure RowE where
  a : Option Addr
  c : Nat
  l : List Int
instance : Inhabited RowE := ⟨⟨none, 0, []⟩⟩
def encRow (r : RowE) : List Value := [.slice r.a r.l.length r.c]
theorem encRow_len (r : RowE) : (encRow r).length = 1 := rfl
theorem encRow_one (x : RowE) : ∀ v ∈ encRow x, v.oneCell' = true := by
  intro v hv; simp [encRow] at hv; subst hv; rfl
/-- How long a way takes; -1: there is none. -/
def matV (v ad : Int) : Int := if v < endT then v - ad else -1
def matR (ns : List Node) (rs : List Arc) (bs : List Ban) (l : List ByteArray) (ad : Int) (s : ByteArray) : List Int := l.map fun t => matV (arrS ns rs bs s t ad) ad
def matL (ns : List Node) (rs : List Arc) (bs : List Ban) (l : List ByteArray) (ad : Int) : List (List Int) := l.map (matR ns rs bs l ad)
/-- What is wrong with what Matrix is asked (of no more than 50 nodes). -/
def matF (ns : List Node) (rs : List Arc) (bs : List Ban) (l : List ByteArray) (ad : Int) : Int :=
  if roadsF ns rs bs = 0 then (if missB ns l = true then 8 else if momB ad then 0 else 1) else roadsF ns rs bs
theorem first_m1 {ns : List Node} {rs : List Arc} {bs : List Ban} {i k : Nat} {ad : Int} (h2 : chk (arcF ns) none rs = 0) (hi : i < ns.length) (hk : k < ns.length) (h0 : 0 ≤ ad) (h : gi (searchG (gphOf ns rs bs) i ad).first k < 0) : gi (searchG (gphOf ns rs bs) i ad).first k = -1 := by
  have hF := search_found (gph_ok (bs := bs) h2) h0 (show i < (gphOf ns rs bs).nn from hi)
  by_cases e : k = i
  · rw [e, hF.f0.1] at h; omega
  · rcases hF.f1 k hk e with ⟨h1, _⟩ | ⟨j, _, h2, _, _, h5, _⟩
    · exact h1
    · omega
theorem map_drop {α β : Type} (f : α → β) (l : List α) (k : Nat) (hk : k < l.length) : (l.drop k).map f = f l[k] :: (l.drop (k + 1)).map f := by
  rw [List.drop_eq_getElem_cons hk, List.map_cons]
/-- Rows of the call's own. -/
def OwnRows (w : World) (base : Nat) (es : List RowE) : Prop := ∀ r ∈ es, w.ownsRow base 3 1 (.slice r.a r.l.length r.c) r.l.length (r.l.flatMap encI)
theorem OwnRows.kept {w w' : World} {base : Nat} {es : List RowE} (h : OwnRows w base es) {row : Option Nat} (hg : w.grownBy w' row) (hne : ∀ r ∈ es, (Value.slice r.a r.l.length r.c).ownBlock = none ∨ (Value.slice r.a r.l.length r.c).ownBlock ≠ row) : OwnRows w' base es :=
  fun r hr => (h r hr).kept hg (hne r hr)
theorem OwnRows.nx {w w' : World} {base : Nat} {es : List RowE} (h : OwnRows w base es) (hn : Nx w w') : OwnRows w' base es := fun r hr => own_nx (h r hr) hn
theorem OwnRows.gr {w w' : World} {base s : Nat} {es : List RowE} (h : OwnRows w base es) (hn : Gr s w w') (hs : s < base) : OwnRows w' base es := fun r hr => own_gr (h r hr) hn hs
end Go.Proofs.YtmpnilliichpfaaGreatDoor
/- Plain: rows of yes and no; how much is covered by them. -/
namespace Go.Proofs.YtmpnilliichpfaaGreatDoor
open Go.RowKit

def encBo (b : Bool) : List Value := [.bool b]
theorem encBo_len (b : Bool) : (encBo b).length = 1 := rfl
theorem encBo_one (b : Bool) : ∀ v ∈ encBo b, v.oneCell' = true := by
  intro v hv; simp [encBo] at hv; subst hv; rfl
structure RowB where
  a : Option Addr
  c : Nat
  l : List Bool
instance : Inhabited RowB := ⟨⟨none, 0, []⟩⟩
def encRowB (r : RowB) : List Value := [.slice r.a r.l.length r.c]
theorem encRowB_len (r : RowB) : (encRowB r).length = 1 := rfl
theorem encRowB_one (x : RowB) : ∀ v ∈ encRowB x, v.oneCell' = true := by
  intro v hv; simp [encRowB] at hv; subst hv; rfl
/-- How much is covered by rows: from place i on. -/
def covI (rows : List (List Bool)) : List Wgt → Nat → Int
  | [], _ => 0
  | w :: l, i => (if rows.any (fun r => r.getD i false) then w.many else 0) + covI rows l (i + 1)
theorem covI_drop (rows : List (List Bool)) (l : List Wgt) (k : Nat) (hk : k < l.length) : covI rows (l.drop k) k = (if rows.any (fun r => r.getD k false) then l[k].many else 0) + covI rows (l.drop (k + 1)) (k + 1) := by
  rw [List.drop_eq_getElem_cons hk, covI]
theorem covI_bd {rows : List (List Bool)} : ∀ (l : List Wgt) (i : Nat), (∀ w ∈ l, 0 ≤ w.many ∧ w.many ≤ 1000000000) → 0 ≤ covI rows l i ∧ covI rows l i ≤ l.length * 1000000000
  | [], _, _ => ⟨Int.le_refl _, by simp [covI]⟩
  | w :: l, i, h => by
    have h1 := covI_bd (rows := rows) l (i + 1) (fun x hx => h x (List.mem_cons_of_mem _ hx))
    have h2 := h w (by simp)
    unfold covI
    rw [List.length_cons]
    split <;> omega
theorem any_map {α β : Type} (f : α → β) (p : β → Bool) (l : List α) : (l.map f).any p = l.any (fun x => p (f x)) := by
  induction l with
  | nil => rfl
  | cons x l ih => rw [List.map_cons, List.any_cons, List.any_cons, ih]
/-- The rows tell what r tells. -/
theorem covI_covS (r : ByteArray → ByteArray → Bool) (from_ : List ByteArray) (l : List Wgt) : covI (from_.map fun s => l.map fun w => r s w.node) l 0 = covS r from_ l := by
  suffices h : ∀ (k : Nat), k ≤ l.length → covI (from_.map fun s => l.map fun w => r s w.node) (l.drop k) k = covS r from_ (l.drop k) from h 0 (Nat.zero_le _)
  intro k hk
  obtain ⟨d, hd⟩ : ∃ d, d = l.length - k := ⟨_, rfl⟩
  induction d generalizing k with
  | zero =>
    rw [List.drop_eq_nil_of_le (by omega)]
    rfl
  | succ d ih =>
    have hlt : k < l.length := by omega
    rw [covI_drop _ _ _ hlt, ih (k + 1) (by omega) (by omega), List.drop_eq_getElem_cons hlt, covS, any_map]
    have e : (fun s => (l.map fun w => r s w.node).getD k false) = fun s => r s l[k].node := by
      funext s
      rw [List.getD_eq_getElem?_getD, List.getElem?_map, List.getElem?_eq_getElem hlt]
      rfl
    rw [e]
/-- All weights lie in their bounds. -/
theorem wgts_bd {ns : List Node} {l : List Wgt} (h : wgtsF ns l = 0) : l.length ≤ 500 ∧ ∀ w ∈ l, 0 ≤ nodeI ns w.node ∧ 0 ≤ w.many ∧ w.many ≤ 1000000000 := by
  unfold wgtsF at h
  by_cases h0 : 500 < l.length
  · rw [if_pos h0] at h; exact absurd h (by decide)
  · rw [if_neg h0] at h
    refine ⟨by omega, chk_all (F := wgtF ns) (Q := fun w => 0 ≤ nodeI ns w.node ∧ 0 ≤ w.many ∧ w.many ≤ 1000000000) (fun p x hx => ?_) l none h⟩
    unfold wgtF at hx
    split at hx
    · exact absurd hx (by decide)
    rename_i h1
    split at hx
    · exact absurd hx (by decide)
    cases ho : outB x.many 0 1000000000 with
    | true => rw [ho] at hx; exact absurd hx (by decide)
    | false =>
      have := (outB_false).1 ho
      exact ⟨by omega, this.1, this.2⟩
end Go.Proofs.YtmpnilliichpfaaGreatDoor
/- What is wrong with weights, with sites: the program and the reference. -/
namespace Go.Proofs.YtmpnilliichpfaaGreatDoor
open Go.RowKit

set_option maxRecDepth 100000 in
set_option maxHeartbeats 2000000 in
theorem w_WeightsFault (lo : Nat) (A B C : Option Addr) (n1 n2 c1 c2 c3 : Nat) (ns : List Node) (lo2 : Nat) (D : Option Addr) (cd : Nat) (l : List Wgt) (w : World) (hR : Rd w lo A 3 encNode ns) (hl : ns.length ≤ 65536) (hD : Rd w lo2 D 2 encW l) (hdl : l.length ≤ 65536) :
    Calls Tryz.prog 23 #[.agg #[.slice A ns.length c1, .slice B n1 c2, .slice C n2 c3], .slice D l.length cd] w fun e w' => e = .returned (.int .i64 (wgtsF ns l)) ∧ Nx w w' := by
  obtain ⟨wa, hwa⟩ : ∃ wa, wa = w.alloc (.cells #[.slice A ns.length c1, .slice B n1 c2, .slice C n2 c3] 30) := ⟨_, rfl⟩
  have hna : Nx w wa := hwa ▸ (Nx.refl w).alloc _
  have hgw : w.heap.size < wa.heap.size := by rw [hwa]; simp
  have b0 : wa.cell? ⟨w.heap.size, 0, none⟩ = some (.slice A ns.length c1) := by rw [hwa]; go_simp
  have b1 : wa.cell? ⟨w.heap.size, 1, none⟩ = some (.slice B n1 c2) := by rw [hwa]; go_simp
  have b2 : wa.cell? ⟨w.heap.size, 2, none⟩ = some (.slice C n2 c3) := by rw [hwa]; go_simp
  have HBX := hide (fun W (hg : Nx wa W) => (⟨nx_cell hg hgw b0, nx_cell hg hgw b1, nx_cell hg hgw b2⟩ : W.cell? ⟨w.heap.size, 0, none⟩ = some (.slice A ns.length c1) ∧ W.cell? ⟨w.heap.size, 1, none⟩ = some (.slice B n1 c2) ∧ W.cell? ⟨w.heap.size, 2, none⟩ = some (.slice C n2 c3)))
  have HNA := hide (fun s W (hg : Nx wa W) => w_NodeAt lo A B C n1 n2 c1 c2 c3 ns s W (hR.nx (hna.trans hg)) hl)
  have HD := hide (hD.nx hna)
  have HWA := hide hwa
  have HN0 := hide hna
  clear hR hD b0 b1 b2 hgw hwa hna
  generalize hn : l.length = n at *
  have HN := hide hn
  clear hn
  generalize ns.length = nn at *
  by_cases hbig : 500 < n
  · go_enter Tryz.func23, Tryz.ntmps23
    go_wp2_with fail
    go_ret
    exact ⟨ret_int (by unfold wgtsF; rw [if_pos (by rw [HN.out]; exact hbig)]), by rw [← HWA.out]; exact HN0.out⟩
  · have HF := hide (show wgtsF ns l = chk (wgtF ns) none l by unfold wgtsF; rw [if_neg (by rw [HN.out]; exact hbig)])
    go_enter Tryz.func23, Tryz.ntmps23
    go_upto_region 3 with fail
    rw [← HWA.out]
    clear HWA
    generalize w.heap.size = g at *
    go_wp2_with fail
    go_loopw [12] (fun i wr => ∃ k : Nat, k ≤ n ∧ i = .int .i64 k ∧ Nx wa wr ∧ chk (wgtF ns) none l = chk (wgtF ns) (prevOf l k) (l.drop k)) (fun i _ => n - (intOf i).toNat)
    case atStart => exact ⟨0, Nat.zero_le _, rfl, Nx.refl _, rfl⟩
    case round =>
      obtain ⟨k, hk, rfl, hbw, hq⟩ := hrel
      have HQ := hide hq
      clear hq
      by_cases hlt : k < n
      · have hlt' : k < l.length := by have := HN.out; omega
        obtain ⟨b, off, rfl, _, hb, hbr, hc⟩ := HD.out.open_ hbw (by omega)
        have c0 : wr.cell? ⟨b, off + k * 2, none⟩ = some (.string l[k].node) := hc k hlt' 0 _ rfl
        have c1 : wr.cell? ⟨b, off + k * 2 + 1, none⟩ = some (.int .i64 l[k].many) := hc k hlt' 1 _ rfl
        have HC := hide hc
        clear hc
        have HDR := hide (chk_drop (wgtF ns) l k hlt')
        have HA := hide (HNA.out l[k].node)
        have HPV := hide (fun hk0 : 0 < k => prevOf_pos l k hk0 (by omega))
        have HC4 := hide (fun hk0 : 0 < k => (show wr.cell? ⟨b, off + (k - 1) * 2, none⟩ = some (.string (l[k - 1]'(by omega)).node) from HC.out (k - 1) (by omega) 0 _ rfl))
        obtain ⟨z0, z1, z2⟩ := HBX.out (wr.alloc (.cells #[.string l[k].node, .int .i64 l[k].many] 117)) (hbw.alloc _)
        have hbl : wr.heap.size < (wr.alloc (.cells #[.string l[k].node, .int .i64 l[k].many] 117)).heap.size := by simp
        have k0 : (wr.alloc (.cells #[.string l[k].node, .int .i64 l[k].many] 117)).cell? ⟨wr.heap.size, 0, none⟩ = some (.string l[k].node) := by go_simp
        have k1 : (wr.alloc (.cells #[.string l[k].node, .int .i64 l[k].many] 117)).cell? ⟨wr.heap.size, 1, none⟩ = some (.int .i64 l[k].many) := by go_simp
        have hbr2 : b < (wr.alloc (.cells #[.string l[k].node, .int .i64 l[k].many] 117)).heap.size := by simp; omega
        have hba : Nx wr (wr.alloc (.cells #[.string l[k].node, .int .i64 l[k].many] 117)) := (Nx.refl wr).alloc _
        have HBA := hide (hbw.alloc (.cells #[.string l[k].node, .int .i64 l[k].many] 117))
        have HK := hide (⟨k0, k1⟩ : _ ∧ _)
        have HBA2 := hide hba
        clear k0 k1 hba
        have HMK : Hid (∀ W, Nx (wr.alloc (.cells #[.string l[k].node, .int .i64 l[k].many] 117)) W → W.cell? ⟨wr.heap.size, 0, none⟩ = some (.string l[k].node) ∧ W.cell? ⟨wr.heap.size, 1, none⟩ = some (.int .i64 l[k].many)) := hide (fun W h => ⟨nx_cell h hbl HK.out.1, nx_cell h hbl HK.out.2⟩)
        have HMC : Hid (∀ W, Nx (wr.alloc (.cells #[.string l[k].node, .int .i64 l[k].many] 117)) W → 0 < k → ∃ p0 : ByteArray, prevOf l k = some ⟨p0, (l[k - 1]'(by omega)).many⟩ ∧ W.cell? ⟨b, off + (k - 1) * 2, none⟩ = some (.string p0)) := hide (fun W h hk0 => ⟨_, HPV.out hk0, nx_cell (HBA2.out.trans h) hbr (HC4.out hk0)⟩)
        clear hbl hbr2 HC HC4 HPV
        by_cases hn0 : nodeI ns l[k].node < 0
        · have HV := hide (show wgtF ns (prevOf l k) l[k] = 8 from if_pos hn0)
          have t0 : decide (nodeI ns l[k].node < 0) = true := decide_eq_true hn0
          have HN8 := hide hn0
          clear hn0
          go_wp2_with (go_at_call 81; refine (HA.out _ HBA.out).mono ?_; rintro e w2 ⟨rfl, hn2⟩)
          go_ret
          exact ⟨ret_int (by rw [HF.out, HQ.out, HDR.out, HV.out]; rfl), (HN0.out.trans HBA.out).trans hn2⟩
        · have t0 : decide (nodeI ns l[k].node < 0) = false := decide_eq_false hn0
          have HV0 := hide (show wgtF ns (prevOf l k) l[k] = if aftW (prevOf l k) l[k] then 7 else argF (!outB l[k].many 0 1000000000) from if_neg hn0)
          clear hn0
          by_cases hk0 : 0 < k
          · have q0 : decide ((0 : Int) < (k : Int)) = true := by simpa using hk0
            have q1 : IntKind.i64.wrap ((k : Int) - 1) = (k : Int) - 1 := IntWalk.i64_in _ (by omega)
            have q2 : (1 : Int) ≤ (k : Int) := by omega
            have q3 : ((k : Int) - 1).toNat = k - 1 := by omega
            have q4 : (k : Int) - 1 < (n : Int) := by omega
            obtain ⟨p0, hp0, _⟩ := HMC.out _ (Nx.refl _) hk0
            have HMC2 : Hid (∀ W, Nx (wr.alloc (.cells #[.string l[k].node, .int .i64 l[k].many] 117)) W → W.cell? ⟨b, off + (k - 1) * 2, none⟩ = some (.string p0)) := hide (fun W h => by
              obtain ⟨p1, h1, h2⟩ := HMC.out W h hk0
              rw [hp0] at h1
              injection h1 with h1
              injection h1 with h1 _
              rw [h1]; exact h2)
            have HV1 := hide (show aftW (prevOf l k) l[k] = strLe l[k].node p0 by rw [hp0]; rfl)
            clear hp0 HMC
            cases ho : strLe l[k].node p0
            · have t1 : (Op.bytesLess l[k].node.toList p0.toList || l[k].node.toList == p0.toList) = false := ho
              rw [ho] at HV1
              clear ho
              cases hp : outB l[k].many 0 1000000000
              all_goals
                have HP := hide hp
                have t2 : inB l[k].many 0 1000000000 = !outB l[k].many 0 1000000000 := inB_out _ _ _
                rw [hp] at t2
                clear hp
                go_wp2_with (go_at_call 81; refine (HA.out _ HBA.out).mono ?_; rintro e w2 ⟨rfl, hn2⟩; obtain ⟨m0, m1⟩ := HMK.out _ hn2; have m2 := HMC2.out _ hn2)
                go_quiet (fail)
                go_wp2_with (go_at_call 80; refine (w_in _ _ _ _).mono ?_; rw [t2]; rintro e w' ⟨rfl, rfl⟩)
              · go_roundw
                case rel => exact ⟨k + 1, by omega, by go_num, ((HBA.out.trans hn2)).drewN _, by rw [HQ.out, HDR.out, HV0.out, HV1.out]; unfold argF; rw [HP.out]; rfl⟩
                case measure => simp [intOf]; omega
              · go_ret
                exact ⟨ret_int (by rw [HF.out, HQ.out, HDR.out, HV0.out, HV1.out]; unfold argF; rw [HP.out]; rfl), ((HN0.out.trans HBA.out).trans hn2).drewN _⟩
            · have t1 : (Op.bytesLess l[k].node.toList p0.toList || l[k].node.toList == p0.toList) = true := ho
              rw [ho] at HV1
              clear ho
              go_wp2_with (go_at_call 81; refine (HA.out _ HBA.out).mono ?_; rintro e w2 ⟨rfl, hn2⟩; obtain ⟨m0, m1⟩ := HMK.out _ hn2; have m2 := HMC2.out _ hn2)
              go_quiet (fail)
              go_wp2
              go_ret
              exact ⟨ret_int (by rw [HF.out, HQ.out, HDR.out, HV0.out, HV1.out]; rfl), ((HN0.out.trans HBA.out).trans hn2).drewN _⟩
          · have HV1 := hide (show aftW (prevOf l k) l[k] = false by have e : k = 0 := (by omega); subst e; rw [prevOf_zero]; rfl)
            have q0 : decide ((0 : Int) < (k : Int)) = false := by simpa using hk0
            clear HMC
            cases hp : outB l[k].many 0 1000000000
            all_goals
              have HP := hide hp
              have t2 : inB l[k].many 0 1000000000 = !outB l[k].many 0 1000000000 := inB_out _ _ _
              rw [hp] at t2
              clear hp
              go_wp2_with (go_at_call 81; refine (HA.out _ HBA.out).mono ?_; rintro e w2 ⟨rfl, hn2⟩; obtain ⟨m0, m1⟩ := HMK.out _ hn2)
              go_quiet (fail)
              go_wp2_with (go_at_call 80; refine (w_in _ _ _ _).mono ?_; rw [t2]; rintro e w' ⟨rfl, rfl⟩)
            · go_roundw
              case rel => exact ⟨k + 1, by omega, by go_num, ((HBA.out.trans hn2)).drewN _, by rw [HQ.out, HDR.out, HV0.out, HV1.out]; unfold argF; rw [HP.out]; rfl⟩
              case measure => simp [intOf]; omega
            · go_ret
              exact ⟨ret_int (by rw [HF.out, HQ.out, HDR.out, HV0.out, HV1.out]; unfold argF; rw [HP.out]; rfl), ((HN0.out.trans HBA.out).trans hn2).drewN _⟩
      · go_wp2_with fail
        go_ret
        exact ⟨ret_int (by rw [HF.out, HQ.out, List.drop_of_length_le (by have := HN.out; omega)]; rfl), HN0.out.trans hbw⟩
end Go.Proofs.YtmpnilliichpfaaGreatDoor
/- What is wrong with weights: the program. -/
namespace Go.Proofs.YtmpnilliichpfaaGreatDoor
open Go.RowKit

theorem w_isNode1 (s : ByteArray) (y : Node) (q : Nat) (w : World) (hq : w.cell? ⟨q, 0, none⟩ = some (.string s)) (hql : q < w.heap.size) :
    Calls Tryz.prog 141 #[.agg #[.string y.key, .int .i64 y.x, .int .i64 y.y], .pointer (some ⟨q, 0, none⟩)] w fun e w' => e = .returned (.bool (decide (y.key = s))) ∧ Nx w w' := by
  have hq2 : ∀ o, (w.alloc o).cell? ⟨q, 0, none⟩ = some (.string s) := fun o => nx_cell ((Nx.refl w).alloc o) hql hq
  go_enter Tryz.func141, Tryz.ntmps141
  go_wp2
  go_ret
  exact ⟨congrArg (fun b => Ending.returned (.bool b)) (eqS_iff _ _), (Nx.refl _).alloc _⟩
theorem eg_isNode1 : Enters 141 := enters_of Tryz.func141 (by kernel_rfl) rfl
set_option maxRecDepth 100000 in
set_option maxHeartbeats 1000000 in
theorem w_ContFN (g : Nat) (p : Node → Bool) (cap : Value) (eg : Enters g) (lo : Nat) (A : Option Addr) (c : Nat) (l : List Node) (w : World) (hcl : ∀ (y : Node) W, Nx w W → Calls Tryz.prog g #[.agg #[.string y.key, .int .i64 y.x, .int .i64 y.y], cap] W fun e w' => e = .returned (.bool (p y)) ∧ Nx W w')
    (hR : Rd w lo A 3 encNode l) (hl : l.length ≤ 65536) :
    Calls Tryz.prog 140 #[.slice A l.length c, .func (.func g) #[] #[cap]] w fun e w' => e = .returned (.bool (decide (0 ≤ findI p l))) ∧ Nx w w' := by
  have HC := hide (w_IndexFN g p cap eg lo A c l w hcl hR hl)
  generalize findI p l = r at *
  clear hcl eg hR hl
  generalize l.length = n at *
  obtain ⟨z, hz⟩ : ∃ z, z = decide (0 ≤ r) := ⟨_, rfl⟩
  rw [← hz]
  have h1 := hz.symm
  have h2 : decide (r ≥ 0) = z := h1
  clear hz
  go_enter Tryz.func140, Tryz.ntmps140
  go_wp2_with (go_at_call 147; refine HC.out.mono ?_; rintro e w2 ⟨rfl, hn2⟩)
  go_ret
  exact ⟨rfl, hn2⟩
set_option maxRecDepth 100000 in
set_option maxHeartbeats 1000000 in
theorem w_isNodeD (g0 lo : Nat) (A : Option Addr) (c : Nat) (ns : List Node) (s : ByteArray) (w : World) (hg : w.cell? ⟨g0, 0, none⟩ = some (.slice A ns.length c)) (hgl : g0 < w.heap.size) (hR : Rd w lo A 3 encNode ns) (hl : ns.length ≤ 65536) :
    Calls Tryz.prog 70 #[.pointer (some ⟨g0, 0, none⟩), .string s] w fun e w' => e = .returned (.bool (decide (0 ≤ nodeI ns s))) ∧ Nx w w' := by
  obtain ⟨wa, hwa⟩ : ∃ wa, wa = w.alloc (.cells #[.string s] 9) := ⟨_, rfl⟩
  have hna : Nx w wa := hwa ▸ (Nx.refl w).alloc _
  have hgw : w.heap.size < wa.heap.size := by rw [hwa]; simp
  have b0 : wa.cell? ⟨w.heap.size, 0, none⟩ = some (.string s) := by rw [hwa]; go_simp
  have z0 := nx_cell hna hgl hg
  have HC := hide (w_ContFN 141 (fun n => decide (n.key = s)) (.pointer (some ⟨w.heap.size, 0, none⟩)) eg_isNode1 lo A c ns wa (fun y W h => w_isNode1 s y w.heap.size W (nx_cell h hgw b0) (Nat.lt_of_lt_of_le hgw h.sz)) (hR.nx hna) hl)
  rw [show findI (fun n : Node => decide (n.key = s)) ns = nodeI ns s from rfl] at HC
  have HWA := hide hwa
  have HNA := hide hna
  clear hwa hna hg hR b0 hgw
  generalize nodeI ns s = r at *
  generalize ns.length = n at *
  go_enter Tryz.func70, Tryz.ntmps70
  go_upto_region 1 with fail
  rw [← HWA.out]
  generalize w.heap.size = g at *
  go_wp2_with (go_at_call 140; refine HC.out.mono ?_; rintro e w2 ⟨rfl, hn2⟩)
  go_ret
  exact ⟨rfl, HNA.out.trans hn2⟩
set_option maxRecDepth 100000 in
set_option maxHeartbeats 2000000 in
theorem w_weightsD (g0 lo : Nat) (A : Option Addr) (c1 : Nat) (ns : List Node) (lo2 : Nat) (D : Option Addr) (cd : Nat) (l : List Wgt) (ad wi : Int) (w : World) (hg : w.cell? ⟨g0, 0, none⟩ = some (.slice A ns.length c1)) (hgl : g0 < w.heap.size) (hR : Rd w lo A 3 encNode ns) (hl : ns.length ≤ 65536) (hD : Rd w lo2 D 2 encW l) (hdl : l.length ≤ 65536) :
    Calls Tryz.prog 71 #[.pointer (some ⟨g0, 0, none⟩), .slice D l.length cd, .int .i64 ad, .int .i64 wi] w fun e w' => e = .returned (.int .i64 (restF ns l ad wi)) ∧ Nx w w' := by
  have HNA := hide (fun s W (hg2 : Nx w W) => w_isNodeD g0 lo A c1 ns s W (nx_cell hg2 hgl hg) (Nat.lt_of_lt_of_le hgl hg2.sz) (hR.nx hg2) hl)
  have HD := hide hD
  clear hR hD hg hgl
  generalize hn : l.length = n at *
  have HN := hide hn
  clear hn
  generalize ns.length = nn at *
  by_cases hbig : 500 < n
  · go_enter Tryz.func71, Tryz.ntmps71
    go_wp2_with fail
    go_ret
    exact ⟨ret_int (by unfold restF wgtsF; rw [if_pos (show 500 < l.length by rw [HN.out]; exact hbig), if_neg (by decide)]), Nx.refl _⟩
  · have HRS := hide (fun z (h0 : z ≠ 0) (h : wgtsF ns l = z) => (show restF ns l ad wi = z from by unfold restF; rw [if_neg (by rw [h]; exact h0), h]))
    have HF := hide (show wgtsF ns l = chk (wgtF ns) none l by unfold wgtsF; rw [if_neg (by rw [HN.out]; exact hbig)])
    go_enter Tryz.func71, Tryz.ntmps71
    go_wp2_with fail
    go_loopw [16] (fun i wr => ∃ k : Nat, k ≤ n ∧ i = .int .i64 k ∧ Nx w wr ∧ chk (wgtF ns) none l = chk (wgtF ns) (prevOf l k) (l.drop k)) (fun i _ => n - (intOf i).toNat)
    case atStart => exact ⟨0, Nat.zero_le _, rfl, Nx.refl _, rfl⟩
    case round =>
      obtain ⟨k, hk, rfl, hbw, hq⟩ := hrel
      have HQ := hide hq
      clear hq
      by_cases hlt : k < n
      · have hlt' : k < l.length := by have := HN.out; omega
        obtain ⟨b, off, rfl, _, hb, hbr, hc⟩ := HD.out.open_ hbw (by omega)
        have c0 : wr.cell? ⟨b, off + k * 2, none⟩ = some (.string l[k].node) := hc k hlt' 0 _ rfl
        have c1 : wr.cell? ⟨b, off + k * 2 + 1, none⟩ = some (.int .i64 l[k].many) := hc k hlt' 1 _ rfl
        have HC := hide hc
        clear hc
        have HDR := hide (chk_drop (wgtF ns) l k hlt')
        have HA := hide (HNA.out l[k].node)
        have HPV := hide (fun hk0 : 0 < k => prevOf_pos l k hk0 (by omega))
        have HC4 := hide (fun hk0 : 0 < k => (show wr.cell? ⟨b, off + (k - 1) * 2, none⟩ = some (.string (l[k - 1]'(by omega)).node) from HC.out (k - 1) (by omega) 0 _ rfl))
        have hbl : wr.heap.size < (wr.alloc (.cells #[.string l[k].node, .int .i64 l[k].many] 117)).heap.size := by simp
        have k0 : (wr.alloc (.cells #[.string l[k].node, .int .i64 l[k].many] 117)).cell? ⟨wr.heap.size, 0, none⟩ = some (.string l[k].node) := by go_simp
        have k1 : (wr.alloc (.cells #[.string l[k].node, .int .i64 l[k].many] 117)).cell? ⟨wr.heap.size, 1, none⟩ = some (.int .i64 l[k].many) := by go_simp
        have hbr2 : b < (wr.alloc (.cells #[.string l[k].node, .int .i64 l[k].many] 117)).heap.size := by simp; omega
        have hba : Nx wr (wr.alloc (.cells #[.string l[k].node, .int .i64 l[k].many] 117)) := (Nx.refl wr).alloc _
        have HBA := hide (hbw.alloc (.cells #[.string l[k].node, .int .i64 l[k].many] 117))
        have HK := hide (⟨k0, k1⟩ : _ ∧ _)
        have HBA2 := hide hba
        clear k0 k1 hba
        have HMK : Hid (∀ W, Nx (wr.alloc (.cells #[.string l[k].node, .int .i64 l[k].many] 117)) W → W.cell? ⟨wr.heap.size, 0, none⟩ = some (.string l[k].node) ∧ W.cell? ⟨wr.heap.size, 1, none⟩ = some (.int .i64 l[k].many)) := hide (fun W h => ⟨nx_cell h hbl HK.out.1, nx_cell h hbl HK.out.2⟩)
        have HMC : Hid (∀ W, Nx (wr.alloc (.cells #[.string l[k].node, .int .i64 l[k].many] 117)) W → 0 < k → ∃ p0 : ByteArray, prevOf l k = some ⟨p0, (l[k - 1]'(by omega)).many⟩ ∧ W.cell? ⟨b, off + (k - 1) * 2, none⟩ = some (.string p0)) := hide (fun W h hk0 => ⟨_, HPV.out hk0, nx_cell (HBA2.out.trans h) hbr (HC4.out hk0)⟩)
        clear hbl hbr2 HC HC4 HPV
        by_cases hn0 : nodeI ns l[k].node < 0
        · have HV := hide (show wgtF ns (prevOf l k) l[k] = 8 from if_pos hn0)
          have t0 : decide (0 ≤ nodeI ns l[k].node) = false := decide_eq_false (by omega)
          have HN8 := hide hn0
          clear hn0
          go_wp2_with (go_at_call 70; refine (HA.out _ HBA.out).mono ?_; rintro e w2 ⟨rfl, hn2⟩)
          go_ret
          exact ⟨ret_int (HRS.out _ (by decide) (by rw [HF.out, HQ.out, HDR.out, HV.out]; rfl)).symm, HBA.out.trans hn2⟩
        · have t0 : decide (0 ≤ nodeI ns l[k].node) = true := decide_eq_true (by omega)
          have HV0 := hide (show wgtF ns (prevOf l k) l[k] = if aftW (prevOf l k) l[k] then 7 else argF (!outB l[k].many 0 1000000000) from if_neg hn0)
          clear hn0
          by_cases hk0 : 0 < k
          · have q0 : decide ((0 : Int) < (k : Int)) = true := by simpa using hk0
            have q1 : IntKind.i64.wrap ((k : Int) - 1) = (k : Int) - 1 := IntWalk.i64_in _ (by omega)
            have q2 : (1 : Int) ≤ (k : Int) := by omega
            have q3 : ((k : Int) - 1).toNat = k - 1 := by omega
            have q4 : (k : Int) - 1 < (n : Int) := by omega
            obtain ⟨p0, hp0, _⟩ := HMC.out _ (Nx.refl _) hk0
            have HMC2 : Hid (∀ W, Nx (wr.alloc (.cells #[.string l[k].node, .int .i64 l[k].many] 117)) W → W.cell? ⟨b, off + (k - 1) * 2, none⟩ = some (.string p0)) := hide (fun W h => by
              obtain ⟨p1, h1, h2⟩ := HMC.out W h hk0
              rw [hp0] at h1
              injection h1 with h1
              injection h1 with h1 _
              rw [h1]; exact h2)
            have HV1 := hide (show aftW (prevOf l k) l[k] = strLe l[k].node p0 by rw [hp0]; rfl)
            clear hp0 HMC
            cases ho : strLe l[k].node p0
            · have t1 : (Op.bytesLess l[k].node.toList p0.toList || l[k].node.toList == p0.toList) = false := ho
              rw [ho] at HV1
              clear ho
              cases hp : outB l[k].many 0 1000000000
              all_goals
                have HP := hide hp
                have t2 := hp
                clear hp
                go_wp2_with (go_at_call 70; refine (HA.out _ HBA.out).mono ?_; rintro e w2 ⟨rfl, hn2⟩; obtain ⟨m0, m1⟩ := HMK.out _ hn2; have m2 := HMC2.out _ hn2)
                go_quiet (fail)
                go_wp2_with (go_at_call 76; refine (w_Out _ _ _ _).mono ?_; rw [t2]; rintro e w' ⟨rfl, rfl⟩)
              · go_roundw
                case rel => exact ⟨k + 1, by omega, by go_num, ((HBA.out.trans hn2)).drewN _, by rw [HQ.out, HDR.out, HV0.out, HV1.out]; unfold argF; rw [HP.out]; rfl⟩
                case measure => simp [intOf]; omega
              · go_ret
                exact ⟨ret_int (HRS.out _ (by decide) (by rw [HF.out, HQ.out, HDR.out, HV0.out, HV1.out]; unfold argF; rw [HP.out]; rfl)).symm, (HBA.out.trans hn2).drewN _⟩
            · have t1 : (Op.bytesLess l[k].node.toList p0.toList || l[k].node.toList == p0.toList) = true := ho
              rw [ho] at HV1
              clear ho
              go_wp2_with (go_at_call 70; refine (HA.out _ HBA.out).mono ?_; rintro e w2 ⟨rfl, hn2⟩; obtain ⟨m0, m1⟩ := HMK.out _ hn2; have m2 := HMC2.out _ hn2)
              go_quiet (fail)
              go_wp2
              go_ret
              exact ⟨ret_int (HRS.out _ (by decide) (by rw [HF.out, HQ.out, HDR.out, HV0.out, HV1.out]; rfl)).symm, (HBA.out.trans hn2).drewN _⟩
          · have HV1 := hide (show aftW (prevOf l k) l[k] = false by have e : k = 0 := (by omega); subst e; rw [prevOf_zero]; rfl)
            have q0 : decide ((0 : Int) < (k : Int)) = false := by simpa using hk0
            clear HMC
            cases hp : outB l[k].many 0 1000000000
            all_goals
              have HP := hide hp
              have t2 := hp
              clear hp
              go_wp2_with (go_at_call 70; refine (HA.out _ HBA.out).mono ?_; rintro e w2 ⟨rfl, hn2⟩; obtain ⟨m0, m1⟩ := HMK.out _ hn2)
              go_quiet (fail)
              go_wp2_with (go_at_call 76; refine (w_Out _ _ _ _).mono ?_; rw [t2]; rintro e w' ⟨rfl, rfl⟩)
            · go_roundw
              case rel => exact ⟨k + 1, by omega, by go_num, ((HBA.out.trans hn2)).drewN _, by rw [HQ.out, HDR.out, HV0.out, HV1.out]; unfold argF; rw [HP.out]; rfl⟩
              case measure => simp [intOf]; omega
            · go_ret
              exact ⟨ret_int (HRS.out _ (by decide) (by rw [HF.out, HQ.out, HDR.out, HV0.out, HV1.out]; unfold argF; rw [HP.out]; rfl)).symm, (HBA.out.trans hn2).drewN _⟩
      · have HE := hide (show restF ns l ad wi = argF (momB ad && !outB wi 0 86400000) from if_pos (by rw [HF.out, HQ.out, List.drop_of_length_le (by have := HN.out; omega)]; rfl))
        cases hm : momB ad
        · have HM := hide hm
          go_wp2_with (go_at_call 126; refine (w_Moment _ _).mono ?_; rw [hm]; rintro e w' ⟨rfl, rfl⟩)
          go_ret
          exact ⟨ret_int (by rw [HE.out, HM.out]; rfl), hbw⟩
        · cases ho : outB wi 0 86400000
          all_goals
            have HM := hide hm
            have HO := hide ho
            go_wp2_with (first | (go_at_call 126; refine (w_Moment _ _).mono ?_; rw [hm]; rintro e w' ⟨rfl, rfl⟩) | (go_at_call 76; refine (w_Out _ _ _ _).mono ?_; rw [ho]; rintro e w' ⟨rfl, rfl⟩))
            go_ret
            exact ⟨ret_int (by rw [HE.out, HM.out, HO.out]; rfl), hbw⟩
end Go.Proofs.YtmpnilliichpfaaGreatDoor
/- How much is covered by rows of yes and no. -/
namespace Go.Proofs.YtmpnilliichpfaaGreatDoor
open Go.RowKit

set_option maxRecDepth 100000 in
set_option maxHeartbeats 1000000 in
theorem w_IndexFB (g : Nat) (p : RowB → Bool) (cap : Value) (eg : Enters g) (lo : Nat) (A : Option Addr) (c : Nat) (l : List RowB) (w : World) (hcl : ∀ y, y ∈ l → ∀ W, Nx w W → Calls Tryz.prog g #[.slice y.a y.l.length y.c, cap] W fun e w' => e = .returned (.bool (p y)) ∧ Nx W w')
    (hR : Rd w lo A 1 encRowB l) (hl : l.length ≤ 65536) :
    Calls Tryz.prog 191 #[.slice A l.length c, .func (.func g) #[] #[cap]] w fun e w' => e = .returned (.int .i64 (findI p l)) ∧ Nx w w' := by
  generalize hn : l.length = n at *
  have HR := hide hR
  have HN := hide hn
  have HC0 := hide hcl
  clear hR hn hcl
  unfold Enters at eg
  go_enter Tryz.func191, Tryz.ntmps191
  go_wp2
  go_loopw [5, 8] (fun _ i wr => ∃ k : Nat, k ≤ n ∧ i = .int .i64 k ∧ Nx w wr ∧ findI p l = idxP p (l.drop k) k) (fun _ i _ => n - (intOf i).toNat)
  case atStart => exact ⟨0, Nat.zero_le _, rfl, Nx.refl _, rfl⟩
  case round =>
    obtain ⟨k, hk, rfl, hbw, hq⟩ := hrel
    have HQ := hide hq
    clear hq
    by_cases hlt : k < n
    · have hlt' : k < l.length := by have := HN.out; omega
      obtain ⟨b, off, rfl, _, hb, hbr, hc⟩ := HR.out.open_ hbw (by omega)
      have c0 : wr.cell? ⟨b, off + k, none⟩ = some (.slice l[k].a l[k].l.length l[k].c) := by have := hc k hlt' 0 _ rfl; simpa using this
      clear hc
      have HD := hide (idxP_drop p l k hlt')
      have hcl := fun W (h : Nx w W) => HC0.out l[k] (List.getElem_mem hlt') W h
      generalize l[k] = y at *
      cases hbig : p y
      all_goals
        have HB := hide hbig
        rw [hbig] at hcl
        have HCL := hide hcl
        clear hbig hcl
        go_wp2_with (go_at_fn g; refine (HCL.out _ hbw).mono ?_; rintro e w2 ⟨rfl, hn2⟩)
      · go_roundw
        case rel => exact ⟨k + 1, by omega, by go_num, hbw.trans hn2, by rw [HQ.out, HD.out, HB.out, if_neg (by simp)]⟩
        case measure => simp [intOf]; omega
      · go_ret
        exact ⟨ret_int (by rw [HQ.out, HD.out, HB.out, if_pos rfl]), hbw.trans hn2⟩
    · go_wp2
      go_ret
      exact ⟨ret_int (by rw [HQ.out, List.drop_of_length_le (by have := HN.out; omega)]; rfl), hbw⟩
set_option maxRecDepth 100000 in
set_option maxHeartbeats 1000000 in
theorem w_ContFB (g : Nat) (p : RowB → Bool) (cap : Value) (eg : Enters g) (lo : Nat) (A : Option Addr) (c : Nat) (l : List RowB) (w : World) (hcl : ∀ y, y ∈ l → ∀ W, Nx w W → Calls Tryz.prog g #[.slice y.a y.l.length y.c, cap] W fun e w' => e = .returned (.bool (p y)) ∧ Nx W w')
    (hR : Rd w lo A 1 encRowB l) (hl : l.length ≤ 65536) :
    Calls Tryz.prog 143 #[.slice A l.length c, .func (.func g) #[] #[cap]] w fun e w' => e = .returned (.bool (l.any p)) ∧ Nx w w' := by
  have HC := hide (w_IndexFB g p cap eg lo A c l w hcl hR hl)
  have HA := hide (idxP_any p l 0)
  rw [show idxP p l 0 = findI p l from rfl] at HA
  generalize findI p l = r at *
  generalize l.any p = z at *
  clear hcl eg hR hl
  generalize l.length = n at *
  have h1 := HA.out
  have h2 : decide (r ≥ 0) = z := h1
  go_enter Tryz.func143, Tryz.ntmps143
  go_wp2_with (go_at_call 191; refine HC.out.mono ?_; rintro e w2 ⟨rfl, hn2⟩)
  go_ret
  exact ⟨rfl, hn2⟩
theorem w_cov1 (q i lo : Nat) (a : Option Addr) (c : Nat) (l : List Bool) (w : World) (hq : w.cell? ⟨q, 0, none⟩ = some (.int .i64 (i : Int))) (hR : Rd w lo a 1 encBo l) (hi : i < l.length) :
    Calls Tryz.prog 144 #[.slice a l.length c, .pointer (some ⟨q, 0, none⟩)] w fun e w' => e = .returned (.bool (l.getD i false)) ∧ Nx w w' := by
  have hv : l.getD i false = l[i] := by rw [List.getD_eq_getElem?_getD, List.getElem?_eq_getElem hi]; rfl
  rw [hv]
  obtain ⟨b, off, rfl, _, hb, hbr, hc⟩ := hR.open_ (Nx.refl w) (by omega)
  have c0 : w.cell? ⟨b, off + i, none⟩ = some (.bool l[i]) := by have := hc i hi 0 _ rfl; simpa using this
  generalize l[i] = v at *
  have k1 : (i : Int) < (l.length : Int) := by omega
  have k2 : (0 : Int) ≤ (i : Int) := by omega
  clear hc hR
  generalize l.length = n at *
  go_enter Tryz.func144, Tryz.ntmps144
  go_wp2_with fail
  go_ret
  exact ⟨rfl, Nx.refl _⟩
theorem eg_cov1 : Enters 144 := enters_of Tryz.func144 (by kernel_rfl) rfl
/-- Rows that can be read, each as long as the weights. -/
def RowsB (w : World) (lo : Nat) (es : List RowB) (n : Nat) : Prop := ∀ r ∈ es, Rd w lo r.a 1 encBo r.l ∧ r.l.length = n
theorem RowsB.nx {w w' : World} {lo : Nat} {es : List RowB} {n : Nat} (h : RowsB w lo es n) (hn : Nx w w') : RowsB w' lo es n := fun r hr => ⟨(h r hr).1.nx hn, (h r hr).2⟩
set_option maxRecDepth 100000 in
set_option maxHeartbeats 2000000 in
theorem w_covered (lo lo2 lo3 : Nat) (D Y : Option Addr) (cd cy : Nat) (l : List Wgt) (es : List RowB) (w : World) (hD : Rd w lo D 2 encW l) (hl : l.length ≤ 500) (hb : ∀ x ∈ l, 0 ≤ x.many ∧ x.many ≤ 1000000000) (hY : Rd w lo2 Y 1 encRowB es) (hyl : es.length ≤ 65536) (hE : RowsB w lo3 es l.length) :
    Calls Tryz.prog 75 #[.slice D l.length cd, .slice Y es.length cy] w fun e w' => e = .returned (.int .i64 (covI (es.map (·.l)) l 0)) ∧ Nx w w' := by
  have HD := hide hD
  have HE := hide hE
  have HB := hide hb
  have HCF := hide (fun q i W (hg : Nx w W) (hq : W.cell? ⟨q, 0, none⟩ = some (.int .i64 ((i : Nat) : Int))) (hql : q < W.heap.size) (hi : i < l.length) => w_ContFB 144 (fun r => r.l.getD i false) (.pointer (some ⟨q, 0, none⟩)) eg_cov1 lo2 Y cy es W (fun y hy W2 h2 => w_cov1 q i lo3 y.a y.c y.l W2 (nx_cell h2 hql hq) ((hE y hy).1.nx (hg.trans h2)) (by rw [(hE y hy).2]; exact hi)) (hY.nx hg) hyl)
  have HAN := hide (fun i => any_map (fun r : RowB => r.l) (fun r => r.getD i false) es)
  clear hD hE hb hY
  obtain ⟨rows, hrows⟩ : ∃ rows, rows = es.map (·.l) := ⟨_, rfl⟩
  rw [← hrows] at HAN ⊢
  clear hrows
  generalize hn : l.length = n at *
  have HN := hide hn
  clear hn
  generalize es.length = m at *
  go_enter Tryz.func75, Tryz.ntmps75
  go_wp2_with fail
  go_loopw [5, 10] (fun v i wr => ∃ (k : Nat) (s : Int), k ≤ n ∧ i = .int .i64 k ∧ v = .int .i64 s ∧ 0 ≤ s ∧ s ≤ k * 1000000000 ∧ Nx w wr ∧ covI rows l 0 = s + covI rows (l.drop k) k) (fun _ i _ => n - (intOf i).toNat)
  case atStart => exact ⟨0, 0, Nat.zero_le _, rfl, rfl, Int.le_refl _, by simp, Nx.refl _, by rw [List.drop_zero]; omega⟩
  case round =>
    obtain ⟨k, s, hk, rfl, rfl, hs0, hs1, hbw, hq⟩ := hrel
    have HQ := hide hq
    clear hq
    by_cases hlt : k < n
    · have hlt' : k < l.length := by have := HN.out; omega
      obtain ⟨b, off, rfl, _, hb, hbr, hc⟩ := HD.out.open_ hbw (by omega)
      have c0 : wr.cell? ⟨b, off + k * 2, none⟩ = some (.string l[k].node) := hc k hlt' 0 _ rfl
      have c1 : wr.cell? ⟨b, off + k * 2 + 1, none⟩ = some (.int .i64 l[k].many) := hc k hlt' 1 _ rfl
      have hm := HB.out _ (List.getElem_mem hlt')
      have HDR := hide (covI_drop rows l k hlt')
      have HA := hide (HAN.out k)
      clear hc
      generalize l[k].many = mk at *
      generalize l[k].node = nk at *
      obtain ⟨wb, hwb⟩ : ∃ wb, wb = (wr.alloc (.cells #[.int .i64 (k : Int)] 3)).alloc (.cells #[.string nk, .int .i64 mk] 117) := ⟨_, rfl⟩
      have hnb : Nx wr wb := hwb ▸ ((Nx.refl wr).alloc _).alloc _
      have hsb : wb.heap.size = wr.heap.size + 2 := by rw [hwb]; simp
      have k0 : wb.cell? ⟨wr.heap.size, 0, none⟩ = some (.int .i64 (k : Int)) := by rw [hwb]; go_simp
      have k1 : wb.cell? ⟨wr.heap.size + 1, 1, none⟩ = some (.int .i64 mk) := by rw [hwb]; go_simp
      have HC := hide (HCF.out wr.heap.size k wb (hbw.trans hnb) k0 (by omega) (by omega))
      have HK1 := hide (fun W (h : Nx wb W) => nx_cell h (show wr.heap.size + 1 < wb.heap.size by omega) k1)
      have HWB := hide hwb
      clear hwb k0 k1
      have W1 : IntKind.i64.wrap (s + mk) = s + mk := IntWalk.i64_in _ (by omega)
      have HP : Hid (es.any (fun r => r.l.getD k false) = rows.any (fun r => r.getD k false)) := hide HA.out.symm
      have HBW := hide (hbw.trans hnb)
      rw [← HP.out] at HDR
      clear HA HP
      generalize es.any (fun r => r.l.getD k false) = z at *
      go_upto_region 5 with fail
      rw [← HWB.out]
      clear HWB c0 c1
      generalize wr.heap.size = g at *
      cases z
      · go_wp2_with (go_at_call 143; refine HC.out.mono ?_; rintro e w2 ⟨rfl, hn2⟩)
        go_roundw
        case rel => exact ⟨k + 1, s, by omega, by go_num, rfl, hs0, by omega, HBW.out.trans hn2, by rw [HQ.out, HDR.out]; first | (rw [if_neg (by simp)]; omega) | (rw [if_neg not_false]; omega)⟩
        case measure => simp [intOf]; omega
      · go_wp2_with (go_at_call 143; refine HC.out.mono ?_; rintro e w2 ⟨rfl, hn2⟩; have m1 := HK1.out _ hn2)
        go_roundw
        case rel => exact ⟨k + 1, s + mk, by omega, by go_num, rfl, by omega, by omega, HBW.out.trans hn2, by rw [HQ.out, HDR.out]; first | (rw [if_pos rfl]; omega) | (rw [if_pos trivial]; omega)⟩
        case measure => simp [intOf]; omega
    · go_wp2_with fail
      go_ret
      exact ⟨ret_int (by rw [HQ.out, List.drop_of_length_le (by have := HN.out; omega)]; exact (Int.add_zero _).symm), hbw⟩
end Go.Proofs.YtmpnilliichpfaaGreatDoor
/- A memory of searches. -/
namespace Go.Proofs.YtmpnilliichpfaaGreatDoor
open Go.RowKit Go.Maps

abbrev MpT (w : World) (b n : Nat) (f : Int × Int → Option (Option Nat)) : Prop := MgI Tryz.prog 215 ekP domP ptrElem ptrD w b n f
theorem zeroTreeR (w : World) : (zeroValue 188).run Tryz.prog w = .ok (ptrV none) w := by kernel_rfl
theorem MgI.obj {κ V : Type} {P : Program} {K : TypeId} {ek : κ → Value} {dom : κ → Prop} {R : Value → Option (DataW Unit × List MemPlace)} {dv : V → DataW Unit} {w : World} {b n : Nat} {f : κ → Option V} (h : MgI P K ek dom R dv w b n f) : ∃ es cl, w.heap[b]? = some (.map es cl) := by
  obtain ⟨D, ⟨es, clock, h1, _⟩, _⟩ := h
  exact ⟨es, clock, h1⟩
theorem ne_map {w : World} {b k : Nat} {es : _} {cl : _} {cs : Array Value} {t : TypeId} {fr : Nat × Nat} (hb : w.heap[b]? = some (.map es cl)) (hk : w.heap[k]? = some (.cells cs t fr)) : k ≠ b := by
  rintro rfl
  rw [hb] at hk
  cases hk
theorem gr_blk {w w' : World} {s k : Nat} {o : Obj} (hg : Gr s w w') (h : w.heap[k]? = some o) (hne : k ≠ s) : w'.heap[k]? = some o :=
  (World.grownBy.block hg k (lt_of_heap h) (by intro e; injection e with e; exact hne e)).trans h
theorem TreeR.grm {w w' : World} {a : SA} {bm fr nn m b n : Nat} {ad : Int} {s : Sr} {f : Int × Int → Option (Option Nat)} (h : TreeR w a bm fr nn m ad s) (hm : MpT w b n f) (hg : Gr b w w') : TreeR w' a bm fr nn m ad s := by
  obtain ⟨es, cl, hb⟩ := hm.obj
  exact ⟨gr_blk hg h.hT (ne_map hb h.hT), gr_blk hg h.hF (ne_map hb h.hF), gr_blk hg h.hL (ne_map hb h.hL), gr_blk hg h.hP (ne_map hb h.hP), h.lF, h.lL, h.lP⟩
/-- A tree's blocks are none of these. -/
def TreeAv (a : SA) (Ex : Nat → Prop) : Prop := ¬ Ex a.T ∧ ¬ Ex a.gF ∧ ¬ Ex a.gL ∧ ¬ Ex a.gP
/-- A memory of searches: its map's block is b; what was there in w0 stays; Ex: blocks that are no part of it. -/
structure TripsR (w0 w : World) (bt b n : Nat) (f : Int × Int → Option (Option Nat)) (bm nn m : Nat) (G : Gph) (Ex : Nat → Prop) : Prop where
  nx : Nx w0 w
  hb : w0.heap.size ≤ b
  blk : w.heap[bt]? = some (.cells #[.pointer (some ⟨bm, 0, none⟩), .map (some b)] 209 (0, 0))
  mp : MpT w b n f
  ok : ∀ p a', f p = some (some a') → ∃ (a : SA) (fr : Nat), a.T = a' ∧ p.1 = (fr : Int) ∧ TreeR w a bm fr nn m p.2 (searchG G fr p.2) ∧ TreeAv a Ex
  eb : ¬ Ex b ∧ ¬ Ex bt
section
variable {w0 w w' : World} {bt b n : Nat} {f : Int × Int → Option (Option Nat)} {bm nn m : Nat} {G : Gph} {Ex Ex' : Nat → Prop}
theorem TripsR.step (h : TripsR w0 w bt b n f bm nn m G Ex) (hn : Nx w w') : TripsR w0 w' bt b n f bm nn m G Ex :=
  ⟨h.nx.trans hn, h.hb, (hn.block bt (lt_of_heap h.blk)).trans h.blk, h.mp.nx hn, fun p a' e => by
    obtain ⟨a, fr, h1, h2, h3, h4⟩ := h.ok p a' e
    exact ⟨a, fr, h1, h2, h3.nx hn, h4⟩, h.eb⟩
theorem TripsR.put (h : TripsR w0 w bt b n f bm nn m G Ex) (hg : Gr b w w') {k : Int × Int} {a : SA} {fr : Nat} (hk : k.1 = (fr : Int)) (ha : TreeR w a bm fr nn m k.2 (searchG G fr k.2)) (hav : TreeAv a Ex) (hm : MpT w' b (n + 1) (fun k' => if k' = k then some (some a.T) else f k')) :
    TripsR w0 w' bt b (n + 1) (fun k' => if k' = k then some (some a.T) else f k') bm nn m G Ex := by
  obtain ⟨es, cl, hb⟩ := h.mp.obj
  refine ⟨Nx.of_gr ((Gr.of_nx h.nx).trans hg) h.hb, h.hb, gr_blk hg h.blk (ne_map hb h.blk), hm, fun p a' e => ?_, h.eb⟩
  by_cases hp : p = k
  · subst hp
    rw [if_pos rfl] at e
    injection e with e; injection e with e
    exact ⟨a, fr, e, hk, ha.grm h.mp hg, hav⟩
  · rw [if_neg hp] at e
    obtain ⟨a2, fr2, h1, h2, h3, h4⟩ := h.ok p a' e
    exact ⟨a2, fr2, h1, h2, h3.grm h.mp hg, h4⟩
theorem grown_blk {row : Option Nat} (hg : w.grownBy w' row) {k : Nat} {o : Obj} (hk : w.heap[k]? = some o) (hne : some k ≠ row) : w'.heap[k]? = some o := (hg.block k (lt_of_heap hk) hne).trans hk
/-- A row that is no part of it grows. -/
theorem TripsR.app (h : TripsR w0 w bt b n f bm nn m G Ex) {row : Option Nat} (hg : w.grownBy w' row) (hr : ∀ x, row = some x → Ex x ∧ w0.heap.size ≤ x) : TripsR w0 w' bt b n f bm nn m G Ex := by
  have hne : ∀ k, ¬ Ex k → some k ≠ row := fun k hk e => hk (hr k e.symm).1
  refine ⟨h.nx.grown hg (fun k hk => (hr k hk).2), h.hb, grown_blk hg h.blk (hne _ h.eb.2), h.mp.grown hg (hne _ h.eb.1), fun p a' e => ?_, h.eb⟩
  obtain ⟨a, fr, h1, h2, h3, h4⟩ := h.ok p a' e
  exact ⟨a, fr, h1, h2, ⟨grown_blk hg h3.hT (hne _ h4.1), grown_blk hg h3.hF (hne _ h4.2.1), grown_blk hg h3.hL (hne _ h4.2.2.1), grown_blk hg h3.hP (hne _ h4.2.2.2), h3.lF, h3.lL, h3.lP⟩, h4⟩
theorem TripsR.more (h : TripsR w0 w bt b n f bm nn m G Ex) (hx : ∀ x, Ex' x → Ex x ∨ w.heap.size ≤ x) : TripsR w0 w bt b n f bm nn m G Ex' := by
  have hne : ∀ k, k < w.heap.size → ¬ Ex k → ¬ Ex' k := fun k hk he hk' => (hx k hk').elim he (fun h => by omega)
  refine ⟨h.nx, h.hb, h.blk, h.mp, fun p a' e => ?_, hne _ h.mp.lt h.eb.1, hne _ (lt_of_heap h.blk) h.eb.2⟩
  obtain ⟨a, fr, h1, h2, h3, h4⟩ := h.ok p a' e
  exact ⟨a, fr, h1, h2, h3, hne _ (lt_of_heap h3.hT) h4.1, hne _ (lt_of_heap h3.hF) h4.2.1, hne _ (lt_of_heap h3.hL) h4.2.2.1, hne _ (lt_of_heap h3.hP) h4.2.2.2⟩
/-- An element is laid and appended to a row that is no part of it. -/
theorem TripsR.push (h : TripsR w0 w bt b n f bm nn m G Ex) {o : Obj} {row : Option Nat} (hg : (w.alloc o).grownBy w' row) (hr : ∀ x, row = some x → Ex x ∧ w0.heap.size ≤ x) (hx : ∀ x, Ex' x → Ex x ∨ x = (w.alloc o).heap.size) : TripsR w0 w' bt b n f bm nn m G Ex' :=
  (((h.step ((Nx.refl w).alloc o)).more (Ex' := fun x => Ex x ∨ x = (w.alloc o).heap.size) (fun _ h => h.imp id (fun e => Nat.le_of_eq e.symm))).app hg (fun x hx => ⟨.inl (hr x hx).1, (hr x hx).2⟩)).more (fun x h => .inl (hx x h))
theorem TripsR.lt (h : TripsR w0 w bt b n f bm nn m G Ex) : bt < w.heap.size := lt_of_heap h.blk
end
set_option maxRecDepth 100000 in
set_option maxHeartbeats 1000000 in
theorem w_NewTrips (bm nn m : Nat) (G : Gph) (w : World) :
    Calls Tryz.prog 72 #[.pointer (some ⟨bm, 0, none⟩)] w fun e w' => ∃ bt b, e = .returned (.pointer (some ⟨bt, 0, none⟩)) ∧ w.heap.size ≤ bt ∧ TripsR w w' bt b 0 (fun _ => none) bm nn m G (fun _ => False) := by
  have hmm := @run_makeMap Tryz.prog
  go_enter Tryz.func72, Tryz.ntmps72
  go_wp2_with fail
  go_ret
  refine ⟨_, w.heap.size, rfl, ?_, ((Nx.refl w).alloc _).alloc _, Nat.le_refl _, hnew (by simp), (MgI.made w).nx ((Nx.refl _).alloc _), fun p a' e => (by cases e), fun h => h, fun h => h⟩
  simp
def TreeOut (w0 w : World) (bt b n bm i nn m : Nat) (ad : Int) (G : Gph) (Ex : Nat → Prop) (e : Ending) (w' : World) : Prop := ∃ (a : SA) (n' : Nat) (f' : Int × Int → Option (Option Nat)), e = .returned (.pointer (some ⟨a.T, 0, none⟩)) ∧ TreeR w' a bm i nn m ad (searchG G i ad) ∧ TripsR w0 w' bt b n' f' bm nn m G Ex ∧ n' ≤ n + 1 ∧ Gr b w w'
set_option maxRecDepth 100000 in
set_option maxHeartbeats 4000000 in
theorem w_Tree (w0 w : World) (bt b n : Nat) (f : Int × Int → Option (Option Nat)) (bm g0 lo : Nat) (A B C : Option Addr) (ca cb cc : Nat) (M : MapA) (ns : List Node) (rs : List Arc) (bs : List Ban) (i : Nat) (ad : Int) (Ex : Nat → Prop)
    (hM : MapR w0 bm g0 lo A B C ca cb cc M ns rs bs) (hC : chk (arcF ns) none rs = 0) (hT : TripsR w0 w bt b n f bm ns.length rs.length (gphOf ns rs bs) Ex) (hEx : ∀ x, Ex x → x < w.heap.size) (hi : i < ns.length) (hnl : ns.length ≤ 400) (ha : 0 ≤ ad ∧ ad ≤ 345686399999) (hn : n < 1000000) :
    Calls Tryz.prog 190 #[.pointer (some ⟨bt, 0, none⟩), .int .i64 (i : Int), .int .i64 ad] w (TreeOut w0 w bt b n bm i ns.length rs.length ad (gphOf ns rs bs) Ex) := by
  have hd : domP ((i : Int), ad) := ⟨wf_i64o.2 ⟨by show _ ≤ (i : Int); omega, by show (i : Int) ≤ _; omega⟩, wf_i64o.2 ⟨by show _ ≤ ad; omega, by show ad ≤ _; omega⟩⟩
  obtain ⟨lb, hlb⟩ := key_pair ((i : Int), ad) hd
  have HSE := hide (fun W (hx : Nx w0 W) => w_Search W bm i ad g0 lo A B C ca cb cc M ns rs bs (hM.nx hx) hC hi ha)
  have HT := hide hT
  have HD := hide hd
  have HLB := hide hlb
  obtain ⟨wa, hwa⟩ : ∃ wa, wa = w.alloc (.cells #[.int .i64 (i : Int), .int .i64 ad] 215) := ⟨_, rfl⟩
  have hna : Nx w wa := hwa ▸ (Nx.refl w).alloc _
  have hba : wa.heap[w.heap.size]? = some (.cells #[.int .i64 (i : Int), .int .i64 ad] 215 (0, 0)) := by rw [hwa]; exact hnew rfl
  have HS := hide (fun W (hx : Nx wa W) => (⟨⟨nx_cell (hna.trans hx) hT.lt ((cell_of_row w _ 0 _ _ _ hT.blk).trans rfl), nx_cell (hna.trans hx) hT.lt ((cell_of_row w _ 1 _ _ _ hT.blk).trans rfl)⟩, nx_cell hx (lt_of_heap hba) ((cell_of_row wa _ 0 _ _ _ hba).trans rfl), nx_cell hx (lt_of_heap hba) ((cell_of_row wa _ 1 _ _ _ hba).trans rfl)⟩ :
    (W.cell? ⟨bt, 0, none⟩ = some (.pointer (some ⟨bm, 0, none⟩)) ∧ W.cell? ⟨bt, 1, none⟩ = some (.map (some b))) ∧ W.cell? ⟨w.heap.size, 0, none⟩ = some (.int .i64 (i : Int)) ∧ W.cell? ⟨w.heap.size, 1, none⟩ = some (.int .i64 ad)))
  obtain ⟨v, hv⟩ : ∃ v, v = (f ((i : Int), ad)).getD none := ⟨_, rfl⟩
  have HLK := hide (fun W (hx : Nx wa W) => (show (Instr.lookup 207 (.map (some b)) (.agg #[.int .i64 (i : Int), .int .i64 ad]) false).run Tryz.prog W = .ok (ptrV v) W by
    rw [hv]
    exact ((hT.mp.nx (hna.trans hx)).look elemPtr law_pair Tryz.underlying207 (z := none) trivial (zeroTreeR _) (k := ((i : Int), ad)) hd hlb).1))
  have HV := hide hv
  have HWA := hide hwa
  have HBA := hide hba
  clear hT hd hlb hba hv hwa hM hC hi
  go_enter Tryz.func190, Tryz.ntmps190
  go_upto_region 2 with fail
  rw [← HWA.out]
  have hkx : w.heap.size ≤ wa.heap.size := hna.sz
  generalize w.heap.size = k at *
  have hnn := hna.sz
  go_cut [8] (fun u wx => u = ptrV v ∧ Nx wa wx)
  case first =>
    refine wp_region_held_drew (S := fun w' => ((w'.cell? ⟨bt, 0, none⟩ = some (.pointer (some ⟨bm, 0, none⟩)) ∧ w'.cell? ⟨bt, 1, none⟩ = some (.map (some b))) ∧ w'.cell? ⟨k, 0, none⟩ = some (.int .i64 (i : Int)) ∧ w'.cell? ⟨k, 1, none⟩ = some (.int .i64 ad)) ∧ (Instr.lookup 207 (.map (some b)) (.agg #[.int .i64 (i : Int), .int .i64 ad]) false).run Tryz.prog w' = .ok (ptrV v) w') (by kernel_rfl) ?_ (fun hHeld => ?_)
    · exact ⟨HS.out _ (Nx.refl _).drew, HLK.out _ (Nx.refl _).drew⟩
    refine wpAnyH_take (i := 0) (oi := ⟨some 12, _, _, _, _, _⟩) (v := ?_) rfl (by kernel_rfl) (by kernel_rfl) (by kernel_rfl) (fun _ _ _ h => h) (Or.inl ⟨by rfl, ?_⟩) (by assumption) ?_
    rotate_left 1
    · intro w hSw
      (try dsimp only at hSw)
      go_simp
      try with_reducible rfl
    try simp only [Act.put, List.setIfInBounds_toArray, List.set_cons_zero, List.set_cons_succ]
    refine wpAnyH_take (i := 1) (oi := ⟨some 13, _, _, _, _, _⟩) (v := ?_) rfl (by kernel_rfl) (by kernel_rfl) (by kernel_rfl) (fun _ _ _ h => h) (Or.inl ⟨by rfl, ?_⟩) (by assumption) ?_
    rotate_left 1
    · intro w hSw
      (try dsimp only at hSw)
      go_simp
      try with_reducible rfl
    try simp only [Act.put, List.setIfInBounds_toArray, List.set_cons_zero, List.set_cons_succ]
    refine wpAnyH_take (i := 2) (oi := ⟨some 14, _, _, _, _, _⟩) (v := ?_) rfl (by kernel_rfl) (by kernel_rfl) (by kernel_rfl) (fun _ _ _ h => h) (Or.inl ⟨by rfl, ?_⟩) (by assumption) ?_
    rotate_left 1
    · intro w hSw
      (try dsimp only at hSw)
      go_simp
      try with_reducible rfl
    try simp only [Act.put, List.setIfInBounds_toArray, List.set_cons_zero, List.set_cons_succ]
    refine wpAnyH_take (i := 3) (oi := ⟨some 15, _, _, _, _, _⟩) (v := ?_) rfl (by kernel_rfl) (by kernel_rfl) (by kernel_rfl) (fun _ _ _ h => h) (Or.inl ⟨by rfl, ?_⟩) (by assumption) ?_
    rotate_left 1
    · intro w hSw
      (try dsimp only at hSw)
      go_simp
      try with_reducible rfl
    try simp only [Act.put, List.setIfInBounds_toArray, List.set_cons_zero, List.set_cons_succ]
    refine wpAnyH_take (i := 4) (oi := ⟨some 16, _, _, _, _, _⟩) (v := ?_) rfl (by kernel_rfl) (by kernel_rfl) (by kernel_rfl) (fun _ _ _ h => h) (Or.inl ⟨by rfl, ?_⟩) (by assumption) ?_
    rotate_left 1
    · intro w hSw
      (try dsimp only at hSw)
      go_simp
      try with_reducible rfl
    try simp only [Act.put, List.setIfInBounds_toArray, List.set_cons_zero, List.set_cons_succ]
    refine wpAnyH_take (i := 5) (oi := ⟨some 17, _, _, _, _, _⟩) (v := ?_) rfl (by kernel_rfl) (by kernel_rfl) (by kernel_rfl) (fun _ _ _ h => h) (Or.inl ⟨by rfl, ?_⟩) (by assumption) ?_
    rotate_left 1
    · intro w hSw
      (try dsimp only at hSw)
      go_simp
      try with_reducible rfl
    try simp only [Act.put, List.setIfInBounds_toArray, List.set_cons_zero, List.set_cons_succ]
    refine wpAnyH_take (i := 6) (oi := ⟨some 8, _, _, _, _, _⟩) (v := ?_) rfl (by kernel_rfl) (by kernel_rfl) (by kernel_rfl) (fun _ _ _ h => h) (Or.inl ⟨by rfl, ?_⟩) (by assumption) ?_
    rotate_left 1
    · intro w hSw
      (try dsimp only at hSw)
      go_simp
      try with_reducible rfl
    try simp only [Act.put, List.setIfInBounds_toArray, List.set_cons_zero, List.set_cons_succ]
    refine wpAnyH_done (by kernel_rfl) ?_ _
    go_wp2
    go_meet
    exact ⟨rfl, (Nx.refl _).drew⟩
  case rest =>
    obtain ⟨rfl, hx⟩ := hcut
    cases v with
    | some a' =>
      have hf : f ((i : Int), ad) = some (some a') := by
        have h := HV.out
        cases hf : f ((i : Int), ad) with
        | none => rw [hf] at h; cases h
        | some y => rw [hf] at h; exact congrArg some h.symm
      obtain ⟨a, fr, rfl, h2, h3, _⟩ := HT.out.ok _ _ hf
      have h2 : i = fr := by have : (i : Int) = (fr : Int) := h2; omega
      subst h2
      have hR := h3.nx (hna.trans hx)
      have HR := hide hR
      clear hR h3 hf HV
      unfold ptrV
      go_wp2_with fail
      go_ret
      exact ⟨a, n, f, rfl, HR.out, HT.out.step (hna.trans hx), by omega, Gr.of_nx (hna.trans hx)⟩
    | none =>
      have hnx := hna.trans hx
      obtain ⟨⟨c0, c1⟩, d0, d1⟩ := HS.out _ hx
      clear HV
      unfold ptrV
      go_wp2_with fail
      refine (HSE.out _ (HT.out.nx.trans hnx)).mono ?_
      rintro e w3 ⟨a, rfl, hSM⟩
      have hn3 := hnx.trans hSM.nx
      have hx3 := hx.trans hSM.nx
      have HTR := hide hSM.tree
      have HAV := hide (show TreeAv a Ex from by
        have hlow : ∀ kk ∈ [a.bx, a.T, a.bt, a.bb, a.gF, a.gL, a.gP, a.gB, a.gD], ¬ Ex kk := fun kk hk he => by
          have h1 := (hSM.lo kk hk).1
          have h2 := hEx kk he
          have h3 := hx.sz
          omega
        exact ⟨hlow _ (by simp), hlow _ (by simp), hlow _ (by simp), hlow _ (by simp)⟩)
      have hT3 := HT.out.step hn3
      obtain ⟨w4, hr, hm4, hg4⟩ := (hT3.mp.nx (Nx.refl w3).drew).upd elemPtr law_pair ekP_inj Tryz.underlying207 (by unfold maxLen; omega) HD.out HLB.out (some a.T) trivial
      have hT4 := (hT3.step (Nx.refl w3).drew).put hg4 (k := ((i : Int), ad)) (a := a) (fr := i) rfl (HTR.out.nx (Nx.refl w3).drew) HAV.out hm4
      have HT4 := hide hT4
      have HTR4 := hide ((HTR.out.nx (Nx.refl w3).drew).grm (hT3.step (Nx.refl w3).drew).mp hg4)
      have hr' : (Instr.mapUpdate 207 (.map (some b)) (.agg #[.int .i64 (i : Int), .int .i64 ad]) (.pointer (some ⟨a.T, 0, none⟩))).run Tryz.prog w3.drew = .ok () w4 := hr
      have HG := hide ((Gr.of_nx hn3).trans ((Gr.refl b w3).drew.trans hg4))
      have HX3 := hide hx3
      have hk4 := gr_blk (hg4) ((((hx3.drew).block k (lt_of_heap HBA.out)).trans HBA.out)) (by obtain ⟨es, cl, hb⟩ := (hT3.step (Nx.refl w3).drew).mp.obj; exact ne_map hb (((hx3.drew).block k (lt_of_heap HBA.out)).trans HBA.out))
      have HS4 := hide (⟨⟨(cell_of_row w4 _ 0 _ _ _ hT4.blk).trans rfl, (cell_of_row w4 _ 1 _ _ _ hT4.blk).trans rfl⟩, (cell_of_row w4 _ 0 _ _ _ hk4).trans rfl, (cell_of_row w4 _ 1 _ _ _ hk4).trans rfl⟩ : (w4.cell? ⟨bt, 0, none⟩ = some (.pointer (some ⟨bm, 0, none⟩)) ∧ w4.cell? ⟨bt, 1, none⟩ = some (.map (some b))) ∧ w4.cell? ⟨k, 0, none⟩ = some (.int .i64 (i : Int)) ∧ w4.cell? ⟨k, 1, none⟩ = some (.int .i64 ad))
      clear hk4 hSM hT3 hm4 hT4 hr c0 c1 d0 d1 hg4 hnx hn3 hx3
      go_upto_region 5 with fail
      go_cut [] (fun wx => wx = w4)
      case first =>
        refine wp_region_held_drew (S := fun w' => (w'.cell? ⟨bt, 0, none⟩ = some (.pointer (some ⟨bm, 0, none⟩)) ∧ w'.cell? ⟨bt, 1, none⟩ = some (.map (some b))) ∧ w'.cell? ⟨k, 0, none⟩ = some (.int .i64 (i : Int)) ∧ w'.cell? ⟨k, 1, none⟩ = some (.int .i64 ad)) (by kernel_rfl) ?_ (fun hHeld => ?_)
        · exact HS.out _ (HX3.out.drew)
        refine wpAnyH_take (i := 0) (oi := ⟨some 27, _, _, _, _, _⟩) (v := ?_) rfl (by kernel_rfl) (by kernel_rfl) (by kernel_rfl) (fun _ _ _ h => h) (Or.inl ⟨by rfl, ?_⟩) (by assumption) ?_
        rotate_left 1
        · intro w hSw
          (try dsimp only at hSw)
          go_simp
          try with_reducible rfl
        try simp only [Act.put, List.setIfInBounds_toArray, List.set_cons_zero, List.set_cons_succ]
        refine wpAnyH_take (i := 1) (oi := ⟨some 28, _, _, _, _, _⟩) (v := ?_) rfl (by kernel_rfl) (by kernel_rfl) (by kernel_rfl) (fun _ _ _ h => h) (Or.inl ⟨by rfl, ?_⟩) (by assumption) ?_
        rotate_left 1
        · intro w hSw
          (try dsimp only at hSw)
          go_simp
          try with_reducible rfl
        try simp only [Act.put, List.setIfInBounds_toArray, List.set_cons_zero, List.set_cons_succ]
        refine wpAnyH_take (i := 2) (oi := ⟨some 29, _, _, _, _, _⟩) (v := ?_) rfl (by kernel_rfl) (by kernel_rfl) (by kernel_rfl) (fun _ _ _ h => h) (Or.inl ⟨by rfl, ?_⟩) (by assumption) ?_
        rotate_left 1
        · intro w hSw
          (try dsimp only at hSw)
          go_simp
          try with_reducible rfl
        try simp only [Act.put, List.setIfInBounds_toArray, List.set_cons_zero, List.set_cons_succ]
        refine wpAnyH_take (i := 3) (oi := ⟨some 30, _, _, _, _, _⟩) (v := ?_) rfl (by kernel_rfl) (by kernel_rfl) (by kernel_rfl) (fun _ _ _ h => h) (Or.inl ⟨by rfl, ?_⟩) (by assumption) ?_
        rotate_left 1
        · intro w hSw
          (try dsimp only at hSw)
          go_simp
          try with_reducible rfl
        try simp only [Act.put, List.setIfInBounds_toArray, List.set_cons_zero, List.set_cons_succ]
        refine wpAnyH_take (i := 4) (oi := ⟨some 31, _, _, _, _, _⟩) (v := ?_) rfl (by kernel_rfl) (by kernel_rfl) (by kernel_rfl) (fun _ _ _ h => h) (Or.inl ⟨by rfl, ?_⟩) (by assumption) ?_
        rotate_left 1
        · intro w hSw
          (try dsimp only at hSw)
          go_simp
          try with_reducible rfl
        try simp only [Act.put, List.setIfInBounds_toArray, List.set_cons_zero, List.set_cons_succ]
        refine wpAnyH_take (i := 5) (oi := ⟨some 32, _, _, _, _, _⟩) (v := ?_) rfl (by kernel_rfl) (by kernel_rfl) (by kernel_rfl) (fun _ _ _ h => h) (Or.inl ⟨by rfl, ?_⟩) (by assumption) ?_
        rotate_left 1
        · intro w hSw
          (try dsimp only at hSw)
          go_simp
          try with_reducible rfl
        try simp only [Act.put, List.setIfInBounds_toArray, List.set_cons_zero, List.set_cons_succ]
        refine wpAnyH_ready (rs := [6]) (by kernel_rfl) (by simp) ?_
        refine AllReadyH.cons rfl (fun K hK => ?_) AllReadyH.nil
        go_simp
        refine hK.out _ _ (HS4.out) (fun hHeld => ?_)
        clear hK K
        try simp only [Act.put, List.setIfInBounds_toArray, List.set_cons_zero, List.set_cons_succ]
        refine wpAnyH_done (by kernel_rfl) ?_ _
        go_wp2
        go_meet
        rfl
      case rest =>
        subst hcut
        go_wp2_with fail
        go_ret
        exact ⟨a, n + 1, _, rfl, HTR4.out, HT4.out, by omega, HG.out⟩
end Go.Proofs.YtmpnilliichpfaaGreatDoor
