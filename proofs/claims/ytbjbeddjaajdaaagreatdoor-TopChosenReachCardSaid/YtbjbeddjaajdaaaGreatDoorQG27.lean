/- Plain: what the laws ReachIsFastest and WaysCanBeWalked weigh. -/
import Derived.Test.YtbjbeddjaajdaaaGreatDoorQG24
import Derived.Test.YtbjbeddjaajdaaaGreatDoorQG7
import Derived.Test.YtbjbeddjaajdaaaGreatDoorQG0
import Derived.Deep.DeepCutAuto
import Derived.Deep.AppendLies
import Derived.Test.YtbjbeddjaajdaaaGreatDoorQG2
import Derived.Test.YtbjbeddjaajdaaaGreatDoorQG4
import Derived.Test.YtbjbeddjaajdaaaGreatDoorQG14
namespace Go.Proofs.YtbjbeddjaajdaaaGreatDoor

section
variable {ns : List Node} {rs : List Arc} {bs : List Ban} {f : ByteArray} {ad wi : Int}
theorem reach_ok (hR : roadsF ns rs bs = 0) (hf : 0 ≤ nodeI ns f) (hm : momB ad = true) (hw : 0 ≤ wi ∧ wi ≤ 86400000) : reachF ns rs bs f ad wi = 0 := by
  unfold reachF
  rw [if_pos (ends_zero hR hf hf hm), outB_false.2 hw, if_neg (by simp)]
theorem reach_list (hR : roadsF ns rs bs = 0) (hf : 0 ≤ nodeI ns f) (hm : momB ad = true) (hw : 0 ≤ wi ∧ wi ≤ 86400000) : reachL ns rs bs f ad wi = rOf (fun k => arrG (gphOf ns rs bs) (nodeN ns f) k ad) ad wi ns 0 := by
  unfold reachL
  rw [if_pos (reach_ok hR hf hm hw)]
theorem rOf_le (v : Nat → Int) (ad wi : Int) : ∀ (l : List Node) (k : Nat), (rOf v ad wi l k).length ≤ l.length
  | [], _ => Nat.le_refl _
  | n :: l, k => by
    have ih := rOf_le v ad wi l (k + 1)
    unfold rOf
    split
    · rw [List.length_cons, List.length_cons]; omega
    · rw [List.length_cons]; omega
theorem reach_len (hR : roadsF ns rs bs = 0) (hf : 0 ≤ nodeI ns f) (hm : momB ad = true) (hw : 0 ≤ wi ∧ wi ≤ 86400000) : (reachL ns rs bs f ad wi).length ≤ ns.length := by
  rw [reach_list hR hf hm hw]
  exact rOf_le _ _ _ _ _
theorem reach_pos (hR : roadsF ns rs bs = 0) (hf : 0 ≤ nodeI ns f) (hm : momB ad = true) (hw : 0 ≤ wi ∧ wi ≤ 86400000) : 0 < (reachL ns rs bs f ad wi).length := by
  rw [reach_list hR hf hm hw]
  have hb := momB_true.1 hm
  refine rOf_self (sortN_of (roads_ok hR).1) _ ad wi (nodeN_lt hf) ?_
  have e : arrG (gphOf ns rs bs) (nodeN ns f) (nodeN ns f) ad = ad := arrG_self (gph_ok (roads_ok hR).2.1) hb.1 (nodeN_lt hf)
  show arrG (gphOf ns rs bs) (nodeN ns f) (nodeN ns f) ad < endT ∧ arrG (gphOf ns rs bs) (nodeN ns f) (nodeN ns f) ad - ad ≤ wi
  rw [e]
  unfold endT
  omega
/-- Who is reached is whom a fastest way reaches in time. -/
theorem reach_has (hR : roadsF ns rs bs = 0) (hf : 0 ≤ nodeI ns f) (hm : momB ad = true) (hw : 0 ≤ wi ∧ wi ≤ 86400000) {k : Nat} (hk : k < ns.length) {has : Bool} {ar : Int} (h1 : has = decide (arrG (gphOf ns rs bs) (nodeN ns f) (nodeN ns (ns.getD k default).key) ad < endT)) (h2 : has = true → ar = arrG (gphOf ns rs bs) (nodeN ns f) (nodeN ns (ns.getD k default).key) ad) :
    (reachL ns rs bs f ad wi).any (fun p => decide (p.name = (ns.getD k default).key)) = (has && decide (ar - ad ≤ wi)) := by
  have hS := sortN_of (roads_ok hR).1
  rw [reach_list hR hf hm hw, rOf_any hS _ ad wi hk]
  have e : nodeN ns (ns.getD k default).key = k := by
    unfold nodeN
    rw [node_at hS hk]
    rfl
  rw [e] at h1 h2
  cases has with
  | false =>
    have := of_decide_eq_false h1.symm
    rw [Bool.false_and]
    exact decide_eq_false fun h => this h.1
  | true =>
    have := of_decide_eq_true h1.symm
    rw [Bool.true_and, h2 rfl, decide_eq_decide]
    exact ⟨fun h => h.2, fun h => ⟨this, h⟩⟩
theorem reach_more (hR : roadsF ns rs bs = 0) (hf : 0 ≤ nodeI ns f) (hm : momB ad = true) (hw : 0 ≤ wi ∧ wi ≤ 86400000) {wj : Int} (hj : wi ≤ wj ∧ wj ≤ 86400000) {k : Nat} (hk : k < ns.length) (h : (reachL ns rs bs f ad wi).any (fun p => decide (p.name = (ns.getD k default).key)) = true) :
    (reachL ns rs bs f ad wj).any (fun p => decide (p.name = (ns.getD k default).key)) = true := by
  have hS := sortN_of (roads_ok hR).1
  rw [reach_list hR hf hm hw, rOf_any hS _ ad wi hk] at h
  rw [reach_list hR hf hm ⟨by omega, hj.2⟩, rOf_any hS _ ad wj hk]
  have := of_decide_eq_true h
  exact decide_eq_true ⟨this.1, by omega⟩
/-- A drive that can be walked: the fastest way is there, and no later; the latest one leaves no earlier. -/
theorem ways_fast {l : List ByteArray} (hR : roadsF ns rs bs = 0) (hf : 0 ≤ nodeI ns f) (hm : momB ad = true) (hne : 0 < l.length) (hc : chainF rs bs f none l = 0) {ts : List Int} (hw : walkO rs ad l = some ts) {T : Int} (hT : T = (ad :: ts).getD l.length 0) {s : ByteArray} (hs : s = l.getD (l.length - 1) default) :
    0 ≤ arcI rs s ∧ 0 ≤ nodeI ns (arcAt rs s).to_ ∧ momB T = true ∧ arrG (gphOf ns rs bs) (nodeN ns f) (nodeN ns (arcAt rs s).to_) ad ≤ T ∧ ad ≤ T ∧ T < endT := by
  obtain ⟨h1, h2, h3⟩ := roads_ok hR
  cases l with
  | nil => exact absurd hne (by simp)
  | cons k l =>
    have hlen := walk_len rs _ _ _ hw
    obtain ⟨a1, a2, a3, a4, a5⟩ := drive_arr (bs := bs) h1 h2 hf (momB_true.1 hm).1 hc hw
    have e1 : s = l.getLastD k := by
      rw [hs, List.length_cons, Nat.add_sub_cancel]
      have : ∀ (l : List ByteArray) (x : ByteArray), (x :: l).getD l.length default = l.getLastD x := by
        intro l
        induction l with
        | nil => intro x; rfl
        | cons y l ih =>
          intro x
          rw [List.getLastD_cons]
          exact ih y
      exact this l k
    have e2 : T = ts.getLastD ad := by
      rw [hT, ← hlen]
      exact last_at ts ad
    rw [e1, e2]
    refine ⟨a1, a2, momB_true.2 ⟨by have := (momB_true.1 hm).1; omega, by unfold endT at a5; omega⟩, a3, by omega, a5⟩
theorem ways_late {t : ByteArray} {T : Int} (hR : roadsF ns rs bs = 0) (hf : 0 ≤ nodeI ns f) (ht : 0 ≤ nodeI ns t) (h0 : 0 ≤ ad) (hle : ad ≤ T) (hlt : T < endT) (hp : arrG (gphOf ns rs bs) (nodeN ns f) (nodeN ns t) ad ≤ T) :
    ∃ L, LeaveOk (gphOf ns rs bs) (nodeN ns f) (nodeN ns t) T L ∧ ad ≤ L ∧ arrG (gphOf ns rs bs) (nodeN ns f) (nodeN ns t) L ≤ T := by
  obtain ⟨L, hL⟩ := leave_ex (gphOf ns rs bs) (nodeN ns f) (nodeN ns t) T (by omega)
  have hg := leave_ge (gph_ok (roads_ok hR).2.1) (nodeN_lt hf) (nodeN_lt ht) hL h0 hle hlt hp
  exact ⟨L, hL, hg, hL.ok (by omega)⟩
end
end Go.Proofs.YtbjbeddjaajdaaaGreatDoor
/- A node's key: the stream's; the reference's fault. -/
namespace Go.Proofs.YtbjbeddjaajdaaaGreatDoor
open Go.RowKit

/-- A small string. -/
def StrSm (s k : Nat) (w : World) (e : Ending) (w' : World) : Prop := ∃ t : ByteArray, e = .returned (.string t) ∧ t.size ≤ 1000000 ∧ Gr s w w' ∧ Str w' s k
set_option maxRecDepth 100000 in
set_option maxHeartbeats 2000000 in
theorem w_NodeKey (s k lo : Nat) (A B C : Option Addr) (n1 n2 ca cb cc : Nat) (ns : List Node) (w : World) (hS : Str w s k) (hk : k < 700000) (hR : Rd w lo A 3 encNode ns) (hSm : SmallN ns) (h0 : 0 < ns.length) (hl : ns.length ≤ 400) (hlo : s < lo) :
    Calls Tryz.prog 8 #[.pointer (some ⟨s, 0, none⟩), .agg #[.slice A ns.length ca, .slice B n1 cb, .slice C n2 cc]] w (StrSm s (k + 2) w) := by
  have hsl := hS.lt
  obtain ⟨wa, hwa⟩ : ∃ wa, wa = w.alloc (.cells #[.slice A ns.length ca, .slice B n1 cb, .slice C n2 cc] 30) := ⟨_, rfl⟩
  have hna : Nx w wa := hwa ▸ (Nx.refl w).alloc _
  have hgw : w.heap.size < wa.heap.size := by rw [hwa]; simp
  have b0 : wa.cell? ⟨w.heap.size, 0, none⟩ = some (.slice A ns.length ca) := by rw [hwa]; go_simp
  have hSa := hS.nx hna
  have HR := hide (hR.nx hna)
  have HSM := hide hSm
  clear hR hS hSm
  generalize hn : ns.length = n at *
  have HN := hide hn
  clear hn
  have t0 : ((n : Int) == 0) = false := by rw [beq_eq_false_iff_ne]; omega
  go_enter Tryz.func8, Tryz.ntmps8
  go_wp2_with fail
  rw [← hwa]
  have HWA := hide hwa
  clear hwa
  have hgs : w.heap.size ≠ s := by omega
  generalize w.heap.size = g at *
  refine (w_Flip 25 _ _ _ hSa (by omega) (by omega)).mono ?_
  rintro e w1 ⟨fl, rfl, hg1, hS1⟩
  have hs1 := hS1.lt
  cases fl
  · have b1 : w1.cell? ⟨g, 0, none⟩ = some (.slice A n ca) := World.grownBy.cell hg1 b0 (by simp; omega)
    obtain ⟨b, off, rfl, hlo', hb, _, hc⟩ := HR.out.open_ (Nx.refl wa) (by have := HN.out; omega)
    have HC := hide hc
    clear hc b0
    go_upto_region 3 with fail
    have k1 : (1 : Int) ≤ (n : Int) := by omega
    go_cut [4] (fun v wx => ∃ t : ByteArray, v = .string t ∧ t.size ≤ 1000000 ∧ Gr s w1 wx ∧ Str wx s (k + 2))
    case first =>
      go_region_law
        (first | (go_simp; go_at_call 31; refine (w_Next (n : Int) _ _ _ (hS1.nx (Nx.refl w1).drew) (by omega) (by omega)).mono ?_; rintro e w4 ⟨q, hq1, hq2, rfl, hg4, hS4⟩; (obtain ⟨q, rfl⟩ := Int.eq_ofNat_of_zero_le hq1); (have hgr := hg1.trans ((Gr.refl s w1).drew.trans hg4)); (have b4 : w4.cell? ⟨g, 0, none⟩ = some (.slice (some ⟨b, off, none⟩) n ca) := World.grownBy.cell (row := some s) ((Gr.refl s w1).drew.trans hg4) b1 (by simp; omega)); (have hq3 : (q : Int) < (n : Int) := by omega); (have hqn : q < ns.length := by have := HN.out; omega); (have d4 : w4.cell? ⟨b, off + q * 3, none⟩ = some (.string ns[q].key) := World.grownBy.cell (row := some s) hgr (HC.out q hqn 0 _ rfl) (by simp; omega))))
      all_goals
        go_wp2
        go_meet
        exact ⟨_, rfl, HSM.out _ (List.getElem_mem hqn), (Gr.refl s w1).drew.trans hg4, hS4⟩
    case rest =>
      obtain ⟨t, rfl, ht, hg2, hS2⟩ := hcut
      go_wp2_with fail
      go_ret
      exact ⟨t, rfl, ht, (Gr.of_nx hna).trans (hg1.trans hg2), hS2⟩
  · go_wp2_with fail
    refine (w_Some _ [⟨#[]⟩, ⟨#[122, 122]⟩, ⟨#[65]⟩] _ _ _ _ (hS1.nx ((Nx.refl _).alloc _)) (by omega) (hnew rfl) (by omega) rfl (by simp) (by simp)).mono ?_
    rintro e w2 ⟨r, hr, rfl, hg2, hS2⟩
    go_wp2_with fail
    go_ret
    refine ⟨r, rfl, ?_, (Gr.of_nx hna).trans (hg1.trans (((Gr.refl s w1).alloc _).trans hg2)), hS2⟩
    simp at hr
    rcases hr with h | h | h <;> rw [h] <;> decide
def noneF (ns : List Node) (s : ByteArray) : Int := if nodeI ns s < 0 then 8 else 0
set_option maxHeartbeats 1000000 in
theorem w_NodeFault (lo : Nat) (A B C : Option Addr) (n1 n2 c1 c2 c3 : Nat) (l : List Node) (s : ByteArray) (w : World) (hR : Rd w lo A 3 encNode l) (hl : l.length ≤ 65536) :
    Calls Tryz.prog 24 #[.agg #[.slice A l.length c1, .slice B n1 c2, .slice C n2 c3], .string s] w fun e w' => e = .returned (.int .i64 (noneF l s)) ∧ Nx w w' := by
  have HN := hide (fun W hx => w_NodeAt lo A B C n1 n2 c1 c2 c3 l s W hx hl)
  unfold noneF
  by_cases h : nodeI l s < 0
  · rw [if_pos h]
    have tf : decide (nodeI l s < 0) = true := decide_eq_true h
    clear h
    go_enter Tryz.func24, Tryz.ntmps24
    go_wp2_with (go_at_call 59; refine (HN.out _ (hR.nx ((Nx.refl w).alloc _))).mono ?_; rintro e w2 ⟨rfl, hn2⟩)
    go_ret
    exact ⟨rfl, ((Nx.refl w).alloc _).trans hn2⟩
  · rw [if_neg h]
    have tf : decide (nodeI l s < 0) = false := decide_eq_false h
    clear h
    go_enter Tryz.func24, Tryz.ntmps24
    go_wp2_with (go_at_call 59; refine (HN.out _ (hR.nx ((Nx.refl w).alloc _))).mono ?_; rintro e w2 ⟨rfl, hn2⟩)
    go_ret
    exact ⟨rfl, ((Nx.refl w).alloc _).trans hn2⟩
theorem w_when (b : Bool) (z : Int) (w : World) : Calls Tryz.prog 26 #[.bool b, .int .i64 z] w fun e w' => e = .returned (.int .i64 (if b then z else 0)) ∧ w = w' := by
  cases b
  all_goals
    go_enter Tryz.func26, Tryz.ntmps26
    go_wp2
    go_ret
    exact ⟨rfl, rfl⟩
end Go.Proofs.YtbjbeddjaajdaaaGreatDoor
/- Are all that are asked for nodes? The program and the reference. -/
namespace Go.Proofs.YtbjbeddjaajdaaaGreatDoor
open Go.RowKit

theorem idxP_any {α : Type} (p : α → Bool) : ∀ (l : List α) (k : Nat), decide (0 ≤ idxP p l k) = l.any p
  | [], _ => rfl
  | n :: l, k => by
    unfold idxP
    cases h : p n with
    | true => rw [if_pos rfl, List.any_cons, h]; exact decide_eq_true (by omega)
    | false => rw [if_neg (by simp), List.any_cons, h, Bool.false_or]; exact idxP_any p l (k + 1)
/-- Is one no node? -/
def missB (ns : List Node) (l : List ByteArray) : Bool := l.any fun s => decide (nodeI ns s < 0)
def askF (ns : List Node) (l : List ByteArray) (most : Int) : Int := if most < (l.length : Int) then 2 else if missB ns l then 8 else 0
section
variable (g0 lo : Nat) (A : Option Addr) (c : Nat) (ns : List Node)
end
end Go.Proofs.YtbjbeddjaajdaaaGreatDoor
/- Plain: the node from which another one is reached first. -/
namespace Go.Proofs.YtbjbeddjaajdaaaGreatDoor

/-- The first of those from which one arrives at the earliest, and when. -/
def nearO (v : ByteArray → Int) : List ByteArray → Nat → Int → Int → Int × Int
  | [], _, fi, be => (fi, be)
  | s :: l, k, fi, be => if v s < be then nearO v l (k + 1) (k : Int) (v s) else nearO v l (k + 1) fi be
theorem nearO_drop (v : ByteArray → Int) (l : List ByteArray) (k : Nat) (hk : k < l.length) (fi be : Int) : nearO v (l.drop k) k fi be = if v l[k] < be then nearO v (l.drop (k + 1)) (k + 1) (k : Int) (v l[k]) else nearO v (l.drop (k + 1)) (k + 1) fi be := by
  rw [List.drop_eq_getElem_cons hk, nearO]
/-- What is wrong with what Nearest is asked (of no more than 200 nodes). -/
def nearF (ns : List Node) (rs : List Arc) (bs : List Ban) (l : List ByteArray) (to_ : ByteArray) (ad : Int) : Int :=
  if roadsF ns rs bs = 0 then (if missB ns l = true ∨ nodeI ns to_ < 0 then 8 else if momB ad then 0 else 1) else roadsF ns rs bs
def arrS (ns : List Node) (rs : List Arc) (bs : List Ban) (s t : ByteArray) (ad : Int) : Int := arrG (gphOf ns rs bs) (nodeN ns s) (nodeN ns t) ad
def nearP (ns : List Node) (rs : List Arc) (bs : List Ban) (l : List ByteArray) (to_ : ByteArray) (ad : Int) : Int × Int := if nearF ns rs bs l to_ ad = 0 then nearO (fun s => arrS ns rs bs s to_ ad) l 0 (-1) endT else (-1, endT)
theorem miss_all {ns : List Node} {l : List ByteArray} (h : missB ns l = false) : ∀ s ∈ l, 0 ≤ nodeI ns s := by
  intro s hs
  unfold missB at h
  rw [List.any_eq_false] at h
  have := h s hs
  simp at this
  omega
end Go.Proofs.YtbjbeddjaajdaaaGreatDoor
/- Plain: weights, sites: what is wrong with them; how much is covered. -/
namespace Go.Proofs.YtbjbeddjaajdaaaGreatDoor

structure Wgt where
  node : ByteArray
  many : Int
instance : Inhabited Wgt := ⟨⟨default, default⟩⟩
def encW (p : Wgt) : List Value := [.string p.node, .int .i64 p.many]
theorem encW_len (p : Wgt) : (encW p).length = 2 := rfl
theorem encW_one (x : Wgt) : ∀ v ∈ encW x, v.oneCell' = true := by
  intro v hv; simp [encW] at hv; rcases hv with rfl | rfl <;> rfl
def aftW (p : Option Wgt) (w : Wgt) : Bool := match p with | some q => strLe w.node q.node | none => false
def wgtF (ns : List Node) (p : Option Wgt) (w : Wgt) : Int := if nodeI ns w.node < 0 then 8 else if aftW p w then 7 else argF (!outB w.many 0 1000000000)
/-- What is wrong with weights. -/
def wgtsF (ns : List Node) (l : List Wgt) : Int := if 500 < l.length then 2 else chk (wgtF ns) none l
/-- And with a moment and a time. -/
def restF (ns : List Node) (l : List Wgt) (ad wi : Int) : Int := if wgtsF ns l = 0 then argF (momB ad && !outB wi 0 86400000) else wgtsF ns l
def aftS (p : Option ByteArray) (s : ByteArray) : Bool := match p with | some q => strLe s q | none => false
def siteF (ns : List Node) (p : Option ByteArray) (s : ByteArray) : Int := if nodeI ns s < 0 then 8 else if aftS p s then 7 else 0
/-- What is wrong with sites. -/
def sitesF (ns : List Node) (l : List ByteArray) : Int := if 14 < l.length then 2 else chk (siteF ns) none l
theorem restF_or (ns : List Node) (l : List Wgt) (ad wi : Int) : orI [wgtsF ns l, momF ad, if outB wi 0 86400000 then 1 else 0] = restF ns l ad wi := by
  unfold restF momF argF
  by_cases h : wgtsF ns l = 0
  · rw [if_pos h, h]
    cases momB ad <;> cases outB wi 0 86400000 <;> rfl
  · rw [if_neg h]
    rw [orI, if_neg h]
/-- How much is covered by those of whom r tells what they reach. -/
def covS (r : ByteArray → ByteArray → Bool) (from_ : List ByteArray) : List Wgt → Int
  | [] => 0
  | w :: l => (if from_.any (fun s => r s w.node) then w.many else 0) + covS r from_ l
end Go.Proofs.YtbjbeddjaajdaaaGreatDoor
/- Plain: all choices in order, the best of them. -/
namespace Go.Proofs.YtbjbeddjaajdaaaGreatDoor
open Go.RowKit

def updC (cov : List ByteArray → Int) (so : List ByteArray) (acc : List ByteArray × Int) : List ByteArray × Int := if acc.2 < cov so then (so, cov so) else acc
/-- All choices that go on from some, with those that are left. -/
def tryL (cov : List ByteArray → Int) (many : Int) : List ByteArray → List ByteArray → List ByteArray × Int → List ByteArray × Int
  | [], _, acc => acc
  | s :: r, so, acc => tryL cov many r so (if ((so ++ [s]).length : Int) = many then updC cov (so ++ [s]) acc else tryL cov many r (so ++ [s]) acc)
def tryG (cov : List ByteArray → Int) (many : Int) (r so : List ByteArray) (acc : List ByteArray × Int) : List ByteArray × Int := if (so.length : Int) = many then updC cov so acc else tryL cov many r so acc
theorem tryL_drop (cov : List ByteArray → Int) (many : Int) (l : List ByteArray) (k : Nat) (hk : k < l.length) (so : List ByteArray) (acc : List ByteArray × Int) : tryL cov many (l.drop k) so acc = tryL cov many (l.drop (k + 1)) so (tryG cov many (l.drop (k + 1)) (so ++ [l[k]]) acc) := by
  rw [List.drop_eq_getElem_cons hk, tryL]
  rfl
/-- Two blocks may turn; the others stay. -/
def Kp (p q : Nat) (a w : World) : Prop := w.os = a.os ∧ w.tape = a.tape ∧ w.output = a.output ∧ a.heap.size ≤ w.heap.size ∧ ∀ i, i < a.heap.size → i ≠ p → i ≠ q → w.heap[i]? = a.heap[i]?
theorem Kp.refl (p q : Nat) (w : World) : Kp p q w w := ⟨rfl, rfl, rfl, Nat.le_refl _, fun _ _ _ _ => rfl⟩
theorem Kp.of_nx {p q : Nat} {a w : World} (h : Nx a w) : Kp p q a w := ⟨h.os, h.tape, h.output, h.sz, fun i hi _ _ => h.block i hi⟩
theorem Kp.trans {p q : Nat} {a b c : World} (h : Kp p q a b) (k : Kp p q b c) : Kp p q a c :=
  ⟨k.1.trans h.1, k.2.1.trans h.2.1, k.2.2.1.trans h.2.2.1, Nat.le_trans h.2.2.2.1 k.2.2.2.1, fun i hi h1 h2 => (k.2.2.2.2 i (Nat.lt_of_lt_of_le hi h.2.2.2.1) h1 h2).trans (h.2.2.2.2 i hi h1 h2)⟩
theorem Kp.sz {p q : Nat} {a w : World} (h : Kp p q a w) : a.heap.size ≤ w.heap.size := h.2.2.2.1
theorem Kp.set {p q : Nat} {a w : World} (h : Kp p q a w) (x : Addr) (u : Value) (hx : x.block = p ∨ x.block = q) : Kp p q a (w.setCell x u) :=
  ⟨h.1, h.2.1, h.2.2.1, by have := h.sz; simpa [World.setCell] using this, fun i hi h1 h2 => (Below.heap_setCell w x u i (by rintro rfl; exact hx.elim h1 h2)).trans (h.2.2.2.2 i hi h1 h2)⟩
theorem Kp.cell {p q : Nat} {a w : World} (h : Kp p q a w) {x : Addr} {v : Value} (hc : a.cell? x = some v) (hp : x.block ≠ p) (hq : x.block ≠ q) (hl : x.block < a.heap.size) : w.cell? x = some v := by
  have hb := h.2.2.2.2 x.block hl hp hq
  unfold World.cell? at hc ⊢
  rw [hb]
  exact hc
theorem Kp.nx {p q : Nat} {o a w : World} (h : Kp p q a w) (hn : Nx o a) (hp : o.heap.size ≤ p) (hq : o.heap.size ≤ q) : Nx o w :=
  ⟨h.1.trans hn.os, h.2.1.trans hn.tape, h.2.2.1.trans hn.output, Nat.le_trans hn.sz h.sz, fun i hi => (h.2.2.2.2 i (Nat.lt_of_lt_of_le hi hn.sz) (by omega) (by omega)).trans (hn.block i hi)⟩
theorem Rd.kp {α : Type} {w w' : World} {lo : Nat} {A : Option Addr} {K : Nat} {enc : α → List Value} {xs : List α} {p q : Nat} (h : Rd w lo A K enc xs) (hk : Kp p q w w') (hp : p < lo) (hq : q < lo) : Rd w' lo A K enc xs := fun hpos => by
  obtain ⟨b, off, e, hl, hb, hc⟩ := h hpos
  exact ⟨b, off, e, hl, Nat.lt_of_lt_of_le hb hk.sz, fun i x hx j u hu => hk.cell (hc i x hx j u hu) (show b ≠ p by omega) (show b ≠ q by omega) hb⟩
theorem Kp.blk {p q : Nat} {a w : World} (h : Kp p q a w) {i : Nat} {o : Obj} (hi : a.heap[i]? = some o) (hp : i ≠ p) (hq : i ≠ q) : w.heap[i]? = some o := (h.2.2.2.2 i (Array.getElem?_eq_some_iff.1 hi).1 hp hq).trans hi
end Go.Proofs.YtbjbeddjaajdaaaGreatDoor
/- Plain: how long the ways between nodes take; rows of rows in memory. -/
namespace Go.Proofs.YtbjbeddjaajdaaaGreatDoor
open Go.RowKit

structure RowE where
  a : Option Addr
  c : Nat
  l : List Int
instance : Inhabited RowE := ⟨⟨none, 0, []⟩⟩
def encRow (r : RowE) : List Value := [.slice r.a r.l.length r.c]
theorem encRow_len (r : RowE) : (encRow r).length = 1 := rfl
theorem encRow_one (x : RowE) : ∀ v ∈ encRow x, v.oneCell' = true := by
  intro v hv; simp [encRow] at hv; subst hv; rfl
/-- How long a way takes; -1: there is none. -/
def matV (v ad : Int) : Int := if v < endT then v - ad else -1
def matR (ns : List Node) (rs : List Arc) (bs : List Ban) (l : List ByteArray) (ad : Int) (s : ByteArray) : List Int := l.map fun t => matV (arrS ns rs bs s t ad) ad
def matL (ns : List Node) (rs : List Arc) (bs : List Ban) (l : List ByteArray) (ad : Int) : List (List Int) := l.map (matR ns rs bs l ad)
/-- What is wrong with what Matrix is asked (of no more than 50 nodes). -/
def matF (ns : List Node) (rs : List Arc) (bs : List Ban) (l : List ByteArray) (ad : Int) : Int :=
  if roadsF ns rs bs = 0 then (if missB ns l = true then 8 else if momB ad then 0 else 1) else roadsF ns rs bs
theorem first_m1 {ns : List Node} {rs : List Arc} {bs : List Ban} {i k : Nat} {ad : Int} (h2 : chk (arcF ns) none rs = 0) (hi : i < ns.length) (hk : k < ns.length) (h0 : 0 ≤ ad) (h : gi (searchG (gphOf ns rs bs) i ad).first k < 0) : gi (searchG (gphOf ns rs bs) i ad).first k = -1 := by
  have hF := search_found (gph_ok (bs := bs) h2) h0 (show i < (gphOf ns rs bs).nn from hi)
  by_cases e : k = i
  · rw [e, hF.f0.1] at h; omega
  · rcases hF.f1 k hk e with ⟨h1, _⟩ | ⟨j, _, h2, _, _, h5, _⟩
    · exact h1
    · omega
theorem map_drop {α β : Type} (f : α → β) (l : List α) (k : Nat) (hk : k < l.length) : (l.drop k).map f = f l[k] :: (l.drop (k + 1)).map f := by
  rw [List.drop_eq_getElem_cons hk, List.map_cons]
/-- Rows of the call's own. -/
def OwnRows (w : World) (base : Nat) (es : List RowE) : Prop := ∀ r ∈ es, w.ownsRow base 3 1 (.slice r.a r.l.length r.c) r.l.length (r.l.flatMap encI)
theorem OwnRows.kept {w w' : World} {base : Nat} {es : List RowE} (h : OwnRows w base es) {row : Option Nat} (hg : w.grownBy w' row) (hne : ∀ r ∈ es, (Value.slice r.a r.l.length r.c).ownBlock = none ∨ (Value.slice r.a r.l.length r.c).ownBlock ≠ row) : OwnRows w' base es :=
  fun r hr => (h r hr).kept hg (hne r hr)
theorem OwnRows.nx {w w' : World} {base : Nat} {es : List RowE} (h : OwnRows w base es) (hn : Nx w w') : OwnRows w' base es := fun r hr => own_nx (h r hr) hn
theorem OwnRows.gr {w w' : World} {base s : Nat} {es : List RowE} (h : OwnRows w base es) (hn : Gr s w w') (hs : s < base) : OwnRows w' base es := fun r hr => own_gr (h r hr) hn hs
end Go.Proofs.YtbjbeddjaajdaaaGreatDoor
/- Plain: rows of yes and no; how much is covered by them. -/
namespace Go.Proofs.YtbjbeddjaajdaaaGreatDoor
open Go.RowKit

def encBo (b : Bool) : List Value := [.bool b]
theorem encBo_len (b : Bool) : (encBo b).length = 1 := rfl
theorem encBo_one (b : Bool) : ∀ v ∈ encBo b, v.oneCell' = true := by
  intro v hv; simp [encBo] at hv; subst hv; rfl
structure RowB where
  a : Option Addr
  c : Nat
  l : List Bool
instance : Inhabited RowB := ⟨⟨none, 0, []⟩⟩
def encRowB (r : RowB) : List Value := [.slice r.a r.l.length r.c]
theorem encRowB_len (r : RowB) : (encRowB r).length = 1 := rfl
theorem encRowB_one (x : RowB) : ∀ v ∈ encRowB x, v.oneCell' = true := by
  intro v hv; simp [encRowB] at hv; subst hv; rfl
/-- How much is covered by rows: from place i on. -/
def covI (rows : List (List Bool)) : List Wgt → Nat → Int
  | [], _ => 0
  | w :: l, i => (if rows.any (fun r => r.getD i false) then w.many else 0) + covI rows l (i + 1)
theorem covI_drop (rows : List (List Bool)) (l : List Wgt) (k : Nat) (hk : k < l.length) : covI rows (l.drop k) k = (if rows.any (fun r => r.getD k false) then l[k].many else 0) + covI rows (l.drop (k + 1)) (k + 1) := by
  rw [List.drop_eq_getElem_cons hk, covI]
theorem covI_bd {rows : List (List Bool)} : ∀ (l : List Wgt) (i : Nat), (∀ w ∈ l, 0 ≤ w.many ∧ w.many ≤ 1000000000) → 0 ≤ covI rows l i ∧ covI rows l i ≤ l.length * 1000000000
  | [], _, _ => ⟨Int.le_refl _, by simp [covI]⟩
  | w :: l, i, h => by
    have h1 := covI_bd (rows := rows) l (i + 1) (fun x hx => h x (List.mem_cons_of_mem _ hx))
    have h2 := h w (by simp)
    unfold covI
    rw [List.length_cons]
    split <;> omega
theorem any_map {α β : Type} (f : α → β) (p : β → Bool) (l : List α) : (l.map f).any p = l.any (fun x => p (f x)) := by
  induction l with
  | nil => rfl
  | cons x l ih => rw [List.map_cons, List.any_cons, List.any_cons, ih]
/-- The rows tell what r tells. -/
theorem covI_covS (r : ByteArray → ByteArray → Bool) (from_ : List ByteArray) (l : List Wgt) : covI (from_.map fun s => l.map fun w => r s w.node) l 0 = covS r from_ l := by
  suffices h : ∀ (k : Nat), k ≤ l.length → covI (from_.map fun s => l.map fun w => r s w.node) (l.drop k) k = covS r from_ (l.drop k) from h 0 (Nat.zero_le _)
  intro k hk
  obtain ⟨d, hd⟩ : ∃ d, d = l.length - k := ⟨_, rfl⟩
  induction d generalizing k with
  | zero =>
    rw [List.drop_eq_nil_of_le (by omega)]
    rfl
  | succ d ih =>
    have hlt : k < l.length := by omega
    rw [covI_drop _ _ _ hlt, ih (k + 1) (by omega) (by omega), List.drop_eq_getElem_cons hlt, covS, any_map]
    have e : (fun s => (l.map fun w => r s w.node).getD k false) = fun s => r s l[k].node := by
      funext s
      rw [List.getD_eq_getElem?_getD, List.getElem?_map, List.getElem?_eq_getElem hlt]
      rfl
    rw [e]
/-- All weights lie in their bounds. -/
theorem wgts_bd {ns : List Node} {l : List Wgt} (h : wgtsF ns l = 0) : l.length ≤ 500 ∧ ∀ w ∈ l, 0 ≤ nodeI ns w.node ∧ 0 ≤ w.many ∧ w.many ≤ 1000000000 := by
  unfold wgtsF at h
  by_cases h0 : 500 < l.length
  · rw [if_pos h0] at h; exact absurd h (by decide)
  · rw [if_neg h0] at h
    refine ⟨by omega, chk_all (F := wgtF ns) (Q := fun w => 0 ≤ nodeI ns w.node ∧ 0 ≤ w.many ∧ w.many ≤ 1000000000) (fun p x hx => ?_) l none h⟩
    unfold wgtF at hx
    split at hx
    · exact absurd hx (by decide)
    rename_i h1
    split at hx
    · exact absurd hx (by decide)
    cases ho : outB x.many 0 1000000000 with
    | true => rw [ho] at hx; exact absurd hx (by decide)
    | false =>
      have := (outB_false).1 ho
      exact ⟨by omega, this.1, this.2⟩
end Go.Proofs.YtbjbeddjaajdaaaGreatDoor
/- What is wrong with weights, with sites: the program and the reference. -/
namespace Go.Proofs.YtbjbeddjaajdaaaGreatDoor
open Go.RowKit

set_option maxRecDepth 100000 in
set_option maxHeartbeats 2000000 in
theorem w_WeightsFault (lo : Nat) (A B C : Option Addr) (n1 n2 c1 c2 c3 : Nat) (ns : List Node) (lo2 : Nat) (D : Option Addr) (cd : Nat) (l : List Wgt) (w : World) (hR : Rd w lo A 3 encNode ns) (hl : ns.length ≤ 65536) (hD : Rd w lo2 D 2 encW l) (hdl : l.length ≤ 65536) :
    Calls Tryz.prog 32 #[.agg #[.slice A ns.length c1, .slice B n1 c2, .slice C n2 c3], .slice D l.length cd] w fun e w' => e = .returned (.int .i64 (wgtsF ns l)) ∧ Nx w w' := by
  obtain ⟨wa, hwa⟩ : ∃ wa, wa = w.alloc (.cells #[.slice A ns.length c1, .slice B n1 c2, .slice C n2 c3] 30) := ⟨_, rfl⟩
  have hna : Nx w wa := hwa ▸ (Nx.refl w).alloc _
  have hgw : w.heap.size < wa.heap.size := by rw [hwa]; simp
  have b0 : wa.cell? ⟨w.heap.size, 0, none⟩ = some (.slice A ns.length c1) := by rw [hwa]; go_simp
  have b1 : wa.cell? ⟨w.heap.size, 1, none⟩ = some (.slice B n1 c2) := by rw [hwa]; go_simp
  have b2 : wa.cell? ⟨w.heap.size, 2, none⟩ = some (.slice C n2 c3) := by rw [hwa]; go_simp
  have HBX := hide (fun W (hg : Nx wa W) => (⟨nx_cell hg hgw b0, nx_cell hg hgw b1, nx_cell hg hgw b2⟩ : W.cell? ⟨w.heap.size, 0, none⟩ = some (.slice A ns.length c1) ∧ W.cell? ⟨w.heap.size, 1, none⟩ = some (.slice B n1 c2) ∧ W.cell? ⟨w.heap.size, 2, none⟩ = some (.slice C n2 c3)))
  have HNA := hide (fun s W (hg : Nx wa W) => w_NodeAt lo A B C n1 n2 c1 c2 c3 ns s W (hR.nx (hna.trans hg)) hl)
  have HD := hide (hD.nx hna)
  have HWA := hide hwa
  have HN0 := hide hna
  clear hR hD b0 b1 b2 hgw hwa hna
  generalize hn : l.length = n at *
  have HN := hide hn
  clear hn
  generalize ns.length = nn at *
  by_cases hbig : 500 < n
  · go_enter Tryz.func32, Tryz.ntmps32
    go_wp2_with fail
    go_ret
    exact ⟨ret_int (by unfold wgtsF; rw [if_pos (by rw [HN.out]; exact hbig)]), by rw [← HWA.out]; exact HN0.out⟩
  · have HF := hide (show wgtsF ns l = chk (wgtF ns) none l by unfold wgtsF; rw [if_neg (by rw [HN.out]; exact hbig)])
    go_enter Tryz.func32, Tryz.ntmps32
    go_upto_region 3 with fail
    rw [← HWA.out]
    clear HWA
    generalize w.heap.size = g at *
    go_wp2_with fail
    go_loopw [12] (fun i wr => ∃ k : Nat, k ≤ n ∧ i = .int .i64 k ∧ Nx wa wr ∧ chk (wgtF ns) none l = chk (wgtF ns) (prevOf l k) (l.drop k)) (fun i _ => n - (intOf i).toNat)
    case atStart => exact ⟨0, Nat.zero_le _, rfl, Nx.refl _, rfl⟩
    case round =>
      obtain ⟨k, hk, rfl, hbw, hq⟩ := hrel
      have HQ := hide hq
      clear hq
      by_cases hlt : k < n
      · have hlt' : k < l.length := by have := HN.out; omega
        obtain ⟨b, off, rfl, _, hb, hbr, hc⟩ := HD.out.open_ hbw (by omega)
        have c0 : wr.cell? ⟨b, off + k * 2, none⟩ = some (.string l[k].node) := hc k hlt' 0 _ rfl
        have c1 : wr.cell? ⟨b, off + k * 2 + 1, none⟩ = some (.int .i64 l[k].many) := hc k hlt' 1 _ rfl
        have HC := hide hc
        clear hc
        have HDR := hide (chk_drop (wgtF ns) l k hlt')
        have HA := hide (HNA.out l[k].node)
        have HPV := hide (fun hk0 : 0 < k => prevOf_pos l k hk0 (by omega))
        have HC4 := hide (fun hk0 : 0 < k => (show wr.cell? ⟨b, off + (k - 1) * 2, none⟩ = some (.string (l[k - 1]'(by omega)).node) from HC.out (k - 1) (by omega) 0 _ rfl))
        obtain ⟨z0, z1, z2⟩ := HBX.out (wr.alloc (.cells #[.string l[k].node, .int .i64 l[k].many] 86)) (hbw.alloc _)
        have hbl : wr.heap.size < (wr.alloc (.cells #[.string l[k].node, .int .i64 l[k].many] 86)).heap.size := by simp
        have k0 : (wr.alloc (.cells #[.string l[k].node, .int .i64 l[k].many] 86)).cell? ⟨wr.heap.size, 0, none⟩ = some (.string l[k].node) := by go_simp
        have k1 : (wr.alloc (.cells #[.string l[k].node, .int .i64 l[k].many] 86)).cell? ⟨wr.heap.size, 1, none⟩ = some (.int .i64 l[k].many) := by go_simp
        have hbr2 : b < (wr.alloc (.cells #[.string l[k].node, .int .i64 l[k].many] 86)).heap.size := by simp; omega
        have hba : Nx wr (wr.alloc (.cells #[.string l[k].node, .int .i64 l[k].many] 86)) := (Nx.refl wr).alloc _
        have HBA := hide (hbw.alloc (.cells #[.string l[k].node, .int .i64 l[k].many] 86))
        have HK := hide (⟨k0, k1⟩ : _ ∧ _)
        have HBA2 := hide hba
        clear k0 k1 hba
        have HMK : Hid (∀ W, Nx (wr.alloc (.cells #[.string l[k].node, .int .i64 l[k].many] 86)) W → W.cell? ⟨wr.heap.size, 0, none⟩ = some (.string l[k].node) ∧ W.cell? ⟨wr.heap.size, 1, none⟩ = some (.int .i64 l[k].many)) := hide (fun W h => ⟨nx_cell h hbl HK.out.1, nx_cell h hbl HK.out.2⟩)
        have HMC : Hid (∀ W, Nx (wr.alloc (.cells #[.string l[k].node, .int .i64 l[k].many] 86)) W → 0 < k → ∃ p0 : ByteArray, prevOf l k = some ⟨p0, (l[k - 1]'(by omega)).many⟩ ∧ W.cell? ⟨b, off + (k - 1) * 2, none⟩ = some (.string p0)) := hide (fun W h hk0 => ⟨_, HPV.out hk0, nx_cell (HBA2.out.trans h) hbr (HC4.out hk0)⟩)
        clear hbl hbr2 HC HC4 HPV
        by_cases hn0 : nodeI ns l[k].node < 0
        · have HV := hide (show wgtF ns (prevOf l k) l[k] = 8 from if_pos hn0)
          have t0 : decide (nodeI ns l[k].node < 0) = true := decide_eq_true hn0
          have HN8 := hide hn0
          clear hn0
          go_wp2_with (go_at_call 59; refine (HA.out _ HBA.out).mono ?_; rintro e w2 ⟨rfl, hn2⟩)
          go_ret
          exact ⟨ret_int (by rw [HF.out, HQ.out, HDR.out, HV.out]; rfl), (HN0.out.trans HBA.out).trans hn2⟩
        · have t0 : decide (nodeI ns l[k].node < 0) = false := decide_eq_false hn0
          have HV0 := hide (show wgtF ns (prevOf l k) l[k] = if aftW (prevOf l k) l[k] then 7 else argF (!outB l[k].many 0 1000000000) from if_neg hn0)
          clear hn0
          by_cases hk0 : 0 < k
          · have q0 : decide ((0 : Int) < (k : Int)) = true := by simpa using hk0
            have q1 : IntKind.i64.wrap ((k : Int) - 1) = (k : Int) - 1 := IntWalk.i64_in _ (by omega)
            have q2 : (1 : Int) ≤ (k : Int) := by omega
            have q3 : ((k : Int) - 1).toNat = k - 1 := by omega
            have q4 : (k : Int) - 1 < (n : Int) := by omega
            obtain ⟨p0, hp0, _⟩ := HMC.out _ (Nx.refl _) hk0
            have HMC2 : Hid (∀ W, Nx (wr.alloc (.cells #[.string l[k].node, .int .i64 l[k].many] 86)) W → W.cell? ⟨b, off + (k - 1) * 2, none⟩ = some (.string p0)) := hide (fun W h => by
              obtain ⟨p1, h1, h2⟩ := HMC.out W h hk0
              rw [hp0] at h1
              injection h1 with h1
              injection h1 with h1 _
              rw [h1]; exact h2)
            have HV1 := hide (show aftW (prevOf l k) l[k] = strLe l[k].node p0 by rw [hp0]; rfl)
            clear hp0 HMC
            cases ho : strLe l[k].node p0
            · have t1 : (Op.bytesLess l[k].node.toList p0.toList || l[k].node.toList == p0.toList) = false := ho
              rw [ho] at HV1
              clear ho
              cases hp : outB l[k].many 0 1000000000
              all_goals
                have HP := hide hp
                have t2 : inB l[k].many 0 1000000000 = !outB l[k].many 0 1000000000 := inB_out _ _ _
                rw [hp] at t2
                clear hp
                go_wp2_with (go_at_call 59; refine (HA.out _ HBA.out).mono ?_; rintro e w2 ⟨rfl, hn2⟩; obtain ⟨m0, m1⟩ := HMK.out _ hn2; have m2 := HMC2.out _ hn2)
                go_quiet (fail)
                go_wp2_with (go_at_call 58; refine (w_in _ _ _ _).mono ?_; rw [t2]; rintro e w' ⟨rfl, rfl⟩)
              · go_roundw
                case rel => exact ⟨k + 1, by omega, by go_num, ((HBA.out.trans hn2)).drewN _, by rw [HQ.out, HDR.out, HV0.out, HV1.out]; unfold argF; rw [HP.out]; rfl⟩
                case measure => simp [intOf]; omega
              · go_ret
                exact ⟨ret_int (by rw [HF.out, HQ.out, HDR.out, HV0.out, HV1.out]; unfold argF; rw [HP.out]; rfl), ((HN0.out.trans HBA.out).trans hn2).drewN _⟩
            · have t1 : (Op.bytesLess l[k].node.toList p0.toList || l[k].node.toList == p0.toList) = true := ho
              rw [ho] at HV1
              clear ho
              go_wp2_with (go_at_call 59; refine (HA.out _ HBA.out).mono ?_; rintro e w2 ⟨rfl, hn2⟩; obtain ⟨m0, m1⟩ := HMK.out _ hn2; have m2 := HMC2.out _ hn2)
              go_quiet (fail)
              go_wp2
              go_ret
              exact ⟨ret_int (by rw [HF.out, HQ.out, HDR.out, HV0.out, HV1.out]; rfl), ((HN0.out.trans HBA.out).trans hn2).drewN _⟩
          · have HV1 := hide (show aftW (prevOf l k) l[k] = false by have e : k = 0 := (by omega); subst e; rw [prevOf_zero]; rfl)
            have q0 : decide ((0 : Int) < (k : Int)) = false := by simpa using hk0
            clear HMC
            cases hp : outB l[k].many 0 1000000000
            all_goals
              have HP := hide hp
              have t2 : inB l[k].many 0 1000000000 = !outB l[k].many 0 1000000000 := inB_out _ _ _
              rw [hp] at t2
              clear hp
              go_wp2_with (go_at_call 59; refine (HA.out _ HBA.out).mono ?_; rintro e w2 ⟨rfl, hn2⟩; obtain ⟨m0, m1⟩ := HMK.out _ hn2)
              go_quiet (fail)
              go_wp2_with (go_at_call 58; refine (w_in _ _ _ _).mono ?_; rw [t2]; rintro e w' ⟨rfl, rfl⟩)
            · go_roundw
              case rel => exact ⟨k + 1, by omega, by go_num, ((HBA.out.trans hn2)).drewN _, by rw [HQ.out, HDR.out, HV0.out, HV1.out]; unfold argF; rw [HP.out]; rfl⟩
              case measure => simp [intOf]; omega
            · go_ret
              exact ⟨ret_int (by rw [HF.out, HQ.out, HDR.out, HV0.out, HV1.out]; unfold argF; rw [HP.out]; rfl), ((HN0.out.trans HBA.out).trans hn2).drewN _⟩
      · go_wp2_with fail
        go_ret
        exact ⟨ret_int (by rw [HF.out, HQ.out, List.drop_of_length_le (by have := HN.out; omega)]; rfl), HN0.out.trans hbw⟩
end Go.Proofs.YtbjbeddjaajdaaaGreatDoor
/- What is wrong with weights: the program. -/
namespace Go.Proofs.YtbjbeddjaajdaaaGreatDoor
open Go.RowKit

theorem w_isNode1 (s : ByteArray) (y : Node) (q : Nat) (w : World) (hq : w.cell? ⟨q, 0, none⟩ = some (.string s)) (hql : q < w.heap.size) :
    Calls Tryz.prog 136 #[.agg #[.string y.key, .int .i64 y.x, .int .i64 y.y], .pointer (some ⟨q, 0, none⟩)] w fun e w' => e = .returned (.bool (decide (y.key = s))) ∧ Nx w w' := by
  have hq2 : ∀ o, (w.alloc o).cell? ⟨q, 0, none⟩ = some (.string s) := fun o => nx_cell ((Nx.refl w).alloc o) hql hq
  go_enter Tryz.func136, Tryz.ntmps136
  go_wp2
  go_ret
  exact ⟨congrArg (fun b => Ending.returned (.bool b)) (eqS_iff _ _), (Nx.refl _).alloc _⟩
theorem eg_isNode1 : Enters 136 := enters_of Tryz.func136 (by kernel_rfl) rfl
set_option maxRecDepth 100000 in
set_option maxHeartbeats 1000000 in
theorem w_ContFN (g : Nat) (p : Node → Bool) (cap : Value) (eg : Enters g) (lo : Nat) (A : Option Addr) (c : Nat) (l : List Node) (w : World) (hcl : ∀ (y : Node) W, Nx w W → Calls Tryz.prog g #[.agg #[.string y.key, .int .i64 y.x, .int .i64 y.y], cap] W fun e w' => e = .returned (.bool (p y)) ∧ Nx W w')
    (hR : Rd w lo A 3 encNode l) (hl : l.length ≤ 65536) :
    Calls Tryz.prog 135 #[.slice A l.length c, .func (.func g) #[] #[cap]] w fun e w' => e = .returned (.bool (decide (0 ≤ findI p l))) ∧ Nx w w' := by
  have HC := hide (w_IndexFN g p cap eg lo A c l w hcl hR hl)
  generalize findI p l = r at *
  clear hcl eg hR hl
  generalize l.length = n at *
  obtain ⟨z, hz⟩ : ∃ z, z = decide (0 ≤ r) := ⟨_, rfl⟩
  rw [← hz]
  have h1 := hz.symm
  have h2 : decide (r ≥ 0) = z := h1
  clear hz
  go_enter Tryz.func135, Tryz.ntmps135
  go_wp2_with (go_at_call 117; refine HC.out.mono ?_; rintro e w2 ⟨rfl, hn2⟩)
  go_ret
  exact ⟨rfl, hn2⟩
set_option maxRecDepth 100000 in
set_option maxHeartbeats 1000000 in
theorem w_isNodeD (g0 lo : Nat) (A : Option Addr) (c : Nat) (ns : List Node) (s : ByteArray) (w : World) (hg : w.cell? ⟨g0, 0, none⟩ = some (.slice A ns.length c)) (hgl : g0 < w.heap.size) (hR : Rd w lo A 3 encNode ns) (hl : ns.length ≤ 65536) :
    Calls Tryz.prog 83 #[.pointer (some ⟨g0, 0, none⟩), .string s] w fun e w' => e = .returned (.bool (decide (0 ≤ nodeI ns s))) ∧ Nx w w' := by
  obtain ⟨wa, hwa⟩ : ∃ wa, wa = w.alloc (.cells #[.string s] 9) := ⟨_, rfl⟩
  have hna : Nx w wa := hwa ▸ (Nx.refl w).alloc _
  have hgw : w.heap.size < wa.heap.size := by rw [hwa]; simp
  have b0 : wa.cell? ⟨w.heap.size, 0, none⟩ = some (.string s) := by rw [hwa]; go_simp
  have z0 := nx_cell hna hgl hg
  have HC := hide (w_ContFN 136 (fun n => decide (n.key = s)) (.pointer (some ⟨w.heap.size, 0, none⟩)) eg_isNode1 lo A c ns wa (fun y W h => w_isNode1 s y w.heap.size W (nx_cell h hgw b0) (Nat.lt_of_lt_of_le hgw h.sz)) (hR.nx hna) hl)
  rw [show findI (fun n : Node => decide (n.key = s)) ns = nodeI ns s from rfl] at HC
  have HWA := hide hwa
  have HNA := hide hna
  clear hwa hna hg hR b0 hgw
  generalize nodeI ns s = r at *
  generalize ns.length = n at *
  go_enter Tryz.func83, Tryz.ntmps83
  go_upto_region 1 with fail
  rw [← HWA.out]
  generalize w.heap.size = g at *
  go_wp2_with (go_at_call 135; refine HC.out.mono ?_; rintro e w2 ⟨rfl, hn2⟩)
  go_ret
  exact ⟨rfl, HNA.out.trans hn2⟩
set_option maxRecDepth 100000 in
set_option maxHeartbeats 2000000 in
theorem w_weightsD (g0 lo : Nat) (A : Option Addr) (c1 : Nat) (ns : List Node) (lo2 : Nat) (D : Option Addr) (cd : Nat) (l : List Wgt) (ad wi : Int) (w : World) (hg : w.cell? ⟨g0, 0, none⟩ = some (.slice A ns.length c1)) (hgl : g0 < w.heap.size) (hR : Rd w lo A 3 encNode ns) (hl : ns.length ≤ 65536) (hD : Rd w lo2 D 2 encW l) (hdl : l.length ≤ 65536) :
    Calls Tryz.prog 85 #[.pointer (some ⟨g0, 0, none⟩), .slice D l.length cd, .int .i64 ad, .int .i64 wi] w fun e w' => e = .returned (.int .i64 (restF ns l ad wi)) ∧ Nx w w' := by
  have HNA := hide (fun s W (hg2 : Nx w W) => w_isNodeD g0 lo A c1 ns s W (nx_cell hg2 hgl hg) (Nat.lt_of_lt_of_le hgl hg2.sz) (hR.nx hg2) hl)
  have HD := hide hD
  clear hR hD hg hgl
  generalize hn : l.length = n at *
  have HN := hide hn
  clear hn
  generalize ns.length = nn at *
  by_cases hbig : 500 < n
  · go_enter Tryz.func85, Tryz.ntmps85
    go_wp2_with fail
    go_ret
    exact ⟨ret_int (by unfold restF wgtsF; rw [if_pos (show 500 < l.length by rw [HN.out]; exact hbig), if_neg (by decide)]), Nx.refl _⟩
  · have HRS := hide (fun z (h0 : z ≠ 0) (h : wgtsF ns l = z) => (show restF ns l ad wi = z from by unfold restF; rw [if_neg (by rw [h]; exact h0), h]))
    have HF := hide (show wgtsF ns l = chk (wgtF ns) none l by unfold wgtsF; rw [if_neg (by rw [HN.out]; exact hbig)])
    go_enter Tryz.func85, Tryz.ntmps85
    go_wp2_with fail
    go_loopw [16] (fun i wr => ∃ k : Nat, k ≤ n ∧ i = .int .i64 k ∧ Nx w wr ∧ chk (wgtF ns) none l = chk (wgtF ns) (prevOf l k) (l.drop k)) (fun i _ => n - (intOf i).toNat)
    case atStart => exact ⟨0, Nat.zero_le _, rfl, Nx.refl _, rfl⟩
    case round =>
      obtain ⟨k, hk, rfl, hbw, hq⟩ := hrel
      have HQ := hide hq
      clear hq
      by_cases hlt : k < n
      · have hlt' : k < l.length := by have := HN.out; omega
        obtain ⟨b, off, rfl, _, hb, hbr, hc⟩ := HD.out.open_ hbw (by omega)
        have c0 : wr.cell? ⟨b, off + k * 2, none⟩ = some (.string l[k].node) := hc k hlt' 0 _ rfl
        have c1 : wr.cell? ⟨b, off + k * 2 + 1, none⟩ = some (.int .i64 l[k].many) := hc k hlt' 1 _ rfl
        have HC := hide hc
        clear hc
        have HDR := hide (chk_drop (wgtF ns) l k hlt')
        have HA := hide (HNA.out l[k].node)
        have HPV := hide (fun hk0 : 0 < k => prevOf_pos l k hk0 (by omega))
        have HC4 := hide (fun hk0 : 0 < k => (show wr.cell? ⟨b, off + (k - 1) * 2, none⟩ = some (.string (l[k - 1]'(by omega)).node) from HC.out (k - 1) (by omega) 0 _ rfl))
        have hbl : wr.heap.size < (wr.alloc (.cells #[.string l[k].node, .int .i64 l[k].many] 86)).heap.size := by simp
        have k0 : (wr.alloc (.cells #[.string l[k].node, .int .i64 l[k].many] 86)).cell? ⟨wr.heap.size, 0, none⟩ = some (.string l[k].node) := by go_simp
        have k1 : (wr.alloc (.cells #[.string l[k].node, .int .i64 l[k].many] 86)).cell? ⟨wr.heap.size, 1, none⟩ = some (.int .i64 l[k].many) := by go_simp
        have hbr2 : b < (wr.alloc (.cells #[.string l[k].node, .int .i64 l[k].many] 86)).heap.size := by simp; omega
        have hba : Nx wr (wr.alloc (.cells #[.string l[k].node, .int .i64 l[k].many] 86)) := (Nx.refl wr).alloc _
        have HBA := hide (hbw.alloc (.cells #[.string l[k].node, .int .i64 l[k].many] 86))
        have HK := hide (⟨k0, k1⟩ : _ ∧ _)
        have HBA2 := hide hba
        clear k0 k1 hba
        have HMK : Hid (∀ W, Nx (wr.alloc (.cells #[.string l[k].node, .int .i64 l[k].many] 86)) W → W.cell? ⟨wr.heap.size, 0, none⟩ = some (.string l[k].node) ∧ W.cell? ⟨wr.heap.size, 1, none⟩ = some (.int .i64 l[k].many)) := hide (fun W h => ⟨nx_cell h hbl HK.out.1, nx_cell h hbl HK.out.2⟩)
        have HMC : Hid (∀ W, Nx (wr.alloc (.cells #[.string l[k].node, .int .i64 l[k].many] 86)) W → 0 < k → ∃ p0 : ByteArray, prevOf l k = some ⟨p0, (l[k - 1]'(by omega)).many⟩ ∧ W.cell? ⟨b, off + (k - 1) * 2, none⟩ = some (.string p0)) := hide (fun W h hk0 => ⟨_, HPV.out hk0, nx_cell (HBA2.out.trans h) hbr (HC4.out hk0)⟩)
        clear hbl hbr2 HC HC4 HPV
        by_cases hn0 : nodeI ns l[k].node < 0
        · have HV := hide (show wgtF ns (prevOf l k) l[k] = 8 from if_pos hn0)
          have t0 : decide (0 ≤ nodeI ns l[k].node) = false := decide_eq_false (by omega)
          have HN8 := hide hn0
          clear hn0
          go_wp2_with (go_at_call 83; refine (HA.out _ HBA.out).mono ?_; rintro e w2 ⟨rfl, hn2⟩)
          go_ret
          exact ⟨ret_int (HRS.out _ (by decide) (by rw [HF.out, HQ.out, HDR.out, HV.out]; rfl)).symm, HBA.out.trans hn2⟩
        · have t0 : decide (0 ≤ nodeI ns l[k].node) = true := decide_eq_true (by omega)
          have HV0 := hide (show wgtF ns (prevOf l k) l[k] = if aftW (prevOf l k) l[k] then 7 else argF (!outB l[k].many 0 1000000000) from if_neg hn0)
          clear hn0
          by_cases hk0 : 0 < k
          · have q0 : decide ((0 : Int) < (k : Int)) = true := by simpa using hk0
            have q1 : IntKind.i64.wrap ((k : Int) - 1) = (k : Int) - 1 := IntWalk.i64_in _ (by omega)
            have q2 : (1 : Int) ≤ (k : Int) := by omega
            have q3 : ((k : Int) - 1).toNat = k - 1 := by omega
            have q4 : (k : Int) - 1 < (n : Int) := by omega
            obtain ⟨p0, hp0, _⟩ := HMC.out _ (Nx.refl _) hk0
            have HMC2 : Hid (∀ W, Nx (wr.alloc (.cells #[.string l[k].node, .int .i64 l[k].many] 86)) W → W.cell? ⟨b, off + (k - 1) * 2, none⟩ = some (.string p0)) := hide (fun W h => by
              obtain ⟨p1, h1, h2⟩ := HMC.out W h hk0
              rw [hp0] at h1
              injection h1 with h1
              injection h1 with h1 _
              rw [h1]; exact h2)
            have HV1 := hide (show aftW (prevOf l k) l[k] = strLe l[k].node p0 by rw [hp0]; rfl)
            clear hp0 HMC
            cases ho : strLe l[k].node p0
            · have t1 : (Op.bytesLess l[k].node.toList p0.toList || l[k].node.toList == p0.toList) = false := ho
              rw [ho] at HV1
              clear ho
              cases hp : outB l[k].many 0 1000000000
              all_goals
                have HP := hide hp
                have t2 := hp
                clear hp
                go_wp2_with (go_at_call 83; refine (HA.out _ HBA.out).mono ?_; rintro e w2 ⟨rfl, hn2⟩; obtain ⟨m0, m1⟩ := HMK.out _ hn2; have m2 := HMC2.out _ hn2)
                go_quiet (fail)
                go_wp2_with (go_at_call 84; refine (w_Out _ _ _ _).mono ?_; rw [t2]; rintro e w' ⟨rfl, rfl⟩)
              · go_roundw
                case rel => exact ⟨k + 1, by omega, by go_num, ((HBA.out.trans hn2)).drewN _, by rw [HQ.out, HDR.out, HV0.out, HV1.out]; unfold argF; rw [HP.out]; rfl⟩
                case measure => simp [intOf]; omega
              · go_ret
                exact ⟨ret_int (HRS.out _ (by decide) (by rw [HF.out, HQ.out, HDR.out, HV0.out, HV1.out]; unfold argF; rw [HP.out]; rfl)).symm, (HBA.out.trans hn2).drewN _⟩
            · have t1 : (Op.bytesLess l[k].node.toList p0.toList || l[k].node.toList == p0.toList) = true := ho
              rw [ho] at HV1
              clear ho
              go_wp2_with (go_at_call 83; refine (HA.out _ HBA.out).mono ?_; rintro e w2 ⟨rfl, hn2⟩; obtain ⟨m0, m1⟩ := HMK.out _ hn2; have m2 := HMC2.out _ hn2)
              go_quiet (fail)
              go_wp2
              go_ret
              exact ⟨ret_int (HRS.out _ (by decide) (by rw [HF.out, HQ.out, HDR.out, HV0.out, HV1.out]; rfl)).symm, (HBA.out.trans hn2).drewN _⟩
          · have HV1 := hide (show aftW (prevOf l k) l[k] = false by have e : k = 0 := (by omega); subst e; rw [prevOf_zero]; rfl)
            have q0 : decide ((0 : Int) < (k : Int)) = false := by simpa using hk0
            clear HMC
            cases hp : outB l[k].many 0 1000000000
            all_goals
              have HP := hide hp
              have t2 := hp
              clear hp
              go_wp2_with (go_at_call 83; refine (HA.out _ HBA.out).mono ?_; rintro e w2 ⟨rfl, hn2⟩; obtain ⟨m0, m1⟩ := HMK.out _ hn2)
              go_quiet (fail)
              go_wp2_with (go_at_call 84; refine (w_Out _ _ _ _).mono ?_; rw [t2]; rintro e w' ⟨rfl, rfl⟩)
            · go_roundw
              case rel => exact ⟨k + 1, by omega, by go_num, ((HBA.out.trans hn2)).drewN _, by rw [HQ.out, HDR.out, HV0.out, HV1.out]; unfold argF; rw [HP.out]; rfl⟩
              case measure => simp [intOf]; omega
            · go_ret
              exact ⟨ret_int (HRS.out _ (by decide) (by rw [HF.out, HQ.out, HDR.out, HV0.out, HV1.out]; unfold argF; rw [HP.out]; rfl)).symm, (HBA.out.trans hn2).drewN _⟩
      · have HE := hide (show restF ns l ad wi = argF (momB ad && !outB wi 0 86400000) from if_pos (by rw [HF.out, HQ.out, List.drop_of_length_le (by have := HN.out; omega)]; rfl))
        cases hm : momB ad
        · have HM := hide hm
          go_wp2_with (go_at_call 104; refine (w_Moment _ _).mono ?_; rw [hm]; rintro e w' ⟨rfl, rfl⟩)
          go_ret
          exact ⟨ret_int (by rw [HE.out, HM.out]; rfl), hbw⟩
        · cases ho : outB wi 0 86400000
          all_goals
            have HM := hide hm
            have HO := hide ho
            go_wp2_with (first | (go_at_call 104; refine (w_Moment _ _).mono ?_; rw [hm]; rintro e w' ⟨rfl, rfl⟩) | (go_at_call 84; refine (w_Out _ _ _ _).mono ?_; rw [ho]; rintro e w' ⟨rfl, rfl⟩))
            go_ret
            exact ⟨ret_int (by rw [HE.out, HM.out, HO.out]; rfl), hbw⟩
end Go.Proofs.YtbjbeddjaajdaaaGreatDoor
/- How much is covered by rows of yes and no. -/
namespace Go.Proofs.YtbjbeddjaajdaaaGreatDoor
open Go.RowKit

set_option maxRecDepth 100000 in
set_option maxHeartbeats 1000000 in
theorem w_IndexFB (g : Nat) (p : RowB → Bool) (cap : Value) (eg : Enters g) (lo : Nat) (A : Option Addr) (c : Nat) (l : List RowB) (w : World) (hcl : ∀ y, y ∈ l → ∀ W, Nx w W → Calls Tryz.prog g #[.slice y.a y.l.length y.c, cap] W fun e w' => e = .returned (.bool (p y)) ∧ Nx W w')
    (hR : Rd w lo A 1 encRowB l) (hl : l.length ≤ 65536) :
    Calls Tryz.prog 188 #[.slice A l.length c, .func (.func g) #[] #[cap]] w fun e w' => e = .returned (.int .i64 (findI p l)) ∧ Nx w w' := by
  generalize hn : l.length = n at *
  have HR := hide hR
  have HN := hide hn
  have HC0 := hide hcl
  clear hR hn hcl
  unfold Enters at eg
  go_enter Tryz.func188, Tryz.ntmps188
  go_wp2
  go_loopw [5, 8] (fun _ i wr => ∃ k : Nat, k ≤ n ∧ i = .int .i64 k ∧ Nx w wr ∧ findI p l = idxP p (l.drop k) k) (fun _ i _ => n - (intOf i).toNat)
  case atStart => exact ⟨0, Nat.zero_le _, rfl, Nx.refl _, rfl⟩
  case round =>
    obtain ⟨k, hk, rfl, hbw, hq⟩ := hrel
    have HQ := hide hq
    clear hq
    by_cases hlt : k < n
    · have hlt' : k < l.length := by have := HN.out; omega
      obtain ⟨b, off, rfl, _, hb, hbr, hc⟩ := HR.out.open_ hbw (by omega)
      have c0 : wr.cell? ⟨b, off + k, none⟩ = some (.slice l[k].a l[k].l.length l[k].c) := by have := hc k hlt' 0 _ rfl; simpa using this
      clear hc
      have HD := hide (idxP_drop p l k hlt')
      have hcl := fun W (h : Nx w W) => HC0.out l[k] (List.getElem_mem hlt') W h
      generalize l[k] = y at *
      cases hbig : p y
      all_goals
        have HB := hide hbig
        rw [hbig] at hcl
        have HCL := hide hcl
        clear hbig hcl
        go_wp2_with (go_at_fn g; refine (HCL.out _ hbw).mono ?_; rintro e w2 ⟨rfl, hn2⟩)
      · go_roundw
        case rel => exact ⟨k + 1, by omega, by go_num, hbw.trans hn2, by rw [HQ.out, HD.out, HB.out, if_neg (by simp)]⟩
        case measure => simp [intOf]; omega
      · go_ret
        exact ⟨ret_int (by rw [HQ.out, HD.out, HB.out, if_pos rfl]), hbw.trans hn2⟩
    · go_wp2
      go_ret
      exact ⟨ret_int (by rw [HQ.out, List.drop_of_length_le (by have := HN.out; omega)]; rfl), hbw⟩
set_option maxRecDepth 100000 in
set_option maxHeartbeats 1000000 in
theorem w_ContFB (g : Nat) (p : RowB → Bool) (cap : Value) (eg : Enters g) (lo : Nat) (A : Option Addr) (c : Nat) (l : List RowB) (w : World) (hcl : ∀ y, y ∈ l → ∀ W, Nx w W → Calls Tryz.prog g #[.slice y.a y.l.length y.c, cap] W fun e w' => e = .returned (.bool (p y)) ∧ Nx W w')
    (hR : Rd w lo A 1 encRowB l) (hl : l.length ≤ 65536) :
    Calls Tryz.prog 138 #[.slice A l.length c, .func (.func g) #[] #[cap]] w fun e w' => e = .returned (.bool (l.any p)) ∧ Nx w w' := by
  have HC := hide (w_IndexFB g p cap eg lo A c l w hcl hR hl)
  have HA := hide (idxP_any p l 0)
  rw [show idxP p l 0 = findI p l from rfl] at HA
  generalize findI p l = r at *
  generalize l.any p = z at *
  clear hcl eg hR hl
  generalize l.length = n at *
  have h1 := HA.out
  have h2 : decide (r ≥ 0) = z := h1
  go_enter Tryz.func138, Tryz.ntmps138
  go_wp2_with (go_at_call 188; refine HC.out.mono ?_; rintro e w2 ⟨rfl, hn2⟩)
  go_ret
  exact ⟨rfl, hn2⟩
theorem w_cov1 (q i lo : Nat) (a : Option Addr) (c : Nat) (l : List Bool) (w : World) (hq : w.cell? ⟨q, 0, none⟩ = some (.int .i64 (i : Int))) (hR : Rd w lo a 1 encBo l) (hi : i < l.length) :
    Calls Tryz.prog 139 #[.slice a l.length c, .pointer (some ⟨q, 0, none⟩)] w fun e w' => e = .returned (.bool (l.getD i false)) ∧ Nx w w' := by
  have hv : l.getD i false = l[i] := by rw [List.getD_eq_getElem?_getD, List.getElem?_eq_getElem hi]; rfl
  rw [hv]
  obtain ⟨b, off, rfl, _, hb, hbr, hc⟩ := hR.open_ (Nx.refl w) (by omega)
  have c0 : w.cell? ⟨b, off + i, none⟩ = some (.bool l[i]) := by have := hc i hi 0 _ rfl; simpa using this
  generalize l[i] = v at *
  have k1 : (i : Int) < (l.length : Int) := by omega
  have k2 : (0 : Int) ≤ (i : Int) := by omega
  clear hc hR
  generalize l.length = n at *
  go_enter Tryz.func139, Tryz.ntmps139
  go_wp2_with fail
  go_ret
  exact ⟨rfl, Nx.refl _⟩
theorem eg_cov1 : Enters 139 := enters_of Tryz.func139 (by kernel_rfl) rfl
/-- Rows that can be read, each as long as the weights. -/
def RowsB (w : World) (lo : Nat) (es : List RowB) (n : Nat) : Prop := ∀ r ∈ es, Rd w lo r.a 1 encBo r.l ∧ r.l.length = n
theorem RowsB.nx {w w' : World} {lo : Nat} {es : List RowB} {n : Nat} (h : RowsB w lo es n) (hn : Nx w w') : RowsB w' lo es n := fun r hr => ⟨(h r hr).1.nx hn, (h r hr).2⟩
set_option maxRecDepth 100000 in
set_option maxHeartbeats 2000000 in
theorem w_covered (lo lo2 lo3 : Nat) (D Y : Option Addr) (cd cy : Nat) (l : List Wgt) (es : List RowB) (w : World) (hD : Rd w lo D 2 encW l) (hl : l.length ≤ 500) (hb : ∀ x ∈ l, 0 ≤ x.many ∧ x.many ≤ 1000000000) (hY : Rd w lo2 Y 1 encRowB es) (hyl : es.length ≤ 65536) (hE : RowsB w lo3 es l.length) :
    Calls Tryz.prog 90 #[.slice D l.length cd, .slice Y es.length cy] w fun e w' => e = .returned (.int .i64 (covI (es.map (·.l)) l 0)) ∧ Nx w w' := by
  have HD := hide hD
  have HE := hide hE
  have HB := hide hb
  have HCF := hide (fun q i W (hg : Nx w W) (hq : W.cell? ⟨q, 0, none⟩ = some (.int .i64 ((i : Nat) : Int))) (hql : q < W.heap.size) (hi : i < l.length) => w_ContFB 139 (fun r => r.l.getD i false) (.pointer (some ⟨q, 0, none⟩)) eg_cov1 lo2 Y cy es W (fun y hy W2 h2 => w_cov1 q i lo3 y.a y.c y.l W2 (nx_cell h2 hql hq) ((hE y hy).1.nx (hg.trans h2)) (by rw [(hE y hy).2]; exact hi)) (hY.nx hg) hyl)
  have HAN := hide (fun i => any_map (fun r : RowB => r.l) (fun r => r.getD i false) es)
  clear hD hE hb hY
  obtain ⟨rows, hrows⟩ : ∃ rows, rows = es.map (·.l) := ⟨_, rfl⟩
  rw [← hrows] at HAN ⊢
  clear hrows
  generalize hn : l.length = n at *
  have HN := hide hn
  clear hn
  generalize es.length = m at *
  go_enter Tryz.func90, Tryz.ntmps90
  go_wp2_with fail
  go_loopw [5, 10] (fun v i wr => ∃ (k : Nat) (s : Int), k ≤ n ∧ i = .int .i64 k ∧ v = .int .i64 s ∧ 0 ≤ s ∧ s ≤ k * 1000000000 ∧ Nx w wr ∧ covI rows l 0 = s + covI rows (l.drop k) k) (fun _ i _ => n - (intOf i).toNat)
  case atStart => exact ⟨0, 0, Nat.zero_le _, rfl, rfl, Int.le_refl _, by simp, Nx.refl _, by rw [List.drop_zero]; omega⟩
  case round =>
    obtain ⟨k, s, hk, rfl, rfl, hs0, hs1, hbw, hq⟩ := hrel
    have HQ := hide hq
    clear hq
    by_cases hlt : k < n
    · have hlt' : k < l.length := by have := HN.out; omega
      obtain ⟨b, off, rfl, _, hb, hbr, hc⟩ := HD.out.open_ hbw (by omega)
      have c0 : wr.cell? ⟨b, off + k * 2, none⟩ = some (.string l[k].node) := hc k hlt' 0 _ rfl
      have c1 : wr.cell? ⟨b, off + k * 2 + 1, none⟩ = some (.int .i64 l[k].many) := hc k hlt' 1 _ rfl
      have hm := HB.out _ (List.getElem_mem hlt')
      have HDR := hide (covI_drop rows l k hlt')
      have HA := hide (HAN.out k)
      clear hc
      generalize l[k].many = mk at *
      generalize l[k].node = nk at *
      obtain ⟨wb, hwb⟩ : ∃ wb, wb = (wr.alloc (.cells #[.int .i64 (k : Int)] 3)).alloc (.cells #[.string nk, .int .i64 mk] 86) := ⟨_, rfl⟩
      have hnb : Nx wr wb := hwb ▸ ((Nx.refl wr).alloc _).alloc _
      have hsb : wb.heap.size = wr.heap.size + 2 := by rw [hwb]; simp
      have k0 : wb.cell? ⟨wr.heap.size, 0, none⟩ = some (.int .i64 (k : Int)) := by rw [hwb]; go_simp
      have k1 : wb.cell? ⟨wr.heap.size + 1, 1, none⟩ = some (.int .i64 mk) := by rw [hwb]; go_simp
      have HC := hide (HCF.out wr.heap.size k wb (hbw.trans hnb) k0 (by omega) (by omega))
      have HK1 := hide (fun W (h : Nx wb W) => nx_cell h (show wr.heap.size + 1 < wb.heap.size by omega) k1)
      have HWB := hide hwb
      clear hwb k0 k1
      have W1 : IntKind.i64.wrap (s + mk) = s + mk := IntWalk.i64_in _ (by omega)
      have HP : Hid (es.any (fun r => r.l.getD k false) = rows.any (fun r => r.getD k false)) := hide HA.out.symm
      have HBW := hide (hbw.trans hnb)
      rw [← HP.out] at HDR
      clear HA HP
      generalize es.any (fun r => r.l.getD k false) = z at *
      go_upto_region 5 with fail
      rw [← HWB.out]
      clear HWB c0 c1
      generalize wr.heap.size = g at *
      cases z
      · go_wp2_with (go_at_call 138; refine HC.out.mono ?_; rintro e w2 ⟨rfl, hn2⟩)
        go_roundw
        case rel => exact ⟨k + 1, s, by omega, by go_num, rfl, hs0, by omega, HBW.out.trans hn2, by rw [HQ.out, HDR.out]; first | (rw [if_neg (by simp)]; omega) | (rw [if_neg not_false]; omega)⟩
        case measure => simp [intOf]; omega
      · go_wp2_with (go_at_call 138; refine HC.out.mono ?_; rintro e w2 ⟨rfl, hn2⟩; have m1 := HK1.out _ hn2)
        go_roundw
        case rel => exact ⟨k + 1, s + mk, by omega, by go_num, rfl, by omega, by omega, HBW.out.trans hn2, by rw [HQ.out, HDR.out]; first | (rw [if_pos rfl]; omega) | (rw [if_pos trivial]; omega)⟩
        case measure => simp [intOf]; omega
    · go_wp2_with fail
      go_ret
      exact ⟨ret_int (by rw [HQ.out, List.drop_of_length_le (by have := HN.out; omega)]; exact (Int.add_zero _).symm), hbw⟩
end Go.Proofs.YtbjbeddjaajdaaaGreatDoor
