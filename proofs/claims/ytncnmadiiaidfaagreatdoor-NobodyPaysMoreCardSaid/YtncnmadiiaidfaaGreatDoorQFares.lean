/- What trips cost, in order of the list: the program's fares. -/
import Derived.Test.YtncnmadiiaidfaaGreatDoorQG1
import Derived.Test.YtncnmadiiaidfaaGreatDoorQG14
import Derived.Test.YtncnmadiiaidfaaGreatDoorQG22
import Derived.Test.YtncnmadiiaidfaaGreatDoorQFullA
import Derived.Deep.DeepCutAuto
import Derived.Deep.RegionHeld
import Derived.RegionTactic
namespace Go.Proofs.YtncnmadiiaidfaaGreatDoor
open Go.RowKit Go.Sort Go.Shelf Go.Maps

def intL (ys : List Nat) : List Int := ys.map (fun (i : Nat) => (i : Int))
theorem fl_map : ∀ ys : List Nat, (intL ys).flatMap encI = ys.map (fun (i : Nat) => Value.int .i64 (i : Int))
  | [] => rfl
  | y :: ys => by show ((y : Int) :: intL ys).flatMap encI = _; rw [List.flatMap_cons, fl_map ys]; rfl
theorem far_step (zs : List Zone) (P : Price) (xs : List Pass) {l O : List Jour} {ys : List Nat} {PA : List Paid} {k : Nat} (hk : k = l.length) (hp : ys.Perm (List.range k)) (hOe : O = ordOf l ys) (hPA : PA = payAll zs P xs [] O) (hO : IsOrd l O) (hs : SortR l) (j : Nat) (hj : j < k) :
    ∃ (y : Nat) (t : Jour), y < k ∧ l[y]? = some t ∧ ys[j]? = some y ∧ payAll zs P xs [] (O.take (j + 1)) = payAll zs P xs [] (O.take j) ++ [payOne zs P xs (payAll zs P xs [] (O.take j)) t] ∧ (outF PA l ys j).set y (payOne zs P xs (payAll zs P xs [] (O.take j)) t).cents = outF PA l ys (j + 1) := by
  have hyl : ys.length = k := by have := hp.length_eq; simpa using this
  have hjy : j < ys.length := by omega
  have hjO : j < O.length := by rw [hOe]; simp [ordOf]; omega
  have hy : ys[j] < k := List.mem_range.1 (hp.mem_iff.1 (List.getElem_mem _))
  have hOj : O[j] = l[ys[j]]'(by omega) := by
    subst hOe
    rw [ordOf_at hjy]
    simp [List.getD, show ys[j] < l.length by omega]
  have hD : l.getD ys[j] default = l[ys[j]]'(by omega) := by simp [List.getD, show ys[j] < l.length by omega]
  refine ⟨ys[j], O[j], hy, by rw [hOj]; exact List.getElem?_eq_getElem _, List.getElem?_eq_getElem _, payAll_step zs P xs O j hjO, ?_⟩
  refine outF_set PA l ys j hjy _ ?_
  rw [cost_step zs P xs hO hs j hjO, hD, ← hOj, hPA]
/-- What stands fast while the costs are filled in. -/
structure FarW (w wr : World) (A : Option Addr) (cl b5 g10 g12 cnt : Nat) (p : Price) (n : Nat) (ys : List Nat) (L : List Int) (f : Int × Int → Int) : Prop where
  p : wr.heap[b5]? = some (.cells (encP p).toArray 29 (0, 0))
  b : wr.heap[b5 + 1]? = some (.cells #[.slice A n cl] 33 (0, 0))
  o : wr.ownsRow w.heap.size 3 1 (.slice (some ⟨g10, 0, none⟩) n n) n ((intL ys).flatMap encI)
  u : wr.ownsRow w.heap.size 3 1 (.slice (some ⟨g12, 0, none⟩) n n) n (L.flatMap encI)
  m : MpU wr (b5 + 2) cnt f
  nx : Nx w wr
theorem FarW.then {w wr wx : World} {A : Option Addr} {cl b5 g10 g12 cnt : Nat} {p : Price} {n : Nat} {ys : List Nat} {L : List Int} {f : Int × Int → Int} (h : FarW w wr A cl b5 g10 g12 cnt p n ys L f) (hn : Nx wr wx) : FarW w wx A cl b5 g10 g12 cnt p n ys L f :=
  ⟨(hn.block _ (Array.getElem?_eq_some_iff.1 h.p).1).trans h.p, (hn.block _ (Array.getElem?_eq_some_iff.1 h.b).1).trans h.b, own_nx h.o hn, own_nx h.u hn, h.m.nx hn, h.nx.trans hn⟩
theorem FarW.gr {w wr wx : World} {A : Option Addr} {cl b5 g10 g12 cnt cnt' s : Nat} {p : Price} {n : Nat} {ys : List Nat} {L L' : List Int} {f f' : Int × Int → Int} (h : FarW w wr A cl b5 g10 g12 cnt p n ys L f) (hg : wr.grownBy wx (some s)) (hs : w.heap.size ≤ s) (h1 : b5 ≠ s) (h2 : b5 + 1 ≠ s) (h3 : g10 ≠ s)
    (hu : wx.ownsRow w.heap.size 3 1 (.slice (some ⟨g12, 0, none⟩) n n) n (L'.flatMap encI)) (hm : MpU wx (b5 + 2) cnt' f') : FarW w wx A cl b5 g10 g12 cnt' p n ys L' f' := by
  have hG : Gr s wr wx := hg
  exact ⟨(hG.block _ (Array.getElem?_eq_some_iff.1 h.p).1 (by intro e; injection e with e; exact h1 e)).trans h.p, (hG.block _ (Array.getElem?_eq_some_iff.1 h.b).1 (by intro e; injection e with e; exact h2 e)).trans h.b,
    h.o.kept hg (.inr fun e => by injection e with e; exact h3 e), hu, hm, h.nx.grown hg (fun j hj => by injection hj with hj; omega)⟩
theorem MpU.gr {w w' : World} {b n s : Nat} {f : Int × Int → Int} (h : MpU w b n f) (hg : w.grownBy w' (some s)) (hs : b ≠ s) : MpU w' b n f := by
  obtain ⟨Dm, h1, h2⟩ := h
  exact ⟨Dm, h1.kept hg (fun e => by injection e with e; omega), h2⟩
theorem capN_pos {whole spent : Int} {x : Pass} (h : 0 < x.most) : capN whole x spent = min (begI (whole * x.pay) 100) (max 0 (x.most - spent)) := by unfold capN; rw [if_pos h]
theorem capN_no {whole spent : Int} {x : Pass} (h : ¬ 0 < x.most) : capN whole x spent = begI (whole * x.pay) 100 := by unfold capN; rw [if_neg h]
def byI : Option Nat → Int
  | none => -1
  | some k => (k : Int)
theorem bestX_take (cnt : Pass → Bool) (n : Nat → Pass → Int) (xs : List Pass) (b : Int × Option Nat) (k : Nat) (hk : k < xs.length) : bestX cnt n 0 (xs.take (k + 1)) b = (let b' := bestX cnt n 0 (xs.take k) b; if cnt xs[k] then (if b'.2 = none ∨ n k xs[k] < b'.1 then (n k xs[k], some k) else b') else b') := by
  rw [List.take_succ_eq_append_getElem hk, bestX_snoc]
  simp only [List.length_take, Nat.zero_add, Nat.min_eq_left (Nat.le_of_lt hk)]

set_option maxRecDepth 100000 in
set_option maxHeartbeats 8000000 in
theorem w_fares (D X A : Option Addr) (c cx cl : Nat) (zs : List Zone) (p : Price) (xs : List Pass) (l : List Jour) (w : World)
    (hZ : RdZones w 0 D zs) (hzl : zs.length ≤ 100) (hzs : ∀ z ∈ zs, z.nodes.Pairwise ltS) (hp : PriceOk p) (hX : RdPasses w 0 X xs) (hxl : xs.length ≤ 300) (hxo : ∀ x ∈ xs, PassOk x) (hJ : RdJours w 0 A l) (hll : l.length ≤ 1000) (hjo : ∀ t ∈ l, JourOk t) (hs : SortR l) :
    Calls Tryz.prog 39 #[.slice D zs.length c, aggP p, .slice X xs.length cx, .slice A l.length cl] w fun e w' => ∃ (O : List Jour) (R : Option Addr) (cR : Nat), IsOrd l O ∧ e = .returned (.slice R l.length cR) ∧ Rd w' w.heap.size R 1 encI (costL zs p xs O l) ∧ Nx w w' := by
  have HFU : Hid (∀ t ∈ l, ∀ W, Nx w W → Calls Tryz.prog 72 #[.slice D zs.length c, aggP p, aggJ t] W fun e w' => e = .returned (.int .i64 (fullI zs p t)) ∧ Nx W w') := hide (fun t ht W hn => w_full 0 0 D c zs p t W (hZ.nx hn) hzl hzs ((hJ.2 t ht).1.nx hn) hp (hjo t ht))
  have HCR : Hid (∀ t ∈ l, ∀ W, Nx w W → Calls Tryz.prog 73 #[.slice D zs.length c, .slice t.a t.nodes.length t.cap] W (StrsR (crossO zs t.nodes) W)) := hide (fun t ht W hn => w_crossed 0 0 D t.a c t.cap zs t.nodes W (hZ.nx hn) hzl hzs ((hJ.2 t ht).1.nx hn) (by have := (hJ.2 t ht).2.2.1; omega))
  have HCL := hide (fun t (ht : t ∈ l) => (show (crossO zs t.nodes).length ≤ 65536 by have := (hJ.2 t ht).2.2.1; have := crossO_len zs t.nodes; omega))
  have HCN : Hid (∀ x ∈ xs, ∀ (t : Jour) (cr : List ByteArray) (lo : Nat) (C : Option Addr) (cc : Nat) (W : World), Nx w W → Rd W lo C 1 encS cr → cr.length ≤ 65536 → Calls Tryz.prog 74 #[aggX x, aggJ t, .slice C cr.length cc] W fun e w' => e = .returned (.bool (countsZ x t cr)) ∧ Nx W w') := hide (fun x hx t cr lo C cc W hn hr hl => w_counts lo 0 C cc x t cr W hr hl ((hX.2 x hx).1.nx hn) (by have := (hX.2 x hx).2.2.1; omega))
  have HFB := hide (fun t : Jour => fullI_bd (zs := zs) (t := t) hp)
  have HPB := hide (fun (O : List Jour) => payAll_bd (zs := zs) (xs := xs) hp hxo O [] (fun d hd => by cases hd))
  have HPO := hide (fun (done : List Paid) (t : Jour) => payOne_bd (zs := zs) (xs := xs) (done := done) (t := t) hp hxo)
  have HXO := hide hxo
  have HJO := hide hjo
  have HXR := hide hX.1
  have HJR := hide hJ.1
  have HSR := hide hs
  generalize zs.length = nz at *
  obtain ⟨nx, hnx⟩ : ∃ nx, nx = xs.length := ⟨_, rfl⟩
  obtain ⟨n, hn⟩ : ∃ n, n = l.length := ⟨_, rfl⟩
  have HSF : Hid (∀ (g b7 : Nat) (base : Nat) (W : World), W.ownsRow base 3 1 (.slice (some ⟨g, 0, none⟩) n n) n ((List.range n).map (fun (i : Nat) => Value.int .i64 (i : Int))) → (∀ W', Gr g W W' → W'.cell? ⟨b7, 0, none⟩ = some (.slice A n cl)) → (∀ W', Gr g W W' → Rd W' 0 A 6 encJ l) →
      Calls Tryz.prog 68 #[.slice (some ⟨g, 0, none⟩) n n, .func (.func 69) #[] #[.pointer (some ⟨b7, 0, none⟩)]] W fun en w' => en = .returned (.tuple #[]) ∧
        ∃ ys : List Nat, ys.Perm (List.range n) ∧ ys.Pairwise (fun a b => lexJ (l.getD a default) (l.getD b default)) ∧ w'.ownsRow base 3 1 (.slice (some ⟨g, 0, none⟩) n n) n (ys.map (fun (i : Nat) => Value.int .i64 (i : Int))) ∧ Gr g W w') := hide (fun g b7 base W ho hb hr => by
    subst hn
    by_cases h0 : l.length = 0
    · rw [h0] at ho ⊢
      have hcon := AnyF.slices_SortFunc_none (P := Tryz.prog) { Tryz.sortIntF with } (some ⟨g, 0, none⟩) 0 (.func (.func 69) #[] #[.pointer (some ⟨b7, 0, none⟩)]) W
      change Calls Tryz.prog 68 _ _ _ at hcon
      exact hcon.mono fun en w' ⟨he, hw⟩ => ⟨he, [], List.Perm.refl _, List.Pairwise.nil, hw ▸ ho, hw ▸ Gr.refl g W⟩
    · exact w_SortPl (lo := 0) l (by omega) hll hs ho hb hr)
  rw [← hn] at hll
  rw [← hnx] at hxl
  rw [← hn, ← hnx]
  have HN := hide hn
  have HNX := hide hnx
  clear hn hnx hX hJ hxo hjo hs hZ hzs hp hzl
  have hmm := @run_makeMap Tryz.prog
  have hmk := fun w => run_make_ints n (by omega) w
  obtain ⟨Z, hZe⟩ : ∃ Z, Z = madeCells #[.int .i64 0] n := ⟨_, rfl⟩
  have HZ := hide (made_ints n)
  rw [← hZe] at hmk HZ
  clear hZe
  obtain ⟨k0, p1, p2, p3, p4, p5, p6, p7, p8, p9⟩ := p
  obtain ⟨P, hP⟩ : ∃ P : Price, P = ⟨k0, p1, p2, p3, p4, p5, p6, p7, p8, p9⟩ := ⟨_, rfl⟩
  rw [← hP] at HFB HPB HPO HFU ⊢
  have HPE := hide hP
  dsimp only [aggP]
  rw [hP]
  dsimp only
  clear hP
  have HFU2 : Hid (∀ t ∈ l, ∀ W, Nx w W → Calls Tryz.prog 72 #[.slice D nz c, .agg #[.string k0, .int .i64 p1, .int .i64 p2, .int .i64 p3, .int .i64 p4, .int .i64 p5, .int .i64 p6, .int .i64 p7, .int .i64 p8, .int .i64 p9], aggJ t] W fun e w' => e = .returned (.int .i64 (fullI zs P t)) ∧ Nx W w') := hide (fun t ht W hn => by have h := HFU.out t ht W hn; rw [HPE.out] at h ⊢; exact h)
  clear HFU
  go_enter Tryz.func39, Tryz.ntmps39
  go_upto_region 4 with fail
  have HMK := hide hmk
  clear hmk hmm
  obtain ⟨b5, hb5⟩ : ∃ b5, b5 = w.heap.size := ⟨_, rfl⟩
  obtain ⟨w3, hw3⟩ : ∃ w3, w3 = (((w.alloc (.cells #[.string k0, .int .i64 p1, .int .i64 p2, .int .i64 p3, .int .i64 p4, .int .i64 p5, .int .i64 p6, .int .i64 p7, .int .i64 p8, .int .i64 p9] 29 (0, 0))).alloc (.cells #[.slice A n cl] 33 (0, 0))).alloc (.map #[] 0)).alloc (.cells Z 3) := ⟨_, rfl⟩
  have hn3 : Nx w w3 := hw3 ▸ ((((Nx.refl w).alloc _).alloc _).alloc _).alloc _
  have hP3 : w3.heap[b5]? = some (.cells (encP P).toArray 29 (0, 0)) := by rw [HPE.out, hw3, hb5]; exact (((((Nx.refl _).alloc _).alloc _).alloc _).block _ (by simp)).trans (heap_alloc_new w _)
  have hB3 : w3.heap[b5 + 1]? = some (.cells #[.slice A n cl] 33 (0, 0)) := by rw [hw3, hb5]; exact ((((Nx.refl _).alloc _).alloc _).block _ (by simp)).trans (hnew (by simp))
  have hM3 : MpU w3 (b5 + 2) 0 (fun _ => 0) := by
    have h := MpI.made (P := Tryz.prog) (K := 146) (E := 3) (ek := ekU) (dom := domU) ((w.alloc (.cells #[.string k0, .int .i64 p1, .int .i64 p2, .int .i64 p3, .int .i64 p4, .int .i64 p5, .int .i64 p6, .int .i64 p7, .int .i64 p8, .int .i64 p9] 29 (0, 0))).alloc (.cells #[.slice A n cl] 33 (0, 0)))
    have e : ((w.alloc (.cells #[.string k0, .int .i64 p1, .int .i64 p2, .int .i64 p3, .int .i64 p4, .int .i64 p5, .int .i64 p6, .int .i64 p7, .int .i64 p8, .int .i64 p9] 29 (0, 0))).alloc (.cells #[.slice A n cl] 33 (0, 0))).heap.size = b5 + 2 := by rw [hb5]; simp
    rw [e] at h
    rw [hw3]; exact h.nx ((Nx.refl _).alloc _)
  have hO3 : w3.ownsRow w.heap.size 3 1 (.slice (some ⟨b5 + 3, 0, none⟩) n n) n ((List.replicate n (0 : Int)).flatMap encI) := by
    have h := own_made (((w.alloc (.cells #[.string k0, .int .i64 p1, .int .i64 p2, .int .i64 p3, .int .i64 p4, .int .i64 p5, .int .i64 p6, .int .i64 p7, .int .i64 p8, .int .i64 p9] 29 (0, 0))).alloc (.cells #[.slice A n cl] 33 (0, 0))).alloc (.map #[] 0)) n w.heap.size (by omega) (by simp <;> omega) HZ.out
    have e : (((w.alloc (.cells #[.string k0, .int .i64 p1, .int .i64 p2, .int .i64 p3, .int .i64 p4, .int .i64 p5, .int .i64 p6, .int .i64 p7, .int .i64 p8, .int .i64 p9] 29 (0, 0))).alloc (.cells #[.slice A n cl] 33 (0, 0))).alloc (.map #[] 0)).heap.size = b5 + 3 := by rw [hb5]; simp
    rw [e] at h
    rw [hw3]; exact h
  have hz3 : w3.heap.size = b5 + 4 := by rw [hw3, hb5]; simp
  have HB5 := hide hb5
  have HG3 := hide (And.intro hn3 (And.intro hP3 (And.intro hB3 (And.intro hM3 hO3))))
  have HZ3 := hide hz3
  obtain ⟨g10, hg10⟩ : ∃ g10, g10 = b5 + 3 := ⟨_, rfl⟩
  have hsz10 : w.heap.size + 1 + 1 + 1 = g10 := by rw [hg10, hb5]
  clear hn3 hP3 hB3 hM3 hO3 hz3
  rw [← hw3]
  clear hw3
  try rw [hsz10]
  rw [← hb5]
  clear hb5
  have HG10 := hide hg10
  clear hg10 hsz10
  obtain ⟨RL, hRL⟩ : ∃ RL, RL = intL (List.range n) := ⟨_, rfl⟩
  have hRLl : RL.length = n := by rw [hRL]; simp [intL]
  have HRL := hide hRL
  have HRLn := hide hRLl
  clear hRL hRLl
  go_loopw [11, 30] (fun _ i wr => ∃ k : Nat, k ≤ n ∧ i = .int .i64 k ∧ wr.ownsRow w.heap.size 3 1 (.slice (some ⟨g10, 0, none⟩) n n) n ((fillN RL k).flatMap encI) ∧ Gr g10 w3 wr) (fun _ i _ => n - (intOf i).toNat)
  case atStart => exact ⟨0, Nat.zero_le _, rfl, by rw [fillN_zero, HRLn.out, HG10.out]; exact HG3.out.2.2.2.2, Gr.refl _ _⟩
  case round =>
    obtain ⟨k, hk, rfl, hown, hgr⟩ := hrel
    by_cases hlt : k < n
    · have hfl : (fillN RL k).length = n := by rw [fillN_len _ _ (by rw [HRLn.out]; exact hk), HRLn.out]
      have c0 : wr.cell? ⟨g10, k, none⟩ = some (.int .i64 ((fillN RL k)[k]'(by omega))) := by have := own_cell encI_len hfl hown k (by omega) 0 _ rfl; simpa using this
      have f0 : wr.frozen? ⟨g10, k, none⟩ = false := hown.frozenAt _
      have hgl := (hown.lt g10 rfl).2
      have HOW := hide hown
      have HGR := hide hgr
      have HFL := hide hfl
      have i1 : (0 : Int) ≤ (k : Int) := by omega
      have i2 : (k : Int) < (n : Int) := by omega
      clear hown hgr
      go_wp2_with fail
      go_roundw
      case rel =>
        refine ⟨k + 1, by omega, by go_num, ?_, HGR.out.setS (p := ⟨g10, k, none⟩) (.inl rfl) _⟩
        have hkl : k < RL.length := by rw [HRLn.out]; exact hlt
        have hv : RL[k] = (k : Int) := by have := HRL.out; subst this; simp [intL]
        have h := own_set encI_len HFL.out HOW.out k (by rw [HFL.out]; exact hlt) 0 (by omega) (.int .i64 (k : Int)) (k : Int) rfl k (by omega)
        rw [← hv, fillN_set RL k hkl, hv] at h
        exact h
      case measure => simp [intOf]; omega
    · have ek : k = n := by omega
      subst ek
      have hfa : fillN RL k = RL := by have := fillN_all RL; rw [HRLn.out] at this; exact this
      rw [hfa, HRL.out, fl_map] at hown
      have HOW := hide hown
      have HGR := hide hgr
      have hne5 : b5 ≠ g10 := by have := HG10.out; omega
      have hne6 : b5 + 1 ≠ g10 := by have := HG10.out; omega
      have HBK := hide (fun (g : Nat) (o : Obj) (h : w3.heap[g]? = some o) (hne : g ≠ g10) (W : World) (hg : Gr g10 w3 W) => (show W.heap[g]? = some o from (hg.block g (Array.getElem?_eq_some_iff.1 h).1 (by intro e; injection e with e; exact hne e)).trans h))
      have hgw : w.heap.size ≤ g10 := by have := HG10.out; have := HB5.out; omega
      have HSX := hide (HSF.out g10 (b5 + 1) w.heap.size wr HOW.out (fun W hg => cell_of_row W (b5 + 1) 0 _ _ _ (HBK.out _ _ HG3.out.2.2.1 hne6 W (HGR.out.trans hg))) (fun W hg => HJR.out.nx ((HG3.out.1).grown (HGR.out.trans hg) (fun j hj => by injection hj with hj; omega))))
      clear hown hgr hlt hk HSF HRL HRLn hfa
      go_upto_region 9 with (go_at_call 68; refine HSX.out.mono ?_; rintro e w5 ⟨rfl, ys, hyp, hys, ho5, hg5⟩)
      have HYP := hide hyp
      have HYS := hide hys
      have HG5 := hide (HGR.out.trans hg5)
      have HO5 := hide ho5
      clear hyp hys ho5 hg5 HSX HOW HGR
      have hmk := HMK.out
      have c6 : w5.cell? ⟨b5 + 1, 0, none⟩ = some (.slice A k cl) := cell_of_row w5 (b5 + 1) 0 _ _ _ (HBK.out _ _ HG3.out.2.2.1 hne6 _ HG5.out)
      have hk0 : (0 : Int) ≤ (k : Int) := by omega
      obtain ⟨g12, hg12⟩ : ∃ g12, g12 = w5.heap.size := ⟨_, rfl⟩
      obtain ⟨w6, hw6⟩ : ∃ w6, w6 = w5.alloc (.cells Z 3) := ⟨_, rfl⟩
      have hyl : ys.length = k := by have := HYP.out.length_eq; simpa using this
      have hsz5 := HG5.out.sz
      have hz3 := HZ3.out
      have hgg : g10 < g12 := by have := HG10.out; omega
      have HFW0 := hide (show FarW w w6 A cl b5 g10 g12 0 P k ys (outF (payAll zs P xs [] (ordOf l ys)) l ys 0) (daySp (payAll zs P xs [] ((ordOf l ys).take 0))) from by
        have hN : Nx w5 w6 := hw6 ▸ (Nx.refl w5).alloc _
        have hu := own_made w5 k w.heap.size (by omega) (by have := HB5.out; omega) HZ.out
        rw [outF_zero, ← HN.out]
        refine ⟨(hN.block _ (by have := (Array.getElem?_eq_some_iff.1 HG3.out.2.1).1; omega)).trans (HBK.out _ _ HG3.out.2.1 hne5 _ HG5.out), (hN.block _ (by have := (Array.getElem?_eq_some_iff.1 HG3.out.2.2.1).1; omega)).trans (HBK.out _ _ HG3.out.2.2.1 hne6 _ HG5.out), by rw [fl_map]; exact own_nx HO5.out hN, by rw [hw6, hg12]; exact hu, ?_, (HG3.out.1.grown HG5.out (fun j hj => by injection hj with hj; omega)).trans hN⟩
        have hm := HG3.out.2.2.2.1
        obtain ⟨Dm, h1, h2⟩ := hm
        show MpU w6 (b5 + 2) 0 (daySp [])
        rw [daySp_nil]
        exact MpI.nx ⟨Dm, h1.kept HG5.out (fun e => by injection e with e; have := HG10.out; omega), h2⟩ hN)
      go_upto_region 11 with fail
      rw [← hw6]
      try rw [← hg12]
      clear hw6 hg12 hmk c6
      have hO := ordOf_is (l := l) (ys := ys) (by rw [← HN.out]; exact HYP.out) HYS.out
      obtain ⟨O, hOe⟩ : ∃ O, O = ordOf l ys := ⟨_, rfl⟩
      have HOE := hide hOe
      rw [← hOe] at HFW0 hO
      obtain ⟨PA, hPA⟩ : ∃ PA, PA = payAll zs P xs [] O := ⟨_, rfl⟩
      rw [← hPA] at HFW0
      have HST := hide (far_step zs P xs HN.out HYP.out hOe hPA hO HSR.out)
      have HGG := hide hgg
      have HYL := hide hyl
      have HEND := hide (fun (j : Nat) (hj : k ≤ j) => (show outF PA l ys j = costL zs P xs O l from by rw [hPA]; exact outF_all zs P xs O l ys (by rw [← HN.out]; exact HYP.out) j (by omega)))
      clear hPA hOe hyl hgg hsz5 hz3
      go_loopw [14, 15, 16, 17, 18, 19, 20, 21, 22, 23, 46] (fun _ _ _ _ _ _ _ _ _ _ i wr => ∃ j : Nat, j ≤ k ∧ i = .int .i64 j ∧ FarW w wr A cl b5 g10 g12 j P k ys (outF PA l ys j) (daySp (payAll zs P xs [] (O.take j)))) (fun _ _ _ _ _ _ _ _ _ _ i _ => k - (intOf i).toNat)
      case atStart => exact ⟨0, Nat.zero_le _, rfl, HFW0.out⟩
      case round =>
        obtain ⟨j, hj, rfl, hfw⟩ := hrel
        by_cases hlt : j < k
        · obtain ⟨y, t, hyk, hly, hyj, hst, hos⟩ := HST.out j hlt
          obtain ⟨done, hdo⟩ : ∃ done, done = payAll zs P xs [] (O.take j) := ⟨_, rfl⟩
          rw [← hdo] at hst hos hfw
          have hdl : done.length ≤ 1000 := by rw [hdo, payAll_len]; simp; omega
          have hdb : ∀ d ∈ done, 0 ≤ d.cents ∧ d.cents ≤ 1000000000 := by rw [hdo]; exact HPB.out _
          have HDB := hide hdb
          have HSJ := hide hst
          have HOS := hide hos
          have ht : t ∈ l := List.mem_of_getElem? hly
          obtain ⟨hyll, hlyt⟩ := List.getElem?_eq_some_iff.1 hly
          have hyc : (intL ys)[j]? = some (y : Int) := by simp [intL, hyj]
          have c0 : wr.cell? ⟨g10, j, none⟩ = some (.int .i64 (y : Int)) := by
            obtain ⟨h1, h2⟩ := List.getElem?_eq_some_iff.1 hyc
            have h := own_cell encI_len (by simp [intL]; exact HYL.out) hfw.o j (by simp [intL]; have := HYL.out; omega) 0 (.int .i64 (y : Int)) (by rw [h2]; rfl)
            simpa using h
          have c1 : wr.cell? ⟨b5 + 1, 0, none⟩ = some (.slice A k cl) := cell_of_row wr (b5 + 1) 0 _ _ _ hfw.b
          obtain ⟨bt, off, rfl, _, hb, hbr, hc⟩ := HJR.out.open_ hfw.nx (by omega)
          have e0 : wr.cell? ⟨bt, off + y * 6, none⟩ = some (.string t.ride) := hlyt ▸ hc y hyll 0 _ rfl
          have e1 : wr.cell? ⟨bt, off + y * 6 + 1, none⟩ = some (.string t.rider) := hlyt ▸ hc y hyll 1 _ rfl
          have e2 : wr.cell? ⟨bt, off + y * 6 + 2, none⟩ = some (.slice t.a t.nodes.length t.cap) := hlyt ▸ hc y hyll 2 _ rfl
          have e3 : wr.cell? ⟨bt, off + y * 6 + 3, none⟩ = some (.int .i64 t.metres) := hlyt ▸ hc y hyll 3 _ rfl
          have e4 : wr.cell? ⟨bt, off + y * 6 + 4, none⟩ = some (.int .i64 t.from_) := hlyt ▸ hc y hyll 4 _ rfl
          have e5 : wr.cell? ⟨bt, off + y * 6 + 5, none⟩ = some (.int .i64 t.to_) := hlyt ▸ hc y hyll 5 _ rfl
          have i1 : (0 : Int) ≤ (y : Int) := by omega
          have i2 : (y : Int) < (k : Int) := by omega
          have i3 : (0 : Int) ≤ (j : Int) := by omega
          have i4 : (j : Int) < (k : Int) := by omega
          have HFW := hide hfw
          clear hc hfw hst hos hly hyj hyc hlyt hdo hdb
          obtain ⟨b13, hb13⟩ : ∃ b13, b13 = wr.heap.size := ⟨_, rfl⟩
          obtain ⟨wb, hwb⟩ : ∃ wb, wb = wr.alloc (.cells #[.string t.ride, .string t.rider, .slice t.a t.nodes.length t.cap, .int .i64 t.metres, .int .i64 t.from_, .int .i64 t.to_] 52 (0, 0)) := ⟨_, rfl⟩
          have HBB := hide (show wb.heap[b13]? = some (.cells #[.string t.ride, .string t.rider, .slice t.a t.nodes.length t.cap, .int .i64 t.metres, .int .i64 t.from_, .int .i64 t.to_] 52 (0, 0)) by rw [hwb, hb13]; exact heap_alloc_new wr _)
          have HNB := hide (show Nx wr wb from hwb ▸ (Nx.refl wr).alloc _)
          have hbl := (Array.getElem?_eq_some_iff.1 HBB.out).1
          go_upto_region 14 with fail
          rw [← hwb, ← hb13]
          clear hwb hb13 c0 c1 e0 e1 e2 e3 e4 e5
          have hb5l := (Array.getElem?_eq_some_iff.1 HFW.out.p).1
          have q0 : wb.cell? ⟨b5, 0, none⟩ = some (.string k0) := nx_cell HNB.out hb5l ((cell_of_row wr b5 0 _ _ _ HFW.out.p).trans (by rw [HPE.out]; rfl))
          have q1 : wb.cell? ⟨b5, 1, none⟩ = some (.int .i64 p1) := nx_cell HNB.out hb5l ((cell_of_row wr b5 1 _ _ _ HFW.out.p).trans (by rw [HPE.out]; rfl))
          have q2 : wb.cell? ⟨b5, 2, none⟩ = some (.int .i64 p2) := nx_cell HNB.out hb5l ((cell_of_row wr b5 2 _ _ _ HFW.out.p).trans (by rw [HPE.out]; rfl))
          have q3 : wb.cell? ⟨b5, 3, none⟩ = some (.int .i64 p3) := nx_cell HNB.out hb5l ((cell_of_row wr b5 3 _ _ _ HFW.out.p).trans (by rw [HPE.out]; rfl))
          have q4 : wb.cell? ⟨b5, 4, none⟩ = some (.int .i64 p4) := nx_cell HNB.out hb5l ((cell_of_row wr b5 4 _ _ _ HFW.out.p).trans (by rw [HPE.out]; rfl))
          have q5 : wb.cell? ⟨b5, 5, none⟩ = some (.int .i64 p5) := nx_cell HNB.out hb5l ((cell_of_row wr b5 5 _ _ _ HFW.out.p).trans (by rw [HPE.out]; rfl))
          have q6 : wb.cell? ⟨b5, 6, none⟩ = some (.int .i64 p6) := nx_cell HNB.out hb5l ((cell_of_row wr b5 6 _ _ _ HFW.out.p).trans (by rw [HPE.out]; rfl))
          have q7 : wb.cell? ⟨b5, 7, none⟩ = some (.int .i64 p7) := nx_cell HNB.out hb5l ((cell_of_row wr b5 7 _ _ _ HFW.out.p).trans (by rw [HPE.out]; rfl))
          have q8 : wb.cell? ⟨b5, 8, none⟩ = some (.int .i64 p8) := nx_cell HNB.out hb5l ((cell_of_row wr b5 8 _ _ _ HFW.out.p).trans (by rw [HPE.out]; rfl))
          have q9 : wb.cell? ⟨b5, 9, none⟩ = some (.int .i64 p9) := nx_cell HNB.out hb5l ((cell_of_row wr b5 9 _ _ _ HFW.out.p).trans (by rw [HPE.out]; rfl))
          have d0 : wb.cell? ⟨b13, 0, none⟩ = some (.string t.ride) := cell_of_row wb b13 0 _ _ _ HBB.out
          have d1 : wb.cell? ⟨b13, 1, none⟩ = some (.string t.rider) := cell_of_row wb b13 1 _ _ _ HBB.out
          have d2 : wb.cell? ⟨b13, 2, none⟩ = some (.slice t.a t.nodes.length t.cap) := cell_of_row wb b13 2 _ _ _ HBB.out
          have d3 : wb.cell? ⟨b13, 3, none⟩ = some (.int .i64 t.metres) := cell_of_row wb b13 3 _ _ _ HBB.out
          have d4 : wb.cell? ⟨b13, 4, none⟩ = some (.int .i64 t.from_) := cell_of_row wb b13 4 _ _ _ HBB.out
          have d5 : wb.cell? ⟨b13, 5, none⟩ = some (.int .i64 t.to_) := cell_of_row wb b13 5 _ _ _ HBB.out
          have HF1 := hide (HFU2.out t ht wb (HFW.out.nx.trans HNB.out))
          have HC1 := hide (HCR.out t ht)
          go_upto_region 15 with (go_at_call 72; refine HF1.out.mono ?_; rintro e w8 ⟨rfl, hn8⟩)
          have hbl8 := Nat.lt_of_lt_of_le hbl hn8.sz
          have HN8 := hide hn8
          have HXN := hide (HFW.out.nx.trans (HNB.out.trans hn8))
          have hjo := HJO.out t ht
          have f86 : (0 : Int) ≤ t.from_ ∧ t.from_ ≤ 9007199254740992 := ⟨by have := hjo.time; omega, by have := hjo.time; omega⟩
          have hday : IntKind.i64.wrap (Int.tdiv t.from_ 86400000) = dayJ t := by
            unfold dayJ
            rw [Int.tdiv_eq_ediv_of_nonneg f86.1]
            exact IntWalk.i64_in _ (by omega)
          have d2' : w8.cell? ⟨b13, 2, none⟩ = some (.slice t.a t.nodes.length t.cap) := nx_cell hn8 hbl d2
          have d4' : w8.cell? ⟨b13, 4, none⟩ = some (.int .i64 t.from_) := nx_cell hn8 hbl d4
          have HGF : Hid (∀ w', Nx w8 w' → (fun w' : World => w'.cell? ⟨b13, 2, none⟩ = some (.slice t.a t.nodes.length t.cap) ∧ w'.cell? ⟨b13, 4, none⟩ = some (.int .i64 t.from_)) w') := hide (fun w' h => ⟨nx_cell h hbl8 d2', nx_cell h hbl8 d4'⟩)
          clear d2' d4' hn8 q0 q1 q2 q3 q4 q5 q6 q7 q8 q9 d0 d1 d2 d3 d4 d5 hjo
          obtain ⟨whole, hwh⟩ : ∃ whole, whole = fullI zs P t := ⟨_, rfl⟩
          have HWH := hide hwh
          have hwb := HFB.out t
          rw [← hwh] at hwb ⊢
          clear hwh HF1
          go_cut [18, 19, 20] (fun va vb vc wx => va = .int .i64 whole ∧ (∃ (lo : Nat) (E : Option Addr) (ce : Nat), vb = .slice E (crossO zs t.nodes).length ce ∧ Rd wx lo E 1 encS (crossO zs t.nodes)) ∧ vc = .int .i64 (dayJ t) ∧ Nx w8 wx)
          case first =>
            go_wp2_with fail

            go_region_held3 (fun w' => w'.cell? ⟨b13, 2, none⟩ = some (.slice t.a t.nodes.length t.cap) ∧ w'.cell? ⟨b13, 4, none⟩ = some (.int .i64 t.from_))
              (first | (refine HGF.out _ ?_; (repeat (first | exact hh9.out | refine Nx.trans ?_ hn9 | refine Nx.drew ?_ | refine Nx.alloc ?_ _ | exact Nx.refl _)); done))
              (first | (go_at_call 73; refine (HC1.out _ (HXN.out.trans ((Nx.refl w8).drew))).mono ?_; rintro e w9 ⟨E, ce, rfl, hrE, hn9⟩))
            all_goals go_wp2_with fail
            all_goals go_meet
            all_goals exact ⟨rfl, ⟨_, E, ce, rfl, hrE⟩, rfl, (Nx.refl w8).drew.trans hn9⟩
          case rest =>
          obtain ⟨rfl, ⟨lo, E, ce, rfl, hrE⟩, rfl, hn9⟩ := hcut
          obtain ⟨w9, hw9⟩ : ∃ w9, w9 = wc := ⟨_, rfl⟩
          rw [← hw9] at hrE hn9 ⊢
          clear hw9
          have hhc := HCL.out t ht
          obtain ⟨cr, hcr⟩ : ∃ cr, cr = crossO zs t.nodes := ⟨_, rfl⟩
          rw [← hcr] at hrE hhc ⊢
          obtain ⟨B, hB⟩ : ∃ B : Nat → Int × Option Nat, B = fun q => bestX (fun x => countsZ x t cr) (fun k x => capN whole x (spentD done k (dayJ t))) 0 (xs.take q) (whole, none) := ⟨_, rfl⟩
          have hB0 : B 0 = (whole, none) := by rw [hB]; simp [bestX]
          have HBS := hide (fun (q : Nat) (hq : q < nx) => (show ∃ x, xs[q]? = some x ∧ B (q + 1) = (if countsZ x t cr then (if (B q).2 = none ∨ capN whole x (spentD done q (dayJ t)) < (B q).1 then (capN whole x (spentD done q (dayJ t)), some q) else B q) else B q) from by
            have hq' : q < xs.length := by have := HNX.out; omega
            exact ⟨xs[q], List.getElem?_eq_getElem hq', by rw [hB]; exact bestX_take _ _ xs _ q hq'⟩))
          have HBB2 := hide (fun (q : Nat) => (show 0 ≤ (B q).1 ∧ (B q).1 ≤ whole from by
            rw [hB]
            exact bestX_bd 0 (xs.take q) (whole, none) (fun j x hx => capN_bd (HXO.out x (List.mem_of_mem_take hx)) hwb.1) ⟨hwb.1, Int.le_refl _⟩))
          have HBY := hide (fun (q j : Nat) (h : (B q).2 = some j) => (show j < q by
            rw [hB] at h
            rcases bestX_by 0 (xs.take q) (whole, none) j h with h | h
            · cases h
            · have := h.2; simp at this; omega))
          have HPO1 := hide (show payOne zs P xs done t = ⟨t, (B nx).1, (B nx).2⟩ from by rw [hB, HNX.out]; simp only [List.take_length]; rw [hcr, HWH.out]; rfl)
          have HRE := hide hrE
          have HN9 := hide hn9
          have HPN := hide (fun (W : World) (hn : Nx w9 W) (i : Nat) (v : Value) (hv : (#[.string t.ride, .string t.rider, .slice t.a t.nodes.length t.cap, .int .i64 t.metres, .int .i64 t.from_, .int .i64 t.to_] : Array Value)[i]? = some v) => (show W.cell? ⟨b13, i, none⟩ = some v from nx_cell hn (Nat.lt_of_lt_of_le hbl8 hn9.sz) (nx_cell hn9 hbl8 (nx_cell HN8.out hbl ((cell_of_row wb b13 i _ _ _ HBB.out).trans hv)))))
          have HN09 := hide (HXN.out.trans hn9)
          have HFW9 := hide (HFW.out.then ((HNB.out.trans HN8.out).trans hn9))
          have HSB := hide (fun (q : Nat) => spentD_bd HDB.out q (dayJ t))
          clear hB hcr hrE hn9 HC1 HGF hday
          go_upto_region 17 with fail
          go_loopw [16, 17, 21, 22, 23, 69] (fun a by_ _ _ _ i wx => ∃ (q : Nat) (v1 z : Int) (v2 : Option Nat), q ≤ nx ∧ i = .int .i64 q ∧ B q = (v1, v2) ∧ a = .int .i64 v1 ∧ by_ = .int .i64 z ∧ z = byI v2 ∧ Nx w9 wx) (fun _ _ _ _ _ i _ => nx - (intOf i).toNat)
          case atStart => exact ⟨0, whole, -1, none, Nat.zero_le _, rfl, hB0, rfl, rfl, rfl, Nx.refl _⟩
          case round =>
            obtain ⟨q, v1, z, v2, hq, rfl, hBq, rfl, rfl, hz, hnq⟩ := hrel
            by_cases hqlt : q < nx
            · obtain ⟨x, hxq, hstep⟩ := HBS.out q hqlt
              rw [hBq] at hstep
              dsimp only at hstep
              obtain ⟨hqx, hxe⟩ := List.getElem?_eq_some_iff.1 hxq
              have hx : x ∈ xs := List.mem_of_getElem? hxq
              obtain ⟨bx, offx, rfl, _, hbx, hbxr, hcx⟩ := HXR.out.open_ (HN09.out.trans hnq) (by omega)
              have c0 : wr.cell? ⟨bx, offx + q * 7, none⟩ = some (.string x.key) := hxe ▸ hcx q hqx 0 _ rfl
              have c1 : wr.cell? ⟨bx, offx + q * 7 + 1, none⟩ = some (.string x.rider) := hxe ▸ hcx q hqx 1 _ rfl
              have c2 : wr.cell? ⟨bx, offx + q * 7 + 2, none⟩ = some (.int .i64 x.from_) := hxe ▸ hcx q hqx 2 _ rfl
              have c3 : wr.cell? ⟨bx, offx + q * 7 + 3, none⟩ = some (.int .i64 x.to_) := hxe ▸ hcx q hqx 3 _ rfl
              have c4 : wr.cell? ⟨bx, offx + q * 7 + 4, none⟩ = some (.slice x.a x.zones.length x.sc) := hxe ▸ hcx q hqx 4 _ rfl
              have c5 : wr.cell? ⟨bx, offx + q * 7 + 5, none⟩ = some (.int .i64 x.pay) := hxe ▸ hcx q hqx 5 _ rfl
              have c6 : wr.cell? ⟨bx, offx + q * 7 + 6, none⟩ = some (.int .i64 x.most) := hxe ▸ hcx q hqx 6 _ rfl
              have HNQ := hide hnq
              have HSTEP := hide hstep
              have HZZ := hide hz
              have i5 : (0 : Int) ≤ (q : Int) := by omega
              have i6 : (q : Int) < (nx : Int) := by omega
              clear hcx hnq hstep hxq hxe hz
              obtain ⟨b22, hb22⟩ : ∃ b22, b22 = wr.heap.size := ⟨_, rfl⟩
              obtain ⟨wx, hwx⟩ : ∃ wx, wx = wr.alloc (.cells #[.string x.key, .string x.rider, .int .i64 x.from_, .int .i64 x.to_, .slice x.a x.zones.length x.sc, .int .i64 x.pay, .int .i64 x.most] 55 (0, 0)) := ⟨_, rfl⟩
              have HX22 := hide (show wx.heap[b22]? = some (.cells #[.string x.key, .string x.rider, .int .i64 x.from_, .int .i64 x.to_, .slice x.a x.zones.length x.sc, .int .i64 x.pay, .int .i64 x.most] 55 (0, 0)) by rw [hwx, hb22]; exact heap_alloc_new wr _)
              have HNX2 := hide (show Nx wr wx from hwx ▸ (Nx.refl wr).alloc _)
              have hb22l := (Array.getElem?_eq_some_iff.1 HX22.out).1
              go_upto_region 19 with fail
              rw [← hwx, ← hb22]
              clear hwx hb22 c0 c1 c2 c3 c4 c5 c6
              have a0 : wx.cell? ⟨b22, 0, none⟩ = some (.string x.key) := cell_of_row wx b22 0 _ _ _ HX22.out
              have a1 : wx.cell? ⟨b22, 1, none⟩ = some (.string x.rider) := cell_of_row wx b22 1 _ _ _ HX22.out
              have a2 : wx.cell? ⟨b22, 2, none⟩ = some (.int .i64 x.from_) := cell_of_row wx b22 2 _ _ _ HX22.out
              have a3 : wx.cell? ⟨b22, 3, none⟩ = some (.int .i64 x.to_) := cell_of_row wx b22 3 _ _ _ HX22.out
              have a4 : wx.cell? ⟨b22, 4, none⟩ = some (.slice x.a x.zones.length x.sc) := cell_of_row wx b22 4 _ _ _ HX22.out
              have a5 : wx.cell? ⟨b22, 5, none⟩ = some (.int .i64 x.pay) := cell_of_row wx b22 5 _ _ _ HX22.out
              have a6 : wx.cell? ⟨b22, 6, none⟩ = some (.int .i64 x.most) := cell_of_row wx b22 6 _ _ _ HX22.out
              have d0 := HPN.out wx (HNQ.out.trans HNX2.out) 0 _ rfl
              have d1 := HPN.out wx (HNQ.out.trans HNX2.out) 1 _ rfl
              have d2 := HPN.out wx (HNQ.out.trans HNX2.out) 2 _ rfl
              have d3 := HPN.out wx (HNQ.out.trans HNX2.out) 3 _ rfl
              have d4 := HPN.out wx (HNQ.out.trans HNX2.out) 4 _ rfl
              have d5 := HPN.out wx (HNQ.out.trans HNX2.out) 5 _ rfl
              have HNW := hide (HNQ.out.trans HNX2.out)
              have HCC := hide (HCN.out x hx t cr lo E ce wx (HN09.out.trans HNW.out) (HRE.out.nx HNW.out) hhc)
              have hxk := HXO.out x hx
              have HXK := hide hxk
              cases hct : countsZ x t cr
              · have HS2 := hide (show B (q + 1) = (v1, v2) by rw [HSTEP.out, hct]; rfl)
                go_wp2_with (go_at_call 74; refine HCC.out.mono ?_; rw [hct]; rintro e w10 ⟨rfl, hn10⟩)
                go_roundw
                case rel => exact ⟨q + 1, v1, z, v2, by omega, by go_num, HS2.out, rfl, rfl, HZZ.out, HNW.out.trans hn10⟩
                case measure => simp [intOf]; omega
              · obtain ⟨sp, hsp⟩ : ∃ sp, sp = spentD done q (dayJ t) := ⟨_, rfl⟩
                rw [hct, ← hsp] at HSTEP
                have HS2 := hide (show B (q + 1) = (if v2 = none ∨ capN whole x sp < v1 then (capN whole x sp, some q) else (v1, v2)) from by rw [HSTEP.out]; rfl)
                have hb0 : 0 ≤ whole * x.pay := Int.mul_nonneg hwb.1 hxk.pay.1
                have hb1 : whole * x.pay ≤ whole * 100 := Int.mul_le_mul_of_nonneg_left hxk.pay.2 hwb.1
                have hbe := begI_bd (n := whole * x.pay) (part := 100) (B := whole) (by decide) hb0 hb1
                have hwr : IntKind.i64.wrap (Int.tdiv (IntKind.i64.wrap (IntKind.i64.wrap (whole * x.pay) + 99)) 100) = begI (whole * x.pay) 100 := by
                  rw [IntWalk.i64_in (whole * x.pay) (by omega), IntWalk.i64_in (whole * x.pay + 99) (by omega), Int.tdiv_eq_ediv_of_nonneg (by omega), IntWalk.i64_in _ (by omega)]
                  rfl
                have hmost := hxk.most
                have hsb := HSB.out q
                rw [← hsp] at hsb
                clear hxk
                go_upto_region 21 with (go_at_call 74; refine HCC.out.mono ?_; rw [hct]; rintro e w10 ⟨rfl, hn10⟩; (have a5' := nx_cell hn10 hb22l a5); (have a6' := nx_cell hn10 hb22l a6); (have HN10 := hide hn10))
                obtain ⟨gv, hgv⟩ : ∃ gv, gv = begI (whole * x.pay) 100 := ⟨_, rfl⟩
                have hwq : (whole * x.pay + 99) / 100 = gv := by rw [hgv]; rfl
                try rw [hwr]
                try rw [← hgv]
                try rw [hwq]
                obtain ⟨N, hN⟩ : ∃ N, N = capN whole x sp := ⟨_, rfl⟩
                rw [← hN] at HS2
                rw [← hgv] at hbe
                have HSP := hide hsp
                clear hwr hwq hb0 hb1 hsp HSTEP a0 a1 a2 a3 a4 a5 a6 d0 d1 d2 d3 d4 d5
                by_cases hm : 0 < x.most
                · have hcap := capN_pos (whole := whole) (spent := sp) hm
                  have hNv : min gv (max 0 (IntKind.i64.wrap (x.most - sp))) = N := by rw [hN, hcap, IntWalk.i64_in (x.most - sp) (by omega), hgv]
                  have hkd : domU ((q : Int), dayJ t) := ⟨wf_i64.2 (by omega), wf_i64.2 (by unfold dayJ; omega)⟩
                  obtain ⟨kl, hkey⟩ := key_use _ hkd
                  have HM10 := HFW9.out.m.nx (HNW.out.trans (HN10.out.trans (Nx.refl w10).drew))
                  have hlk : (Instr.lookup 140 (.map (some (b5 + 1 + 1))) (.agg #[.int .i64 (q : Int), .int .i64 (dayJ t)]) false).run Tryz.prog w10.drew = .ok (.int .i64 sp) w10.drew := by
                    have h := (HM10.look law_use Tryz.underlying140 Tryz.underlying3 (zeroIntU _) hkd hkey).1
                    rw [daySp_at, ← HSP.out] at h
                    exact h
                  have hmw : w10.drew.cell? ⟨b22, 6, none⟩ = some (.int .i64 x.most) := a6'
                  clear HM10 hgv hN hcap hkey hkd
                  go_wp2_with fail
                  go_region_held3 (fun w' => w'.cell? ⟨b22, 6, none⟩ = some (.int .i64 x.most))
                    (first | go_keep | exact hmw)
                    (first | fail)
                  all_goals
                    cases v2 with
                    | none =>
                      have HS3 := hide (show B (q + 1) = (N, some q) by rw [HS2.out, if_pos (Or.inl rfl)])
                      have hz1 : z = -1 := HZZ.out
                      subst hz1
                      go_wp2_with fail
                      go_roundw
                      case rel => exact ⟨q + 1, N, (q : Int), some q, by omega, by go_num, HS3.out, rfl, rfl, rfl, (HNW.out.trans HN10.out).trans (Nx.refl w10).drew⟩
                      case measure => simp [intOf]; omega
                    | some j0 =>
                      have hz1 : z = (j0 : Int) := HZZ.out
                      subst hz1
                      have hjz : decide ((j0 : Int) < 0) = false := decide_eq_false (by omega)
                      by_cases hlv : N < v1
                      · have HS3 := hide (show B (q + 1) = (N, some q) by rw [HS2.out, if_pos (Or.inr hlv)])
                        go_wp2_with fail
                        go_roundw
                        case rel => exact ⟨q + 1, N, (q : Int), some q, by omega, by go_num, HS3.out, rfl, rfl, rfl, (HNW.out.trans HN10.out).trans (Nx.refl w10).drew⟩
                        case measure => simp [intOf]; omega
                      · have HS3 := hide (show B (q + 1) = (v1, some j0) by rw [HS2.out, if_neg (by rintro (h | h); cases h; exact hlv h)])
                        go_wp2_with fail
                        go_roundw
                        case rel => exact ⟨q + 1, v1, (j0 : Int), some j0, by omega, by go_num, HS3.out, rfl, rfl, rfl, (HNW.out.trans HN10.out).trans (Nx.refl w10).drew⟩
                        case measure => simp [intOf]; omega
                · have hNv : N = gv := by rw [hN, capN_no hm, hgv]
                  subst hNv
                  clear hgv hN
                  cases v2 with
                  | none =>
                    have HS3 := hide (show B (q + 1) = (N, some q) by rw [HS2.out, if_pos (Or.inl rfl)])
                    have hz1 : z = -1 := HZZ.out
                    subst hz1
                    go_wp2_with fail
                    go_roundw
                    case rel => exact ⟨q + 1, N, (q : Int), some q, by omega, by go_num, HS3.out, rfl, rfl, rfl, HNW.out.trans HN10.out⟩
                    case measure => simp [intOf]; omega
                  | some j0 =>
                    have hz1 : z = (j0 : Int) := HZZ.out
                    subst hz1
                    have hjz : decide ((j0 : Int) < 0) = false := decide_eq_false (by omega)
                    by_cases hlv : N < v1
                    · have HS3 := hide (show B (q + 1) = (N, some q) by rw [HS2.out, if_pos (Or.inr hlv)])
                      go_wp2_with fail
                      go_roundw
                      case rel => exact ⟨q + 1, N, (q : Int), some q, by omega, by go_num, HS3.out, rfl, rfl, rfl, HNW.out.trans HN10.out⟩
                      case measure => simp [intOf]; omega
                    · have HS3 := hide (show B (q + 1) = (v1, some j0) by rw [HS2.out, if_neg (by rintro (h | h); cases h; exact hlv h)])
                      go_wp2_with fail
                      go_roundw
                      case rel => exact ⟨q + 1, v1, (j0 : Int), some j0, by omega, by go_num, HS3.out, rfl, rfl, rfl, HNW.out.trans HN10.out⟩
                      case measure => simp [intOf]; omega
            · have eq1 : q = nx := by omega
              subst eq1
              have HV := hide (show payOne zs P xs done t = ⟨t, v1, v2⟩ by rw [HPO1.out, hBq])
              have HSJ2 := hide (show payAll zs P xs [] (O.take (j + 1)) = done ++ [⟨t, v1, v2⟩] by rw [HSJ.out, HV.out])
              have HOS2 := hide (show (outF PA l ys j).set y v1 = outF PA l ys (j + 1) by have h := HOS.out; rw [HV.out] at h; exact h)
              have hv1 : 0 ≤ v1 ∧ v1 ≤ whole := by have h := HBB2.out q; rw [hBq] at h; exact h
              have hby : ∀ j0, v2 = some j0 → j0 < q := fun j0 h => HBY.out q j0 (by rw [hBq]; exact h)
              have hfx := HFW9.out.then hnq
              have hOl : (outF PA l ys j).length = k := by rw [outF_len]; exact HN.out.symm
              have c12 := own_cell encI_len hOl hfx.u y (by omega) 0 _ rfl
              have f12 : wr.frozen? ⟨g12, y, none⟩ = false := hfx.u.frozenAt _
              have HFX := hide hfx
              have HOL := hide hOl
              have HZ2 := hide hz
              clear hfx hz HPO1 HBS HBB2 HBY HOS HSJ hBq hnq
              go_upto_region 26 with fail
              have h512 : w.heap.size ≤ b5 := by have := HB5.out; omega
              have h513 : b5 + 2 < g10 := by have := HG10.out; omega
              have h514 := HGG.out
              have hne12 : g12 ≠ b5 + 2 := by omega
              have hyw : y < (outF PA l ys j).length := by rw [hOl]; exact hyk
              cases v2 with
              | none =>
                have hz1 : z = -1 := HZ2.out
                subst hz1
                have c12' : wr.cell? ⟨g12, y, none⟩ = some (.int .i64 ((outF PA l ys j)[y]'hyw)) := by simpa using c12
                go_wp2_with fail
                go_roundw
                case rel =>
                  refine ⟨j + 1, by omega, by go_num, ?_⟩
                  have hu := own_set encI_len HOL.out HFX.out.u y (by have := HOL.out; omega) 0 (by omega) (.int .i64 v1) v1 rfl y (by omega)
                  rw [HOS2.out] at hu
                  rw [HSJ2.out]
                  refine FarW.gr (s := g12) HFX.out ((Gr.refl g12 wr).setS (p := ⟨g12, y, none⟩) (.inl rfl) _) (by omega) (by omega) (by omega) (by omega) hu ?_
                  rw [daySp_none rfl]; exact (MpU.gr HFX.out.m ((Gr.refl g12 wr).setS (p := ⟨g12, y, none⟩) (.inl rfl) _) (by omega)).mono (by omega)
                case measure => simp [intOf]; omega
              | some j0 =>
                have hz1 : z = (j0 : Int) := HZ2.out
                subst hz1
                have hj0 := hby j0 rfl
                have hkd : domU ((j0 : Int), dayJ t) := ⟨wf_i64.2 (by omega), wf_i64.2 (by unfold dayJ; omega)⟩
                obtain ⟨kl, hkey⟩ := key_use _ hkd
                obtain ⟨sv, hsv⟩ : ∃ sv, sv = spentD done j0 (dayJ t) := ⟨_, rfl⟩
                have hsb := HSB.out j0
                rw [← hsv] at hsb
                have HM1 := HFX.out.m.nx ((Nx.refl wr).drew)
                have hlk : (Instr.lookup 140 (.map (some (b5 + 1 + 1))) (.agg #[.int .i64 (j0 : Int), .int .i64 (dayJ t)]) false).run Tryz.prog wr.drew = .ok (.int .i64 sv) wr.drew := by
                  have h := (HM1.look law_use Tryz.underlying140 Tryz.underlying3 (zeroIntU _) hkd hkey).1
                  rw [daySp_at, ← hsv] at h
                  exact h
                obtain ⟨v0, st, x2, hE, hgE, hl2, hst⟩ := HM1.entry klaw_use ekU_inj Tryz.underlying140 Tryz.underlying3 zeroIntU (by unfold maxLen; omega) hkd hkey
                rw [daySp_at, ← hsv] at hl2
                obtain ⟨x3, hSt, hM3, hg3⟩ := hst (sv + v1) (wf_i64.2 (by omega))
                have hE' : (Instr.mapEntry 140 (.map (some (b5 + 1 + 1))) (.agg #[.int .i64 (j0 : Int), .int .i64 (dayJ t)])).run Tryz.prog wr.drew = .ok (.tuple #[v0, .int .i64 st]) x2 := hE
                have hlk2 : (Instr.lookup 140 (.map (some (b5 + 1 + 1))) (.agg #[.int .i64 (j0 : Int), .int .i64 (dayJ t)]) false).run Tryz.prog x2 = .ok (.int .i64 sv) x2 := hl2
                have hSt' : (Instr.entryStore 140 (.map (some (b5 + 1 + 1))) (.int .i64 st) (.int .i64 (sv + v1))).run Tryz.prog x2 = .ok () x3 := hSt
                have hSt'' : (Instr.entryStore 140 (.map (some (b5 + 1 + 1))) (.int .i64 st) (.int .i64 (IntKind.i64.wrap (sv + v1)))).run Tryz.prog x2 = .ok () x3 := by rw [IntWalk.i64_in _ (by omega)]; exact hSt
                have hGx : wr.grownBy x3 (some (b5 + 2)) := ((Gr.refl (b5 + 2) wr).then_nx ((Nx.refl wr).drew)).grown hg3 (fun j hj => by injection hj with hj; exact .inl hj.symm)
                have hu3 := HFX.out.u.kept hGx (.inr fun e => by injection e with e; exact hne12 e)
                have HF3 := hide (FarW.gr (s := b5 + 2) HFX.out hGx (by omega) (by omega) (by omega) (by omega) hu3 hM3)
                have HU3 := hide hu3
                have c12' : x3.cell? ⟨g12, y, none⟩ = some (.int .i64 ((outF PA l ys j)[y]'hyw)) := by have h := own_cell encI_len hOl hu3 y hyw 0 _ rfl; simpa using h
                have f12' : x3.frozen? ⟨g12, y, none⟩ = false := hu3.frozenAt _
                have hjz : decide ((0 : Int) ≤ (j0 : Int)) = true := decide_eq_true (by omega)
                have HSV := hide hsv
                clear hst hl2 hE hSt HM1 hM3 hg3 hgE hu3 hsv hkey hkd f12 c12
                go_wp2_with fail
                go_region_held3 (fun _ => True) (first | trivial) (first | fail)
                all_goals
                  go_wp2_with fail
                  go_roundw
                  case rel =>
                    refine ⟨j + 1, by omega, by go_num, ?_⟩
                    have hu := own_set encI_len HOL.out HU3.out y (by have := HOL.out; omega) 0 (by omega) (.int .i64 v1) v1 rfl y (by omega)
                    rw [HOS2.out] at hu
                    rw [HSJ2.out]
                    refine FarW.gr (s := g12) HF3.out ((Gr.refl g12 x3).setS (p := ⟨g12, y, none⟩) (.inl rfl) _) (by omega) (by omega) (by omega) (by omega) hu ?_
                    rw [daySp_some (d := ⟨t, v1, some j0⟩) rfl, daySp_at, ← HSV.out]; exact MpU.gr HF3.out.m ((Gr.refl g12 x3).setS (p := ⟨g12, y, none⟩) (.inl rfl) _) (by omega)
                  case measure => simp [intOf]; omega
        · have ek : j = k := by omega
          subst ek
          have HEND2 := hide (HEND.out j (Nat.le_refl _))
          have HFE := hide hfw
          have HIO := hide hO
          clear hfw hO
          go_wp2_with fail
          go_ret
          refine ⟨O, some ⟨g12, 0, none⟩, j, HIO.out, rfl, ?_, HFE.out.nx⟩
          have hu := HFE.out.u
          rw [HEND2.out] at hu
          obtain ⟨A2, cc2, hv2, hr2⟩ := Rd.of_own encI_len (by rw [← HEND2.out, outF_len]; exact HN.out) hu
          injection hv2 with e1 e2 e3
          rw [← HPE.out, e1]
          exact hr2.1
end Go.Proofs.YtncnmadiiaidfaaGreatDoor
