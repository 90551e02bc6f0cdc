/- Full, of whatever zones, price and trip. -/
import Derived.Test.YtdnmcpojjndjbaaGreatDoorQFullA
import Derived.Test.YtdnmcpojjndjbaaGreatDoorQG9
import Derived.Deep.DeepCutAuto
import Derived.Test.YtdnmcpojjndjbaaGreatDoorQG0
import Derived.Orders
import Derived.KernelRfl
import Derived.RegionTactic
namespace Go.Proofs.YtdnmcpojjndjbaaGreatDoor
open Go.RowKit

def faultT (zs : List Zone) (ps : List Price) (ts : List Jour) : Int := orI [zonesF zs, pricesF ps, joursF ts]

set_option maxRecDepth 100000 in
set_option maxHeartbeats 8000000 in
theorem w_FullX (A : Option Addr) (c : Nat) (zs : List Zone) (p : Price) (t : Jour) (w : World)
    (hR : RdZones w 0 A zs) (hl : zs.length ≤ 100) (hB : Rd w 0 t.a 1 encS t.nodes) (hS : Small t.nodes) (hl' : t.nodes.length ≤ 2000) (hk : p.key.size ≤ 1000000) (hk1 : t.ride.size ≤ 1000000) (hk2 : t.rider.size ≤ 1000000)
    (F : Int) (hF : faultT zs [p] [t] = F) (h0 : F ≠ 0) :
    Calls Tryz.prog 12 #[.slice A zs.length c, aggP p, aggJ t] w fun e w' => e = .returned (.tuple #[.int .i64 0, .int .i64 F]) ∧ Nx w w' := by
  have HCZ := hide (fun w' (hn : Nx w w') => w_CheckZones 0 A c zs w' (hR.nx hn) hl)
  have HCP := hide (fun (g : Nat) (w' : World) (hg : Rd w' 0 (some ⟨g, 0, none⟩) 10 encP [p]) => w_CheckPrices 0 (some ⟨g, 0, none⟩) 1 [p] w' ⟨hg, fun x hx => by rw [List.mem_singleton.1 hx]; exact hk⟩ (by simp))
  have HCJ := hide (fun (g : Nat) (w' : World) (hn : Nx w w') (hg : Rd w' 0 (some ⟨g, 0, none⟩) 6 encJ [t]) => w_CheckTrips 0 (some ⟨g, 0, none⟩) 1 [t] w' ⟨hg, fun x hx => by rw [List.mem_singleton.1 hx]; exact ⟨hB.nx hn, hS, hl', hk1, hk2⟩⟩ (by simp))
  have HF := hide (show orI [zonesF zs, pricesF [p], joursF [t]] = F from hF)
  have t0 : (F != 0) = true := by simpa using h0
  generalize zonesF zs = F1 at *
  generalize pricesF [p] = F2 at *
  generalize joursF [t] = F3 at *
  clear hR hB hS hF
  obtain ⟨k0, p1, p2, p3, p4, p5, p6, p7, p8, p9⟩ := p
  obtain ⟨k1, k2, xa, cp, nds, m, f, t⟩ := t
  dsimp only [aggP, aggJ] at *
  generalize zs.length = zl at *
  generalize hn : nds.length = n at *
  have HN := hide hn
  clear hn
  go_enter Tryz.func12, Tryz.ntmps12
  go_wp2_with fail
  have HGF : Hid (∀ w4, Nx (((w.alloc (.cells #[.string k0, .int .i64 p1, .int .i64 p2, .int .i64 p3, .int .i64 p4, .int .i64 p5, .int .i64 p6, .int .i64 p7, .int .i64 p8, .int .i64 p9] 30)).alloc (.cells #[.string k1, .string k2, .slice xa n cp, .int .i64 m, .int .i64 f, .int .i64 t] 44)).drew) w4 → (fun w' : World => w'.cell? ⟨w.heap.size, 0, none⟩ = some (.string k0) ∧ w'.cell? ⟨w.heap.size, 1, none⟩ = some (.int .i64 p1) ∧ w'.cell? ⟨w.heap.size, 2, none⟩ = some (.int .i64 p2) ∧ w'.cell? ⟨w.heap.size, 3, none⟩ = some (.int .i64 p3) ∧ w'.cell? ⟨w.heap.size, 4, none⟩ = some (.int .i64 p4) ∧ w'.cell? ⟨w.heap.size, 5, none⟩ = some (.int .i64 p5) ∧ w'.cell? ⟨w.heap.size, 6, none⟩ = some (.int .i64 p6) ∧ w'.cell? ⟨w.heap.size, 7, none⟩ = some (.int .i64 p7) ∧ w'.cell? ⟨w.heap.size, 8, none⟩ = some (.int .i64 p8) ∧ w'.cell? ⟨w.heap.size, 9, none⟩ = some (.int .i64 p9) ∧ w'.cell? ⟨w.heap.size + 1, 0, none⟩ = some (.string k1) ∧ w'.cell? ⟨w.heap.size + 1, 1, none⟩ = some (.string k2) ∧ w'.cell? ⟨w.heap.size + 1, 2, none⟩ = some (.slice xa n cp) ∧ w'.cell? ⟨w.heap.size + 1, 3, none⟩ = some (.int .i64 m) ∧ w'.cell? ⟨w.heap.size + 1, 4, none⟩ = some (.int .i64 f) ∧ w'.cell? ⟨w.heap.size + 1, 5, none⟩ = some (.int .i64 t)) w4) := hide (fun w4 h => by
    refine ⟨?_, ?_, ?_, ?_, ?_, ?_, ?_, ?_, ?_, ?_, ?_, ?_, ?_, ?_, ?_, ?_⟩
    all_goals exact nx_cell h (by simp <;> omega) (by go_simp))
  have HB0 : Hid (Nx w (((w.alloc (.cells #[.string k0, .int .i64 p1, .int .i64 p2, .int .i64 p3, .int .i64 p4, .int .i64 p5, .int .i64 p6, .int .i64 p7, .int .i64 p8, .int .i64 p9] 30)).alloc (.cells #[.string k1, .string k2, .slice xa n cp, .int .i64 m, .int .i64 f, .int .i64 t] 44)).drew)) := hide ((((Nx.refl _).alloc _).alloc _).drew)
  go_region_held3 (fun w' => w'.cell? ⟨w.heap.size, 0, none⟩ = some (.string k0) ∧ w'.cell? ⟨w.heap.size, 1, none⟩ = some (.int .i64 p1) ∧ w'.cell? ⟨w.heap.size, 2, none⟩ = some (.int .i64 p2) ∧ w'.cell? ⟨w.heap.size, 3, none⟩ = some (.int .i64 p3) ∧ w'.cell? ⟨w.heap.size, 4, none⟩ = some (.int .i64 p4) ∧ w'.cell? ⟨w.heap.size, 5, none⟩ = some (.int .i64 p5) ∧ w'.cell? ⟨w.heap.size, 6, none⟩ = some (.int .i64 p6) ∧ w'.cell? ⟨w.heap.size, 7, none⟩ = some (.int .i64 p7) ∧ w'.cell? ⟨w.heap.size, 8, none⟩ = some (.int .i64 p8) ∧ w'.cell? ⟨w.heap.size, 9, none⟩ = some (.int .i64 p9) ∧ w'.cell? ⟨w.heap.size + 1, 0, none⟩ = some (.string k1) ∧ w'.cell? ⟨w.heap.size + 1, 1, none⟩ = some (.string k2) ∧ w'.cell? ⟨w.heap.size + 1, 2, none⟩ = some (.slice xa n cp) ∧ w'.cell? ⟨w.heap.size + 1, 3, none⟩ = some (.int .i64 m) ∧ w'.cell? ⟨w.heap.size + 1, 4, none⟩ = some (.int .i64 f) ∧ w'.cell? ⟨w.heap.size + 1, 5, none⟩ = some (.int .i64 t))
    (first | exact HGF.out _ hb3 | exact HGF.out _ (hb3.alloc _) | exact HGF.out _ ((hb3.alloc _).alloc _) | exact HGF.out _ hb2 | exact HGF.out _ (hb2.alloc _) | exact HGF.out _ ((hb2.alloc _).alloc _) | exact HGF.out _ hb1 | exact HGF.out _ (hb1.alloc _) | exact HGF.out _ ((hb1.alloc _).alloc _) | exact HGF.out _ (Nx.refl _) | exact HGF.out _ ((Nx.refl _).alloc _) | exact HGF.out _ (((Nx.refl _).alloc _).alloc _))
    (first
      | (go_at_call 35; refine (HCZ.out _ (by first | exact HB0.out.trans hb3 | exact HB0.out.trans (hb3.alloc _) | exact HB0.out.trans ((hb3.alloc _).alloc _) | exact HB0.out.trans hb2 | exact HB0.out.trans (hb2.alloc _) | exact HB0.out.trans ((hb2.alloc _).alloc _) | exact HB0.out.trans hb1 | exact HB0.out.trans (hb1.alloc _) | exact HB0.out.trans ((hb1.alloc _).alloc _) | exact HB0.out.trans (Nx.refl _) | exact HB0.out.trans ((Nx.refl _).alloc _) | exact HB0.out.trans (((Nx.refl _).alloc _).alloc _))).mono ?_; rintro e w1 ⟨rfl, hn1⟩; (have hb1 : Nx ((w.alloc (.cells #[.string k0, .int .i64 p1, .int .i64 p2, .int .i64 p3, .int .i64 p4, .int .i64 p5, .int .i64 p6, .int .i64 p7, .int .i64 p8, .int .i64 p9] 30)).alloc (.cells #[.string k1, .string k2, .slice xa n cp, .int .i64 m, .int .i64 f, .int .i64 t] 44)).drew w1 := by first | exact (Nx.refl _).trans hn1 | exact ((Nx.refl _).alloc _).trans hn1 | exact (((Nx.refl _).alloc _).alloc _).trans hn1))
      | (go_at_call 8; refine (HCP.out _ _ ?_).mono ?_; (· (repeat (first | (refine Rd.lit (hnew ?_) (Nat.zero_le _) (fun _ => rfl) ?_ <;> first | rfl | (rw [← HN.out]; rfl) | (simp; done)) | refine Rd.nx ?_ hn3 | refine Rd.nx ?_ hn2 | refine Rd.nx ?_ hn1 | refine Rd.nx ?_ (Nx.alloc (Nx.refl _) _) | refine Rd.nx ?_ (Nx.drew (Nx.refl _))))); rintro e w2 ⟨rfl, hn2⟩; (have hb2 : Nx ((w.alloc (.cells #[.string k0, .int .i64 p1, .int .i64 p2, .int .i64 p3, .int .i64 p4, .int .i64 p5, .int .i64 p6, .int .i64 p7, .int .i64 p8, .int .i64 p9] 30)).alloc (.cells #[.string k1, .string k2, .slice xa n cp, .int .i64 m, .int .i64 f, .int .i64 t] 44)).drew w2 := by first | exact hb1.trans hn2 | exact (hb1.alloc _).trans hn2 | exact ((hb1.alloc _).alloc _).trans hn2))
      | (go_at_call 10; refine (HCJ.out _ _ (by first | exact HB0.out.trans hb3 | exact HB0.out.trans (hb3.alloc _) | exact HB0.out.trans ((hb3.alloc _).alloc _) | exact HB0.out.trans hb2 | exact HB0.out.trans (hb2.alloc _) | exact HB0.out.trans ((hb2.alloc _).alloc _) | exact HB0.out.trans hb1 | exact HB0.out.trans (hb1.alloc _) | exact HB0.out.trans ((hb1.alloc _).alloc _) | exact HB0.out.trans (Nx.refl _) | exact HB0.out.trans ((Nx.refl _).alloc _) | exact HB0.out.trans (((Nx.refl _).alloc _).alloc _)) ?_).mono ?_; (· (repeat (first | (refine Rd.lit (hnew ?_) (Nat.zero_le _) (fun _ => rfl) ?_ <;> first | rfl | (rw [← HN.out]; rfl) | (simp; done)) | refine Rd.nx ?_ hn3 | refine Rd.nx ?_ hn2 | refine Rd.nx ?_ hn1 | refine Rd.nx ?_ (Nx.alloc (Nx.refl _) _) | refine Rd.nx ?_ (Nx.drew (Nx.refl _))))); rintro e w3 ⟨rfl, hn3⟩; (have hb3 : Nx ((w.alloc (.cells #[.string k0, .int .i64 p1, .int .i64 p2, .int .i64 p3, .int .i64 p4, .int .i64 p5, .int .i64 p6, .int .i64 p7, .int .i64 p8, .int .i64 p9] 30)).alloc (.cells #[.string k1, .string k2, .slice xa n cp, .int .i64 m, .int .i64 f, .int .i64 t] 44)).drew w3 := by first | exact hb2.trans hn3 | exact (hb2.alloc _).trans hn3 | exact ((hb2.alloc _).alloc _).trans hn3))
      | (go_at_call 34; refine (w_FirstE 0 _ _ [F1, F2, F3] _ (Rd.lit (hnew rfl) (Nat.zero_le _) (fun _ => rfl) rfl) (by simp)).mono ?_; rw [HF.out]; rintro e w4 ⟨rfl, rfl⟩))
  all_goals go_wp2_with fail
  all_goals go_ret2
  all_goals exact ⟨rfl, HB0.out.trans (hb3.alloc _)⟩
end Go.Proofs.YtdnmcpojjndjbaaGreatDoor
/- Plain: the cheapest price so far, as the program keeps it. -/
namespace Go.Proofs.YtdnmcpojjndjbaaGreatDoor

def bestK : Option Price → ByteArray
  | none => ByteArray.empty
  | some q => q.key
def bestN (f : Price → Int) : Option Price → Int
  | none => 0
  | some q => f q
theorem keyB_ne {s : ByteArray} (h : keyB s = true) : s.toList.isEmpty = false := by
  cases hs : s.toList with
  | nil =>
    unfold keyB at h
    rw [← Lib.toList_data, hs] at h
    exact absurd h (by decide)
  | cons x l => rfl
theorem cheapP_take (f : Price → Int) (l : List Price) (k : Nat) (hk : k < l.length) : cheapP f none (l.take (k + 1)) = (match cheapP f none (l.take k) with | none => some l[k] | some q => some (if f l[k] < f q then l[k] else q)) := by
  rw [List.take_succ_eq_append_getElem hk]
  exact cheapP_snoc f none _ _
theorem cheapP_mem (f : Price → Int) (l : List Price) (q : Price) (h : cheapP f none l = some q) : q ∈ l := by
  cases l with
  | nil => cases h
  | cons x l =>
    obtain ⟨q', h1, h2⟩ := cheapP_some f x l
    have h3 : cheapP f none (x :: l) = cheapP f (some x) l := rfl
    rw [h3, h1] at h
    injection h with h
    subst h
    rcases h2 with rfl | h2
    · exact List.mem_cons_self ..
    · exact List.mem_cons_of_mem _ h2
end Go.Proofs.YtdnmcpojjndjbaaGreatDoor
/- A statement whose operations come up in whatever order: what each slot holds is said per operation, what the world holds by the number of operations that have come up. Of no program. -/
namespace Go.Proofs.YtdnmcpojjndjbaaGreatDoor
open Go

section
variable {P : Program} {ops : Array Oper} {Q : Exit → Act → World → Prop}

theorem wpOp_val {i : Nat} {o : Oper} {a : Act} {w w' : World} {v : Value} {K : Act → World → Prop} (hi : ops[i]? = some o) (hg : o.guard = none) (hrun : (execOp a.eval o).run P w = .ok (.value v) w') (hK : K (a.put o.dst v) w') : wpOp P ops Q i K a w := by
  unfold wpOp
  simp only [hi]
  have hw : Region.wanted o (yielded ops a.tmps) = true := by simp [Region.wanted, hg]
  rw [if_pos hw]
  refine .inl ?_
  unfold Oper.wp
  rw [hrun]
  exact hK
theorem wpOp_skip {i : Nat} {o : Oper} {a : Act} {w w' : World} {K : Act → World → Prop} (hi : ops[i]? = some o) (hg : o.guard = none) (hrun : (execOp a.eval o).run P w = .ok .skip w') (hK : K (a.put o.dst undef) w') : wpOp P ops Q i K a w := by
  unfold wpOp
  simp only [hi]
  have hw : Region.wanted o (yielded ops a.tmps) = true := by simp [Region.wanted, hg]
  rw [if_pos hw]
  refine .inl ?_
  unfold Oper.wp
  rw [hrun]
  exact hK
theorem wpOp_call {i : Nat} {o : Oper} {a : Act} {w : World} {K : Act → World → Prop} {f : FuncId} {args : Array Value} {R : Ending → World → Prop} (hi : ops[i]? = some o) (hg : o.guard = none) (hrun : (execOp a.eval o).run P w = .ok (.enter f args) w) (hC : Calls P f args w R) (hR : ∀ e w', R e w' → ∃ v, e = .returned v ∧ K (a.put o.dst v) w') : wpOp P ops Q i K a w := by
  unfold wpOp
  simp only [hi]
  have hw : Region.wanted o (yielded ops a.tmps) = true := by simp [Region.wanted, hg]
  rw [if_pos hw]
  refine .inl ?_
  unfold Oper.wp
  rw [hrun]
  refine Calls.mono hC fun e w' he => ?_
  obtain ⟨v, rfl, hK⟩ := hR e w' he
  exact hK

def cntB (l : Array Bool) : Nat := (l.toList.filter id).length
theorem cnt_list : ∀ (l : List Bool) (i : Nat), l[i]? = some false → ((l.set i true).filter id).length = (l.filter id).length + 1
  | [], i, h => by simp at h
  | b :: l, 0, h => by simp at h; subst h; simp
  | b :: l, i + 1, h => by
    have := cnt_list l i (by simpa using h)
    cases b <;> simp [this]
theorem cntB_set {l : Array Bool} {i : Nat} (h : l.getD i true = false) : cntB (l.setIfInBounds i true) = cntB l + 1 := by
  unfold cntB
  rw [Array.toList_setIfInBounds]
  refine cnt_list _ _ ?_
  rw [Array.getElem?_toList]
  rcases Nat.lt_or_ge i l.size with h' | h'
  · simp [h'] at h ⊢; exact h
  · simp [Array.getElem?_eq_none h'] at h
theorem cnt_all : ∀ (l : List Bool), (l.filter id).length = l.length → ∀ (i : Nat), i < l.length → l[i]? = some true
  | [], _, i, h => by simp at h
  | b :: l, h, i, hi => by
    cases b with
    | false =>
      simp at h
      have := List.length_filter_le id l
      omega
    | true =>
      rcases i with _ | i
      · rfl
      · simpa using cnt_all l (by simpa using h) i (by simpa using hi)

/-- The slots that the statement's operations write. -/
def dstsOf (ops : Array Oper) : List Tmp := ops.toList.filterMap (·.dst)
def dstsB (ops : Array Oper) (n : Nat) : Bool := (dstsOf ops).all (fun d => Nat.blt d n) && decide (dstsOf ops).Nodup
theorem nodup_dst : ∀ {l : List Oper}, (l.filterMap (·.dst)).Nodup → ∀ {i j : Nat} {oi oj : Oper} {d : Tmp}, l[i]? = some oi → l[j]? = some oj → oi.dst = some d → oj.dst = some d → i = j
  | [], _, i, j, oi, oj, d, h, _, _, _ => by simp at h
  | o :: l, hn, 0, 0, _, _, _, _, _, _, _ => rfl
  | o :: l, hn, 0, j + 1, oi, oj, d, hi, hj, hdi, hdj => by
    simp at hi; subst hi
    rw [List.filterMap_cons_some hdi, List.nodup_cons] at hn
    exact absurd (List.mem_filterMap.2 ⟨oj, List.mem_of_getElem? (by simpa using hj), hdj⟩) hn.1
  | o :: l, hn, i + 1, 0, oi, oj, d, hi, hj, hdi, hdj => by
    simp at hj; subst hj
    rw [List.filterMap_cons_some hdj, List.nodup_cons] at hn
    exact absurd (List.mem_filterMap.2 ⟨oi, List.mem_of_getElem? (by simpa using hi), hdi⟩) hn.1
  | o :: l, hn, i + 1, j + 1, oi, oj, d, hi, hj, hdi, hdj => by
    have hn' : (l.filterMap (·.dst)).Nodup := by
      cases ho : o.dst with
      | none => rwa [List.filterMap_cons_none ho] at hn
      | some x => rw [List.filterMap_cons_some ho, List.nodup_cons] at hn; exact hn.2
    have h1 : l[i]? = some oi := by simpa using hi
    have h2 : l[j]? = some oj := by simpa using hj
    have := nodup_dst hn' h1 h2 hdi hdj
    omega

/-- What is known when some operations have come up. -/
structure Known (ops : Array Oper) (W : Nat → World → Prop) (Sh : Nat → Value → World → Prop) (a0 : Act) (listed : Array Bool) (a : Act) (w : World) : Prop where
  size : listed.size = ops.size
  world : W (cntB listed) w
  slot : ∀ i o d, ops[i]? = some o → listed.getD i false = true → o.dst = some d → Sh i (a.tmps.getD d undef) w
  old : ∀ t, t ∉ dstsOf ops → a.tmps.getD t undef = a0.tmps.getD t undef
  frame : a.tmps.size = a0.tmps.size ∧ a.defers = a0.defers

def downB (ops : Array Oper) : Bool := (List.range ops.size).all fun i => match ops[i]? with | some o => o.after.toList.all (fun e => !Region.binds .any e || Nat.blt e.on i) | none => true
theorem wpAny_known (W : Nat → World → Prop) (Sh : Nat → Value → World → Prop) (Kp : World → World → Prop) (a0 : Act) (hdst : dstsB ops a0.tmps.size = true) (hdown : downB ops = true)
    (hkeep : ∀ i v w w', Sh i v w → Kp w w' → Sh i v w')
    (hstep : ∀ i o, ops[i]? = some o → ∀ m a w, m < ops.size → W m w → (∀ t, t ∉ dstsOf ops → a.tmps.getD t undef = a0.tmps.getD t undef) →
      (∀ j oj d, ops[j]? = some oj → (∃ e ∈ o.after, Region.binds .any e = true ∧ e.on = j) → oj.dst = some d → Sh j (a.tmps.getD d undef) w) →
      wpOp P ops Q i (fun a' w' => ∃ v, a' = a.put o.dst v ∧ W (m + 1) w' ∧ Kp w w' ∧ ∀ d, o.dst = some d → Sh i v w') a w)
    (hend : ∀ listed a w, Known ops W Sh a0 listed a w → W ops.size w → (∀ i o d, ops[i]? = some o → o.dst = some d → Sh i (a.tmps.getD d undef) w) → Q .normal a w) :
    ∀ (fuel : Nat) (listed : Array Bool) (a : Act) (w : World), Known ops W Sh a0 listed a w → cntB listed + fuel = ops.size → wpAny P .any ops Q fuel listed a w := by
  simp only [dstsB, Bool.and_eq_true, decide_eq_true_eq] at hdst
  have fin : ∀ (listed : Array Bool) (a : Act) (w : World), Known ops W Sh a0 listed a w → (∀ i, i < ops.size → listed.getD i false = true) → cntB listed = ops.size → Q .normal a w := fun listed a w hI hall hc => by
    have hw := hI.world
    rw [hc] at hw
    exact hend listed a w hI hw fun i o d ho hd => hI.slot i o d ho (hall i (Array.getElem?_eq_some_iff.1 ho).1) hd
  intro fuel
  induction fuel with
  | zero =>
    intro listed a w hI hc
    have hlen : (listed.toList.filter id).length = listed.toList.length := by
      have : cntB listed = (listed.toList.filter id).length := rfl
      rw [← this, Array.length_toList, hI.size]; omega
    have hall : ∀ i, i < ops.size → listed.getD i false = true := fun i hi => by
      have h1 := cnt_all _ hlen i (by rw [Array.length_toList, hI.size]; exact hi)
      rw [Array.getElem?_toList] at h1
      simp [h1]
    refine ⟨?_, fin listed a w hI hall (by omega)⟩
    cases hr : Region.ready .any ops listed with
    | nil => rfl
    | cons i l =>
      have hi : i ∈ Region.ready .any ops listed := by rw [hr]; simp
      obtain ⟨h1, o, ho, _⟩ := mem_ready.1 hi
      have h2 := hall i (Array.getElem?_eq_some_iff.1 ho).1
      have hlt : i < listed.size := by rw [hI.size]; exact (Array.getElem?_eq_some_iff.1 ho).1
      simp [hlt] at h1 h2
      rw [h1] at h2; cases h2
  | succ fuel ih =>
    intro listed a w hI hc
    refine ⟨fun hr => ?_, fun i hi => ?_⟩
    · have hall : ∀ i, i < ops.size → listed.getD i false = true := by
        intro i
        induction i using Nat.strongRecOn with
        | _ i ihi =>
          intro hlt
          cases hl : listed.getD i false with
          | true => rfl
          | false =>
            exfalso
            have hi : i ∈ Region.ready .any ops listed := by
              refine mem_ready.2 ⟨?_, ops[i], Array.getElem?_eq_getElem hlt, fun e he hb => ?_⟩
              · have hlt' : i < listed.size := by rw [hI.size]; exact hlt
                simp [hlt'] at hl ⊢; exact hl
              · have h1 := List.all_eq_true.1 hdown i (List.mem_range.2 hlt)
                rw [Array.getElem?_eq_getElem hlt] at h1
                have h2 := List.all_eq_true.1 h1 e (by simpa using he)
                rw [hb] at h2
                have h3 : e.on < i := by simpa using h2
                exact ihi e.on h3 (by omega)
            rw [hr] at hi; cases hi
      have hcnt : cntB listed = ops.size := by
        have e0 : listed.toList.filter id = listed.toList := List.filter_eq_self.2 (fun b hb => by
          obtain ⟨i, hi, e⟩ := List.mem_iff_getElem.1 hb
          have hi' : i < listed.size := by simpa using hi
          have := hall i (by rw [← hI.size]; exact hi')
          simp [hi'] at this
          rw [← e]
          simpa using this)
        unfold cntB
        rw [e0, Array.length_toList, hI.size]
      exact fin listed a w hI hall hcnt
    · obtain ⟨h1, o, ho, hall⟩ := mem_ready.1 hi
      have hlt : i < ops.size := (Array.getElem?_eq_some_iff.1 ho).1
      refine wpOp_mono (fun a' w' h => ?_) (hstep i o ho _ a w (by omega) hI.world hI.old (fun j oj d hj ⟨e, he, hb, hon⟩ hd => hI.slot j oj d hj (by rw [← hon]; exact hall e he hb) hd))
      obtain ⟨v, rfl, hW, hKp, hSh⟩ := h
      refine ih _ _ _ ⟨by simp [hI.size], by rw [cntB_set h1]; exact hW, fun j oj d hj hl hd => ?_, fun t ht => ?_, ?_⟩ (by rw [cntB_set h1]; omega)
      · by_cases hij : i = j
        · subst hij
          have e : oj = o := Option.some.inj (hj.symm.trans ho)
          subst e
          have hdn : d < a.tmps.size := by
            rw [hI.frame.1]
            have := List.all_eq_true.1 hdst.1 d (List.mem_filterMap.2 ⟨oj, List.mem_of_getElem? (by rw [Array.getElem?_toList]; exact hj), hd⟩)
            simpa using this
          have e2 : (a.put oj.dst v).tmps.getD d undef = v := by simp [Act.put, hd, hdn]
          rw [e2]
          exact hSh d hd
        · have hlj : listed.getD j false = true := by rw [getD_set_ne false hij] at hl; exact hl
          have e2 : (a.put o.dst v).tmps.getD d undef = a.tmps.getD d undef := by
            cases hod : o.dst with
            | none => rfl
            | some x =>
              have hne : x ≠ d := fun e => hij (by subst e; exact nodup_dst hdst.2 (by rw [Array.getElem?_toList]; exact ho) (by rw [Array.getElem?_toList]; exact hj) hod hd)
              simp [Act.put, Array.getElem?_setIfInBounds_ne hne]
          rw [e2]
          exact hkeep j _ w w' (hI.slot j oj d hj hlj hd) hKp
      · have e2 : (a.put o.dst v).tmps.getD t undef = a.tmps.getD t undef := by
          cases hod : o.dst with
          | none => rfl
          | some x =>
            have hne : x ≠ t := fun e => ht (by subst e; exact List.mem_filterMap.2 ⟨o, List.mem_of_getElem? (by rw [Array.getElem?_toList]; exact ho), hod⟩)
            simp [Act.put, Array.getElem?_setIfInBounds_ne hne]
        rw [e2]; exact hI.old t ht
      · cases hod : o.dst with
        | none => exact hI.frame
        | some x => exact ⟨by simp [Act.put, hI.frame.1], hI.frame.2⟩
/-- At a region that draws its order. -/
theorem wp_region_known {id : Nat} {w : World} (hm : P.follows .mixedOrders = true) (W : Nat → World → Prop) (Sh : Nat → Value → World → Prop) (Kp : World → World → Prop) (a0 : Act) (hdst : dstsB ops a0.tmps.size = true) (hdown : downB ops = true)
    (hkeep : ∀ i v w w', Sh i v w → Kp w w' → Sh i v w')
    (hstep : ∀ i o, ops[i]? = some o → ∀ m a w, m < ops.size → W m w → (∀ t, t ∉ dstsOf ops → a.tmps.getD t undef = a0.tmps.getD t undef) →
      (∀ j oj d, ops[j]? = some oj → (∃ e ∈ o.after, Region.binds .any e = true ∧ e.on = j) → oj.dst = some d → Sh j (a.tmps.getD d undef) w) →
      wpOp P ops Q i (fun a' w' => ∃ v, a' = a.put o.dst v ∧ W (m + 1) w' ∧ Kp w w' ∧ ∀ d, o.dst = some d → Sh i v w') a w)
    (hend : ∀ listed a w, Known ops W Sh a0 listed a w → W ops.size w → (∀ i o d, ops[i]? = some o → o.dst = some d → Sh i (a.tmps.getD d undef) w) → Q .normal a w)
    (h0 : W 0 { w with drawn := w.drawn + 1 }) : (Code.region id ops true).wp P Q a0 w := by
  refine wp_region_any hm (wpAny_known W Sh Kp a0 hdst hdown hkeep hstep hend _ _ _ _ ⟨by simp, ?_, fun i o d _ hl => ?_, fun _ _ => rfl, rfl, rfl⟩ ?_)
  · have : cntB (Array.replicate ops.size false) = 0 := by
      unfold cntB
      rw [Array.toList_replicate]
      simp
    rw [this]; exact h0
  · have : (Array.replicate ops.size false).getD i false = false := by
      rcases Nat.lt_or_ge i ops.size with h | h
      · simp [h]
      · simp [h]
    rw [this] at hl; cases hl
  · unfold cntB
    rw [Array.toList_replicate]
    simp
end
end Go.Proofs.YtdnmcpojjndjbaaGreatDoor
/- What the slots of a stream's statement hold, said by shape alone. -/
namespace Go.Proofs.YtdnmcpojjndjbaaGreatDoor
open Go.RowKit

/-- A step of a stream's statement: block s (the stream) may turn, block b (what is made) may turn, all else stays. -/
def Two (s b : Nat) (w w' : World) : Prop :=
  w'.os = w.os ∧ w'.tape = w.tape ∧ w'.output = w.output ∧ w.heap.size ≤ w'.heap.size ∧ ∀ i, i < w.heap.size → i ≠ s → i ≠ b → w'.heap[i]? = w.heap[i]?
theorem Two.refl (s b : Nat) (w : World) : Two s b w w := ⟨rfl, rfl, rfl, Nat.le_refl _, fun _ _ _ _ => rfl⟩
theorem Two.of_gr {s b : Nat} {w w' : World} (h : Gr s w w') : Two s b w w' :=
  ⟨h.os, h.tape, h.output, h.sz, fun i hi hs _ => h.block i hi (by intro e; injection e with e; exact hs e)⟩
theorem Two.trans {s b : Nat} {w w' w'' : World} (h : Two s b w w') (k : Two s b w' w'') : Two s b w w'' :=
  ⟨k.1.trans h.1, k.2.1.trans h.2.1, k.2.2.1.trans h.2.2.1, Nat.le_trans h.2.2.2.1 k.2.2.2.1, fun i hi hs hb => (k.2.2.2.2 i (Nat.lt_of_lt_of_le hi h.2.2.2.1) hs hb).trans (h.2.2.2.2 i hi hs hb)⟩

def ShPtr (b o : Nat) (v : Value) (_w : World) : Prop := v = .pointer (some ⟨b, o, none⟩)
/-- A literal of n small strings in a block of its own. -/
def ShLitS (s b n : Nat) (v : Value) (w : World) : Prop :=
  ∃ (g : Nat) (zs : List ByteArray), v = .slice (some ⟨g, 0, none⟩) n n ∧ zs.length = n ∧ (∀ z ∈ zs, z.size ≤ 1000000) ∧ g ≠ s ∧ g ≠ b ∧ w.heap[g]? = some (.cells (zs.map Value.string).toArray 9 (0, 0))
/-- A literal of n numbers in a block of its own. -/
def ShLitI (s b n : Nat) (v : Value) (w : World) : Prop :=
  ∃ (g : Nat) (zs : List Int), v = .slice (some ⟨g, 0, none⟩) n n ∧ zs.length = n ∧ g ≠ s ∧ g ≠ b ∧ w.heap[g]? = some (.cells (zs.map (Value.int .i64)).toArray 3 (0, 0))
theorem ShLitS.keep {s b n : Nat} {v : Value} {w w' : World} (h : ShLitS s b n v w) (k : Two s b w w') : ShLitS s b n v w' := by
  obtain ⟨g, zs, h1, h2, h3, h4, h5, h6⟩ := h
  exact ⟨g, zs, h1, h2, h3, h4, h5, (k.2.2.2.2 g (Array.getElem?_eq_some_iff.1 h6).1 h4 h5).trans h6⟩
theorem ShLitI.keep {s b n : Nat} {v : Value} {w w' : World} (h : ShLitI s b n v w) (k : Two s b w w') : ShLitI s b n v w' := by
  obtain ⟨g, zs, h1, h2, h3, h4, h5⟩ := h
  exact ⟨g, zs, h1, h2, h3, h4, (k.2.2.2.2 g (Array.getElem?_eq_some_iff.1 h5).1 h3 h4).trans h5⟩

section
variable {ops : Array Oper} {Q : Exit → Act → World → Prop} {i : Nat} {o : Oper} {a : Act} {w : World} {K : Act → World → Prop}
theorem run_call {f : FuncId} {xs : Array Operand} {ts : Array TypeId} (hop : o.op = .call { callee := .value (.func f), args := xs, argTypes := ts }) (he : ∀ args w, (callFunc f args).run Tryz.prog w = .ok (.enter f args) w) : (execOp a.eval o).run Tryz.prog w = .ok (.enter f (xs.map a.eval)) w := by
  unfold execOp
  rw [hop]
  have e : a.eval (.func f) = .func (.func f) #[] #[] := rfl
  simp [resolve, e, Deferred.ofValue, invoke, he]
end
end Go.Proofs.YtdnmcpojjndjbaaGreatDoor
/- A drawn statement over a stream and a price's cells: what the world holds, and each operation's step. -/
namespace Go.Proofs.YtdnmcpojjndjbaaGreatDoor
open Go.RowKit

section
variable {P : Program} {ops : Array Oper} {Q : Exit → Act → World → Prop}
/-- The frame behind a drawn statement: the old one, with what was written. -/
theorem known_frame {W : Nat → World → Prop} {Sh : Nat → Value → World → Prop} {a0 a : Act} {listed : Array Bool} {w : World} (h : Known ops W Sh a0 listed a w) (_ : dstsB ops a0.tmps.size = true) :
    ∃ f : Tmp → Value, a = ⟨(dstsOf ops).foldl (fun t d => t.setIfInBounds d (f d)) a0.tmps, a0.defers⟩ := by
  refine ⟨fun d => a.tmps.getD d undef, ?_⟩
  obtain ⟨ts, df⟩ := a
  have hs := h.frame.1
  have hd := h.frame.2
  simp only at hs hd
  subst hd
  congr 1
  have gen : ∀ (l : List Tmp) (t0 : Array Value), t0.size = ts.size → (∀ t, t ∉ l → ts.getD t undef = t0.getD t undef) → ts = l.foldl (fun t d => t.setIfInBounds d (ts.getD d undef)) t0 := by
    intro l
    induction l with
    | nil =>
      intro t0 h1 h2
      apply Array.ext
      · exact h1.symm
      · intro i hi hj
        have := h2 i (by simp)
        have hj' : i < t0.size := by simpa using hj
        simp [Array.getD, hi, hj'] at this
        exact this
    | cons d l ih =>
      intro t0 h1 h2
      refine ih _ (by simpa using h1) (fun t ht => ?_)
      by_cases e : t = d
      · subst e
        by_cases hb : t < t0.size
        · simp [Array.getD, hb]
        · have hb2 : ¬ t < ts.size := by rw [← h1]; exact hb
          simp [Array.getD, hb, hb2]
      · rw [h2 t (by simp [e, ht])]
        simp [Array.getElem?_setIfInBounds_ne (fun e2 : d = t => e e2.symm)]
  exact gen _ _ hs.symm (fun t ht => h.old t ht)
end

/-- A price with no giants. -/
def okP (x : Price) : Prop := x.key.size ≤ 1000 ∧ ∀ z ∈ [x.base, x.metre, x.minute, x.cross, x.from_, x.to_, x.peak, x.least, x.most], -1000000000000000 ≤ z ∧ z ≤ 1000000000000000
/-- What is known of a price's cells from off on in block b. -/
structure PrBox (b off : Nat) (B : World → Prop) : Prop where
  get : ∀ w, B w → ∃ x : Price, okP x ∧ ∀ j u, (encP x)[j]? = some u → w.cell? ⟨b, off + j, none⟩ = some u
  frz : ∀ w j, B w → w.frozen? ⟨b, j, none⟩ = false
  lt : ∀ w, B w → b < w.heap.size
  setS : ∀ w j (t : ByteArray), B w → (j = 0) → t.size ≤ 1000 → B (w.setCell ⟨b, off + j, none⟩ (.string t))
  setI : ∀ w j (z : Int), B w → (1 ≤ j ∧ j ≤ 9) → -1000000000000000 ≤ z ∧ z ≤ 1000000000000000 → B (w.setCell ⟨b, off + j, none⟩ (.int .i64 z))
  same : ∀ w w', B w → w'.heap[b]? = w.heap[b]? → w.heap.size ≤ w'.heap.size → B w'
def ShT (v : Value) (_w : World) : Prop := ∃ t : ByteArray, v = .string t ∧ t.size ≤ 1000
def ShZ (v : Value) (_w : World) : Prop := ∃ z : Int, v = .int .i64 z ∧ -1000000000000000 ≤ z ∧ z ≤ 1000000000000000
/-- A literal of n small strings in a block of its own. -/
def ShLT (s b n : Nat) (v : Value) (w : World) : Prop :=
  ∃ (g : Nat) (zs : List ByteArray), v = .slice (some ⟨g, 0, none⟩) n n ∧ zs.length = n ∧ (∀ z ∈ zs, z.size ≤ 1000) ∧ g ≠ s ∧ g ≠ b ∧ w.heap[g]? = some (.cells (zs.map Value.string).toArray 9 (0, 0))
def ShLZ (s b n : Nat) (v : Value) (w : World) : Prop :=
  ∃ (g : Nat) (zs : List Int), v = .slice (some ⟨g, 0, none⟩) n n ∧ zs.length = n ∧ (∀ z ∈ zs, -1000000000000000 ≤ z ∧ z ≤ 1000000000000000) ∧ g ≠ s ∧ g ≠ b ∧ w.heap[g]? = some (.cells (zs.map (Value.int .i64)).toArray 3 (0, 0))
theorem ShLT.keep {s b n : Nat} {v : Value} {w w' : World} (h : ShLT s b n v w) (k : Two s b w w') : ShLT s b n v w' := by
  obtain ⟨g, zs, h1, h2, h3, h4, h5, h6⟩ := h
  exact ⟨g, zs, h1, h2, h3, h4, h5, (k.2.2.2.2 g (Array.getElem?_eq_some_iff.1 h6).1 h4 h5).trans h6⟩
theorem ShLZ.keep {s b n : Nat} {v : Value} {w w' : World} (h : ShLZ s b n v w) (k : Two s b w w') : ShLZ s b n v w' := by
  obtain ⟨g, zs, h1, h2, h3, h4, h5, h6⟩ := h
  exact ⟨g, zs, h1, h2, h3, h4, h5, (k.2.2.2.2 g (Array.getElem?_eq_some_iff.1 h6).1 h4 h5).trans h6⟩
/-- What the world holds when m operations have come up. -/
structure TyW (s b k : Nat) (B : World → Prop) (w0 : World) (m : Nat) (w : World) : Prop where
  two : Two s b w0 w
  str : Str w s (k + 2 * m)
  box : B w
theorem Two.alloc {s b : Nat} (w : World) (o : Obj) : Two s b w (w.alloc o) := Two.of_gr ((Gr.refl s w).alloc o)
theorem Two.set {s b j : Nat} {w : World} (u : Value) : Two s b w (w.setCell ⟨b, j, none⟩ u) := by
  have h := (Gr.refl b w).setS (p := ⟨b, j, none⟩) (.inl rfl) u
  exact ⟨h.os, h.tape, h.output, h.sz, fun i hi _ hb => h.block i hi (by intro e; injection e with e; exact hb e)⟩
section
variable {s b off k m : Nat} {B : World → Prop} {w0 w : World}
theorem TyW.pass (h : TyW s b k B w0 m w) : TyW s b k B w0 (m + 1) w := ⟨h.two, h.str.more (by omega), h.box⟩
theorem TyW.alloc (h : TyW s b k B w0 m w) (E : PrBox b off B) (o : Obj) : TyW s b k B w0 (m + 1) (w.alloc o) :=
  ⟨h.two.trans (Two.alloc w o), (h.str.nx ((Nx.refl w).alloc o)).more (by omega), E.same _ _ h.box (((Nx.refl w).alloc o).block b (E.lt _ h.box)) ((Nx.refl w).alloc o).sz⟩
theorem TyW.gr (h : TyW s b k B w0 m w) (E : PrBox b off B) (hb : b ≠ s) {w' : World} (hg : Gr s w w') (hS : Str w' s (k + 2 * (m + 1))) : TyW s b k B w0 (m + 1) w' :=
  ⟨h.two.trans (Two.of_gr hg), hS, E.same _ _ h.box (hg.block b (E.lt _ h.box) (by intro e; injection e with e; exact hb e)) hg.sz⟩
theorem TyW.setS (h : TyW s b k B w0 m w) (E : PrBox b off B) (hb : s < b) {j : Nat} {t : ByteArray} (hj : j = 0) (ht : t.size ≤ 1000) : TyW s b k B w0 (m + 1) (w.setCell ⟨b, off + j, none⟩ (.string t)) :=
  ⟨h.two.trans (Two.set _), (h.str.row (row := some b) ((Gr.refl b w).setS (p := ⟨b, off + j, none⟩) (.inl rfl) _) (fun j h => by injection h with h; omega)).more (by omega), E.setS _ _ _ h.box hj ht⟩
theorem TyW.setI (h : TyW s b k B w0 m w) (E : PrBox b off B) (hb : s < b) {j : Nat} {z : Int} (hj : 1 ≤ j ∧ j ≤ 9) (hz : -1000000000000000 ≤ z ∧ z ≤ 1000000000000000) : TyW s b k B w0 (m + 1) (w.setCell ⟨b, off + j, none⟩ (.int .i64 z)) :=
  ⟨h.two.trans (Two.set _), (h.str.row (row := some b) ((Gr.refl b w).setS (p := ⟨b, off + j, none⟩) (.inl rfl) _) (fun j h => by injection h with h; omega)).more (by omega), E.setI _ _ _ h.box hj hz⟩
end
section
variable {ops : Array Oper} {Q : Exit → Act → World → Prop} {i : Nat} {o : Oper} {a : Act} {w : World} {K : Act → World → Prop}
theorem ty_some (hi : ops[i]? = some o) (hg : o.guard = none) {x y : Operand} {ts : Array TypeId} {s b n k : Nat} (hop : o.op = .call { callee := .value (.func 20), args := #[x, y], argTypes := ts })
    (hx : ShPtr s 0 (a.eval x) w) (hy : ShLT s b n (a.eval y) w) (hn : 0 < n ∧ n < 1000) (hS : Str w s k) (hk : k < 1000000)
    (hK : ∀ (t : ByteArray) (w' : World), t.size ≤ 1000 → Gr s w w' → Str w' s (k + 1) → K (a.put o.dst (.string t)) w') : wpOp Tryz.prog ops Q i K a w := by
  obtain ⟨g, zs, h1, h2, h3, h4, h5, h6⟩ := hy
  have hc := w_Some g zs _ s k w hS hk h6 h4 (by simp) (by intro e; rw [e] at h2; simp at h2; omega) (by omega)
  rw [h2] at hc
  have hr := run_call (a := a) (w := w) hop (enters_of Tryz.func20 (by kernel_rfl) rfl)
  unfold ShPtr at hx
  have e : (#[x, y] : Array Operand).map a.eval = #[.pointer (some ⟨s, 0, none⟩), .slice (some ⟨g, 0, none⟩) n n] := by simp [hx, h1]
  rw [e] at hr
  refine wpOp_call hi hg hr hc ?_
  rintro e w' ⟨t, ht, rfl, hgr, hS'⟩
  exact ⟨_, rfl, hK t w' (h3 t ht) hgr hS'⟩
theorem ty_pick (hi : ops[i]? = some o) (hg : o.guard = none) {x y : Operand} {ts : Array TypeId} {s b n k : Nat} (hop : o.op = .call { callee := .value (.func 22), args := #[x, y], argTypes := ts })
    (hx : ShPtr s 0 (a.eval x) w) (hy : ShLZ s b n (a.eval y) w) (hn : 0 < n ∧ n < 1000) (hS : Str w s k) (hk : k < 1000000)
    (hK : ∀ (z : Int) (w' : World), (-1000000000000000 ≤ z ∧ z ≤ 1000000000000000) → Gr s w w' → Str w' s (k + 1) → K (a.put o.dst (.int .i64 z)) w') : wpOp Tryz.prog ops Q i K a w := by
  obtain ⟨g, zs, h1, h2, h3, h4, h5, h6⟩ := hy
  have hc := w_PickI g zs _ s k w hS hk h6 h4 (by simp) (by intro e; rw [e] at h2; simp at h2; omega) (by omega)
  rw [h2] at hc
  have hr := run_call (a := a) (w := w) hop (enters_of Tryz.func22 (by kernel_rfl) rfl)
  unfold ShPtr at hx
  have e : (#[x, y] : Array Operand).map a.eval = #[.pointer (some ⟨s, 0, none⟩), .slice (some ⟨g, 0, none⟩) n n] := by simp [hx, h1]
  rw [e] at hr
  refine wpOp_call hi hg hr hc ?_
  rintro e w' ⟨t, ht, rfl, hgr, hS'⟩
  exact ⟨_, rfl, hK t w' (h3 t ht) hgr hS'⟩
theorem ty_odd (hi : ops[i]? = some o) (hg : o.guard = none) {x : Operand} {l h : Int} {ts : Array TypeId} {s k : Nat} (hop : o.op = .call { callee := .value (.func 23), args := #[x, .const (.int .i64 l), .const (.int .i64 h)], argTypes := ts })
    (hx : ShPtr s 0 (a.eval x) w) (hl : -4294967296 ≤ l ∧ l ≤ h ∧ h < 4294967296) (hn : h - l < 4294967296) (hS : Str w s k) (hk : k < 900000)
    (hK : ∀ (z : Int) (w' : World), (-1000000000000000 ≤ z ∧ z ≤ 1000000000000000) → Gr s w w' → Str w' s (k + 2) → K (a.put o.dst (.int .i64 z)) w') : wpOp Tryz.prog ops Q i K a w := by
  have hc := w_Odd l h s k w hS hk hl hn
  have hr := run_call (a := a) (w := w) hop (enters_of Tryz.func23 (by kernel_rfl) rfl)
  unfold ShPtr at hx
  have e : (#[x, .const (.int .i64 l), .const (.int .i64 h)] : Array Operand).map a.eval = #[.pointer (some ⟨s, 0, none⟩), .int .i64 l, .int .i64 h] := by simp only [List.map_toArray, List.map_cons, List.map_nil, hx]; rfl
  rw [e] at hr
  refine wpOp_call hi hg hr hc ?_
  rintro e w' ⟨z, hz1, hz2, rfl, hgr, hS'⟩
  exact ⟨_, rfl, hK z w' ⟨by omega, by omega⟩ hgr hS'⟩
end
end Go.Proofs.YtdnmcpojjndjbaaGreatDoor
/- A drawn statement over a stream and a trip's cells. -/
namespace Go.Proofs.YtdnmcpojjndjbaaGreatDoor
open Go.RowKit

/-- A trip with no giants. -/
structure okJ (x : Jour) : Prop where
  ride : x.ride.size ≤ 1000
  rider : x.rider.size ≤ 1000
  metres : -1000000000000000 ≤ x.metres ∧ x.metres ≤ 1000000000000000
  from_ : -100000000000000 ≤ x.from_ ∧ x.from_ ≤ 100000000000000
  to_ : -1000000000000000 ≤ x.to_ ∧ x.to_ ≤ 1000000000000000
/-- What is known of a trip's cells from off on in block b. -/
structure JoBox (b off : Nat) (B : World → Prop) : Prop where
  get : ∀ w, B w → ∃ x : Jour, okJ x ∧ ∀ j u, (encJ x)[j]? = some u → w.cell? ⟨b, off + j, none⟩ = some u
  frz : ∀ w j, B w → w.frozen? ⟨b, j, none⟩ = false
  lt : ∀ w, B w → b < w.heap.size
  setS : ∀ w j (t : ByteArray), B w → (j = 0 ∨ j = 1) → t.size ≤ 1000 → B (w.setCell ⟨b, off + j, none⟩ (.string t))
  setI : ∀ w j (z : Int), B w → (j = 3 ∨ j = 5) → -1000000000000000 ≤ z ∧ z ≤ 1000000000000000 → B (w.setCell ⟨b, off + j, none⟩ (.int .i64 z))
  same : ∀ w w', B w → w'.heap[b]? = w.heap[b]? → w.heap.size ≤ w'.heap.size → B w'
def ShY (v : Value) (_w : World) : Prop := ∃ z : Int, v = .int .i64 z ∧ -100000000000000 ≤ z ∧ z ≤ 100000000000000
section
variable {s b off k m : Nat} {B : World → Prop} {w0 w : World}
theorem TyW.allocJ (h : TyW s b k B w0 m w) (E : JoBox b off B) (o : Obj) : TyW s b k B w0 (m + 1) (w.alloc o) :=
  ⟨h.two.trans (Two.alloc w o), (h.str.nx ((Nx.refl w).alloc o)).more (by omega), E.same _ _ h.box (((Nx.refl w).alloc o).block b (E.lt _ h.box)) ((Nx.refl w).alloc o).sz⟩
theorem TyW.grJ (h : TyW s b k B w0 m w) (E : JoBox b off B) (hb : b ≠ s) {w' : World} (hg : Gr s w w') (hS : Str w' s (k + 2 * (m + 1))) : TyW s b k B w0 (m + 1) w' :=
  ⟨h.two.trans (Two.of_gr hg), hS, E.same _ _ h.box (hg.block b (E.lt _ h.box) (by intro e; injection e with e; exact hb e)) hg.sz⟩
theorem TyW.setSJ (h : TyW s b k B w0 m w) (E : JoBox b off B) (hb : s < b) {j : Nat} {t : ByteArray} (hj : j = 0 ∨ j = 1) (ht : t.size ≤ 1000) : TyW s b k B w0 (m + 1) (w.setCell ⟨b, off + j, none⟩ (.string t)) :=
  ⟨h.two.trans (Two.set _), (h.str.row (row := some b) ((Gr.refl b w).setS (p := ⟨b, off + j, none⟩) (.inl rfl) _) (fun j h => by injection h with h; omega)).more (by omega), E.setS _ _ _ h.box hj ht⟩
theorem TyW.setIJ (h : TyW s b k B w0 m w) (E : JoBox b off B) (hb : s < b) {j : Nat} {z : Int} (hj : j = 3 ∨ j = 5) (hz : -1000000000000000 ≤ z ∧ z ≤ 1000000000000000) : TyW s b k B w0 (m + 1) (w.setCell ⟨b, off + j, none⟩ (.int .i64 z)) :=
  ⟨h.two.trans (Two.set _), (h.str.row (row := some b) ((Gr.refl b w).setS (p := ⟨b, off + j, none⟩) (.inl rfl) _) (fun j h => by injection h with h; omega)).more (by omega), E.setI _ _ _ h.box hj hz⟩
end
end Go.Proofs.YtdnmcpojjndjbaaGreatDoor
/- The drawn statements of the stream's price. -/
namespace Go.Proofs.YtdnmcpojjndjbaaGreatDoor
open Go.RowKit

/-- Region r, wherever it stands. -/
def findReg (r : Nat) : Code → Option Code
  | .region n o b => bif Nat.beq n r then some (.region n o b) else none
  | .seq a b => match findReg r a with | some c => some c | none => findReg r b
  | .cond _ a b => match findReg r a with | some c => some c | none => findReg r b
  | .scope c => findReg r c
  | .block _ c => findReg r c
  | .loop c => findReg r c
  | _ => none
noncomputable def ty_p3C : Code := (findReg 3 (Tryz.f5.body.getD .skip)).getD .skip
def ty_p3Sh (s b off : Nat) : Nat → Value → World → Prop
  | 0, v, w => ShPtr s 0 v w
  | 1, v, w => ShT v w
  | 2, v, w => ShLT s b 2 v w
  | 3, v, w => ShT v w
  | 4, v, w => ShPtr s 0 v w
  | 5, v, w => ShZ v w
  | 6, v, w => ShPtr s 0 v w
  | 7, v, w => ShLZ s b 3 v w
  | 8, v, w => ShZ v w
  | 9, v, w => ShPtr s 0 v w
  | 10, v, w => ShZ v w
  | 11, v, w => ShPtr s 0 v w
  | 12, v, w => ShPtr b (off + 9) v w
  | 13, v, w => ShZ v w
  | 14, v, w => ShLZ s b 2 v w
  | 15, v, w => ShZ v w
  | 16, v, w => ShPtr b off v w
  | 17, _, _ => True
  | 18, v, w => ShPtr b (off + 1) v w
  | 19, _, _ => True
  | 20, v, w => ShPtr b (off + 6) v w
  | 21, _, _ => True
  | 22, v, w => ShPtr b (off + 7) v w
  | 23, _, _ => True
  | 24, v, w => ShPtr b (off + 9) v w
  | 25, _, _ => True
  | _, _, _ => True
def ty_p3D : List Tmp := [37, 38, 39, 40, 41, 42, 43, 44, 45, 46, 47, 48, 49, 50, 51, 52, 53, 54, 55, 56, 57]
set_option maxRecDepth 100000 in
set_option maxHeartbeats 2000000 in
theorem ty_p3 {Q : Exit → Act → World → Prop} {a0 : Act} {w0 w : World} {s b off k : Nat} {B : World → Prop} (E : PrBox b off B) (hsb : s < b) (hk : k < 800000) (hsz : a0.tmps.size = 59) (g0 : a0.tmps.getD 0 undef = .pointer (some ⟨s, 0, none⟩)) (g5 : a0.tmps.getD 5 undef = .pointer (some ⟨b, off, none⟩)) (g1 : ∀ w, ShT (a0.tmps.getD 1 undef) w) (hW : TyW s b k B w0 0 w)
    (hend : ∀ (f : Tmp → Value) (w' : World), TyW s b k B w0 26 w' → Q .normal ⟨ty_p3D.foldl (fun t d => t.setIfInBounds d (f d)) a0.tmps, a0.defers⟩ w') : Code.wp Tryz.prog ty_p3C Q a0 w := by
  conv => arg 2; whnf
  refine wp_region_known (by kernel_rfl) (TyW s b k B w0) (ty_p3Sh s b off) (Two s b) a0 (by rw [hsz]; kernel_rfl) (by kernel_rfl) ?_ ?_ ?_ ⟨hW.two.trans (Two.of_gr ((Gr.refl s w).drew)), hW.str.nx (Nx.refl w).drew, E.same _ _ hW.box rfl (Nat.le_refl _)⟩
  · intro i v w w' h hkp
    match i, h with
    | 0, h => exact h
    | 1, h => exact h
    | 2, h => exact ShLT.keep h hkp
    | 3, h => exact h
    | 4, h => exact h
    | 5, h => exact h
    | 6, h => exact h
    | 7, h => exact ShLZ.keep h hkp
    | 8, h => exact h
    | 9, h => exact h
    | 10, h => exact h
    | 11, h => exact h
    | 12, h => exact h
    | 13, h => exact h
    | 14, h => exact ShLZ.keep h hkp
    | 15, h => exact h
    | 16, h => exact h
    | 17, h => exact h
    | 18, h => exact h
    | 19, h => exact h
    | 20, h => exact h
    | 21, h => exact h
    | 22, h => exact h
    | 23, h => exact h
    | 24, h => exact h
    | 25, h => exact h
    | _ + 26, _ => trivial
  · intro i o ho m a w hm hM hold hdep
    have hm : m < 26 := hm
    match i, ho with
    | 0, ho =>
      obtain rfl := Option.some.inj ho
      have e1 := (hold 0 (by decide)).trans g0
      exact wpOp_val (v := a.tmps.getD 0 undef) rfl rfl (by unfold execOp; go_simp) ⟨_, rfl, hM.pass, Two.refl _ _ _, fun _ _ => e1⟩
    | 1, ho =>
      obtain rfl := Option.some.inj ho
      have e1 : ShT (a.tmps.getD 1 undef) w := by rw [hold 1 (by decide)]; exact g1 w
      exact wpOp_val (v := a.tmps.getD 1 undef) rfl rfl (by unfold execOp; go_simp) ⟨_, rfl, hM.pass, Two.refl _ _ _, fun _ _ => e1⟩
    | 2, ho =>
      obtain rfl := Option.some.inj ho
      have e1 := hdep 1 _ 38 rfl ⟨_, Array.mem_of_getElem? (i := 0) rfl, rfl, rfl⟩ rfl
      obtain ⟨z1, f1, hz1⟩ := e1
      have f1 : a.eval (.tmp 38) = .string z1 := f1
      have f1b : a.tmps[38]?.getD undef = .string z1 := by rw [← Array.getD_eq_getD_getElem?]; exact f1
      have hb := E.lt w hM.box
      have hs := hM.str.lt
      refine wpOp_val (w' := w.alloc (.cells #[.string z1, .string ⟨#[]⟩] 9 (0, 0))) (v := .slice (some ⟨w.heap.size, 0, none⟩) 2 2) rfl rfl (by unfold execOp; simp only; go_simp) ⟨_, rfl, hM.alloc E _, Two.alloc _ _, fun _ _ => ⟨w.heap.size, [z1, ⟨#[]⟩], rfl, rfl, ?_, by omega, by omega, heap_alloc_new w _⟩⟩
      intro z hz
      simp only [List.mem_cons, List.not_mem_nil, or_false] at hz
      rcases hz with rfl | rfl
      all_goals first | assumption | decide
    | 3, ho =>
      obtain rfl := Option.some.inj ho
      have e1 := hdep 0 _ 37 rfl ⟨_, Array.mem_of_getElem? (i := 0) rfl, rfl, rfl⟩ rfl
      have e2 := hdep 2 _ 39 rfl ⟨_, Array.mem_of_getElem? (i := 1) rfl, rfl, rfl⟩ rfl
      refine ty_some rfl rfl rfl e1 e2 (by decide) hM.str (by omega) ?_
      intro t w' ht hg hS
      exact ⟨_, rfl, hM.gr E (by omega) hg (hS.more (by omega)), Two.of_gr hg, fun _ _ => ⟨_, rfl, ht⟩⟩
    | 4, ho =>
      obtain rfl := Option.some.inj ho
      have e1 := (hold 0 (by decide)).trans g0
      exact wpOp_val (v := a.tmps.getD 0 undef) rfl rfl (by unfold execOp; go_simp) ⟨_, rfl, hM.pass, Two.refl _ _ _, fun _ _ => e1⟩
    | 5, ho =>
      obtain rfl := Option.some.inj ho
      have e1 := hdep 4 _ 41 rfl ⟨_, Array.mem_of_getElem? (i := 0) rfl, rfl, rfl⟩ rfl
      refine ty_odd rfl rfl rfl e1 (by decide) (by decide) hM.str (by omega) ?_
      intro t w' ht hg hS
      exact ⟨_, rfl, hM.gr E (by omega) hg (hS.more (by omega)), Two.of_gr hg, fun _ _ => ⟨_, rfl, ht⟩⟩
    | 6, ho =>
      obtain rfl := Option.some.inj ho
      have e1 := (hold 0 (by decide)).trans g0
      exact wpOp_val (v := a.tmps.getD 0 undef) rfl rfl (by unfold execOp; go_simp) ⟨_, rfl, hM.pass, Two.refl _ _ _, fun _ _ => e1⟩
    | 7, ho =>
      obtain rfl := Option.some.inj ho
      have hb := E.lt w hM.box
      have hs := hM.str.lt
      refine wpOp_val (w' := w.alloc (.cells #[.int .i64 (24), .int .i64 (25), .int .i64 (3)] 3 (0, 0))) (v := .slice (some ⟨w.heap.size, 0, none⟩) 3 3) rfl rfl (by unfold execOp; go_simp) ⟨_, rfl, hM.alloc E _, Two.alloc _ _, fun _ _ => ⟨w.heap.size, [(24), (25), (3)], rfl, rfl, ?_, by omega, by omega, heap_alloc_new w _⟩⟩
      intro z hz
      simp only [List.mem_cons, List.not_mem_nil, or_false] at hz
      rcases hz with rfl | rfl | rfl
      all_goals first | assumption | decide
    | 8, ho =>
      obtain rfl := Option.some.inj ho
      have e1 := hdep 6 _ 43 rfl ⟨_, Array.mem_of_getElem? (i := 0) rfl, rfl, rfl⟩ rfl
      have e2 := hdep 7 _ 44 rfl ⟨_, Array.mem_of_getElem? (i := 1) rfl, rfl, rfl⟩ rfl
      refine ty_pick rfl rfl rfl e1 e2 (by decide) hM.str (by omega) ?_
      intro t w' ht hg hS
      exact ⟨_, rfl, hM.gr E (by omega) hg (hS.more (by omega)), Two.of_gr hg, fun _ _ => ⟨_, rfl, ht⟩⟩
    | 9, ho =>
      obtain rfl := Option.some.inj ho
      have e1 := (hold 0 (by decide)).trans g0
      exact wpOp_val (v := a.tmps.getD 0 undef) rfl rfl (by unfold execOp; go_simp) ⟨_, rfl, hM.pass, Two.refl _ _ _, fun _ _ => e1⟩
    | 10, ho =>
      obtain rfl := Option.some.inj ho
      have e1 := hdep 9 _ 46 rfl ⟨_, Array.mem_of_getElem? (i := 0) rfl, rfl, rfl⟩ rfl
      refine ty_odd rfl rfl rfl e1 (by decide) (by decide) hM.str (by omega) ?_
      intro t w' ht hg hS
      exact ⟨_, rfl, hM.gr E (by omega) hg (hS.more (by omega)), Two.of_gr hg, fun _ _ => ⟨_, rfl, ht⟩⟩
    | 11, ho =>
      obtain rfl := Option.some.inj ho
      have e1 := (hold 0 (by decide)).trans g0
      exact wpOp_val (v := a.tmps.getD 0 undef) rfl rfl (by unfold execOp; go_simp) ⟨_, rfl, hM.pass, Two.refl _ _ _, fun _ _ => e1⟩
    | 12, ho =>
      obtain rfl := Option.some.inj ho
      have e1 := (hold 5 (by decide)).trans g5
      have e2 : a.eval (.tmp 5) = .pointer (some ⟨b, off, none⟩) := e1
      have e2b : a.tmps[5]?.getD undef = .pointer (some ⟨b, off, none⟩) := by rw [← Array.getD_eq_getD_getElem?]; exact e2
      exact wpOp_val (v := .pointer (some ⟨b, off + 9, none⟩)) rfl rfl (by unfold execOp; simp only; go_simp) ⟨_, rfl, hM.pass, Two.refl _ _ _, fun _ _ => rfl⟩
    | 13, ho =>
      obtain rfl := Option.some.inj ho
      have e1 := hdep 12 _ 49 rfl ⟨_, Array.mem_of_getElem? (i := 0) rfl, rfl, rfl⟩ rfl
      have e2 : a.eval (.tmp 49) = .pointer (some ⟨b, off + 9, none⟩) := e1
      have e2b : a.tmps[49]?.getD undef = .pointer (some ⟨b, off + 9, none⟩) := by rw [← Array.getD_eq_getD_getElem?]; exact e2
      obtain ⟨x, hok, hc⟩ := E.get w hM.box
      have c0 : w.cell? ⟨b, off + 9, none⟩ = some _ := hc 9 _ rfl
      exact wpOp_val (v := .int .i64 x.most) rfl rfl (by unfold execOp; simp only; go_simp) ⟨_, rfl, hM.pass, Two.refl _ _ _, fun _ _ => ⟨_, rfl, hok.2 _ (by simp)⟩⟩
    | 14, ho =>
      obtain rfl := Option.some.inj ho
      have e1 := hdep 13 _ 50 rfl ⟨_, Array.mem_of_getElem? (i := 0) rfl, rfl, rfl⟩ rfl
      obtain ⟨z1, f1, hz1⟩ := e1
      have f1 : a.eval (.tmp 50) = .int .i64 z1 := f1
      have f1b : a.tmps[50]?.getD undef = .int .i64 z1 := by rw [← Array.getD_eq_getD_getElem?]; exact f1
      have hb := E.lt w hM.box
      have hs := hM.str.lt
      refine wpOp_val (w' := w.alloc (.cells #[.int .i64 z1, .int .i64 (100)] 3 (0, 0))) (v := .slice (some ⟨w.heap.size, 0, none⟩) 2 2) rfl rfl (by unfold execOp; simp only; go_simp) ⟨_, rfl, hM.alloc E _, Two.alloc _ _, fun _ _ => ⟨w.heap.size, [z1, (100)], rfl, rfl, ?_, by omega, by omega, heap_alloc_new w _⟩⟩
      intro z hz
      simp only [List.mem_cons, List.not_mem_nil, or_false] at hz
      rcases hz with rfl | rfl
      all_goals first | assumption | decide
    | 15, ho =>
      obtain rfl := Option.some.inj ho
      have e1 := hdep 11 _ 48 rfl ⟨_, Array.mem_of_getElem? (i := 0) rfl, rfl, rfl⟩ rfl
      have e2 := hdep 14 _ 51 rfl ⟨_, Array.mem_of_getElem? (i := 1) rfl, rfl, rfl⟩ rfl
      refine ty_pick rfl rfl rfl e1 e2 (by decide) hM.str (by omega) ?_
      intro t w' ht hg hS
      exact ⟨_, rfl, hM.gr E (by omega) hg (hS.more (by omega)), Two.of_gr hg, fun _ _ => ⟨_, rfl, ht⟩⟩
    | 16, ho =>
      obtain rfl := Option.some.inj ho
      have e1 := (hold 5 (by decide)).trans g5
      have e2 : a.eval (.tmp 5) = .pointer (some ⟨b, off, none⟩) := e1
      have e2b : a.tmps[5]?.getD undef = .pointer (some ⟨b, off, none⟩) := by rw [← Array.getD_eq_getD_getElem?]; exact e2
      exact wpOp_val (v := .pointer (some ⟨b, off, none⟩)) rfl rfl (by unfold execOp; simp only; go_simp) ⟨_, rfl, hM.pass, Two.refl _ _ _, fun _ _ => rfl⟩
    | 17, ho =>
      obtain rfl := Option.some.inj ho
      have e1 := hdep 16 _ 53 rfl ⟨_, Array.mem_of_getElem? (i := 0) rfl, rfl, rfl⟩ rfl
      have e2 := hdep 3 _ 40 rfl ⟨_, Array.mem_of_getElem? (i := 1) rfl, rfl, rfl⟩ rfl
      have e3 : a.eval (.tmp 53) = .pointer (some ⟨b, off, none⟩) := e1
      have e3b : a.tmps[53]?.getD undef = .pointer (some ⟨b, off, none⟩) := by rw [← Array.getD_eq_getD_getElem?]; exact e3
      obtain ⟨z, e4, hz⟩ := e2
      have e4 : a.eval (.tmp 40) = .string z := e4
      have e4b : a.tmps[40]?.getD undef = .string z := by rw [← Array.getD_eq_getD_getElem?]; exact e4
      obtain ⟨x, hok, hc⟩ := E.get w hM.box
      have c0 : w.cell? ⟨b, off, none⟩ = some _ := hc 0 _ rfl
      have hfz := E.frz w (off) hM.box
      exact wpOp_skip (w' := w.setCell ⟨b, off, none⟩ (.string z)) rfl rfl (by unfold execOp; simp only; go_simp) ⟨_, rfl, hM.setS E hsb (j := 0) (by decide) hz, Two.set _, fun _ _ => trivial⟩
    | 18, ho =>
      obtain rfl := Option.some.inj ho
      have e1 := (hold 5 (by decide)).trans g5
      have e2 : a.eval (.tmp 5) = .pointer (some ⟨b, off, none⟩) := e1
      have e2b : a.tmps[5]?.getD undef = .pointer (some ⟨b, off, none⟩) := by rw [← Array.getD_eq_getD_getElem?]; exact e2
      exact wpOp_val (v := .pointer (some ⟨b, off + 1, none⟩)) rfl rfl (by unfold execOp; simp only; go_simp) ⟨_, rfl, hM.pass, Two.refl _ _ _, fun _ _ => rfl⟩
    | 19, ho =>
      obtain rfl := Option.some.inj ho
      have e1 := hdep 18 _ 54 rfl ⟨_, Array.mem_of_getElem? (i := 0) rfl, rfl, rfl⟩ rfl
      have e2 := hdep 5 _ 42 rfl ⟨_, Array.mem_of_getElem? (i := 1) rfl, rfl, rfl⟩ rfl
      have e3 : a.eval (.tmp 54) = .pointer (some ⟨b, off + 1, none⟩) := e1
      have e3b : a.tmps[54]?.getD undef = .pointer (some ⟨b, off + 1, none⟩) := by rw [← Array.getD_eq_getD_getElem?]; exact e3
      obtain ⟨z, e4, hz⟩ := e2
      have e4 : a.eval (.tmp 42) = .int .i64 z := e4
      have e4b : a.tmps[42]?.getD undef = .int .i64 z := by rw [← Array.getD_eq_getD_getElem?]; exact e4
      obtain ⟨x, hok, hc⟩ := E.get w hM.box
      have c0 : w.cell? ⟨b, off + 1, none⟩ = some _ := hc 1 _ rfl
      have hfz := E.frz w (off + 1) hM.box
      exact wpOp_skip (w' := w.setCell ⟨b, off + 1, none⟩ (.int .i64 z)) rfl rfl (by unfold execOp; simp only; go_simp) ⟨_, rfl, hM.setI E hsb (j := 1) (by decide) hz, Two.set _, fun _ _ => trivial⟩
    | 20, ho =>
      obtain rfl := Option.some.inj ho
      have e1 := (hold 5 (by decide)).trans g5
      have e2 : a.eval (.tmp 5) = .pointer (some ⟨b, off, none⟩) := e1
      have e2b : a.tmps[5]?.getD undef = .pointer (some ⟨b, off, none⟩) := by rw [← Array.getD_eq_getD_getElem?]; exact e2
      exact wpOp_val (v := .pointer (some ⟨b, off + 6, none⟩)) rfl rfl (by unfold execOp; simp only; go_simp) ⟨_, rfl, hM.pass, Two.refl _ _ _, fun _ _ => rfl⟩
    | 21, ho =>
      obtain rfl := Option.some.inj ho
      have e1 := hdep 20 _ 55 rfl ⟨_, Array.mem_of_getElem? (i := 0) rfl, rfl, rfl⟩ rfl
      have e2 := hdep 8 _ 45 rfl ⟨_, Array.mem_of_getElem? (i := 1) rfl, rfl, rfl⟩ rfl
      have e3 : a.eval (.tmp 55) = .pointer (some ⟨b, off + 6, none⟩) := e1
      have e3b : a.tmps[55]?.getD undef = .pointer (some ⟨b, off + 6, none⟩) := by rw [← Array.getD_eq_getD_getElem?]; exact e3
      obtain ⟨z, e4, hz⟩ := e2
      have e4 : a.eval (.tmp 45) = .int .i64 z := e4
      have e4b : a.tmps[45]?.getD undef = .int .i64 z := by rw [← Array.getD_eq_getD_getElem?]; exact e4
      obtain ⟨x, hok, hc⟩ := E.get w hM.box
      have c0 : w.cell? ⟨b, off + 6, none⟩ = some _ := hc 6 _ rfl
      have hfz := E.frz w (off + 6) hM.box
      exact wpOp_skip (w' := w.setCell ⟨b, off + 6, none⟩ (.int .i64 z)) rfl rfl (by unfold execOp; simp only; go_simp) ⟨_, rfl, hM.setI E hsb (j := 6) (by decide) hz, Two.set _, fun _ _ => trivial⟩
    | 22, ho =>
      obtain rfl := Option.some.inj ho
      have e1 := (hold 5 (by decide)).trans g5
      have e2 : a.eval (.tmp 5) = .pointer (some ⟨b, off, none⟩) := e1
      have e2b : a.tmps[5]?.getD undef = .pointer (some ⟨b, off, none⟩) := by rw [← Array.getD_eq_getD_getElem?]; exact e2
      exact wpOp_val (v := .pointer (some ⟨b, off + 7, none⟩)) rfl rfl (by unfold execOp; simp only; go_simp) ⟨_, rfl, hM.pass, Two.refl _ _ _, fun _ _ => rfl⟩
    | 23, ho =>
      obtain rfl := Option.some.inj ho
      have e1 := hdep 22 _ 56 rfl ⟨_, Array.mem_of_getElem? (i := 0) rfl, rfl, rfl⟩ rfl
      have e2 := hdep 10 _ 47 rfl ⟨_, Array.mem_of_getElem? (i := 1) rfl, rfl, rfl⟩ rfl
      have e3 : a.eval (.tmp 56) = .pointer (some ⟨b, off + 7, none⟩) := e1
      have e3b : a.tmps[56]?.getD undef = .pointer (some ⟨b, off + 7, none⟩) := by rw [← Array.getD_eq_getD_getElem?]; exact e3
      obtain ⟨z, e4, hz⟩ := e2
      have e4 : a.eval (.tmp 47) = .int .i64 z := e4
      have e4b : a.tmps[47]?.getD undef = .int .i64 z := by rw [← Array.getD_eq_getD_getElem?]; exact e4
      obtain ⟨x, hok, hc⟩ := E.get w hM.box
      have c0 : w.cell? ⟨b, off + 7, none⟩ = some _ := hc 7 _ rfl
      have hfz := E.frz w (off + 7) hM.box
      exact wpOp_skip (w' := w.setCell ⟨b, off + 7, none⟩ (.int .i64 z)) rfl rfl (by unfold execOp; simp only; go_simp) ⟨_, rfl, hM.setI E hsb (j := 7) (by decide) hz, Two.set _, fun _ _ => trivial⟩
    | 24, ho =>
      obtain rfl := Option.some.inj ho
      have e1 := (hold 5 (by decide)).trans g5
      have e2 : a.eval (.tmp 5) = .pointer (some ⟨b, off, none⟩) := e1
      have e2b : a.tmps[5]?.getD undef = .pointer (some ⟨b, off, none⟩) := by rw [← Array.getD_eq_getD_getElem?]; exact e2
      exact wpOp_val (v := .pointer (some ⟨b, off + 9, none⟩)) rfl rfl (by unfold execOp; simp only; go_simp) ⟨_, rfl, hM.pass, Two.refl _ _ _, fun _ _ => rfl⟩
    | 25, ho =>
      obtain rfl := Option.some.inj ho
      have e1 := hdep 24 _ 57 rfl ⟨_, Array.mem_of_getElem? (i := 0) rfl, rfl, rfl⟩ rfl
      have e2 := hdep 15 _ 52 rfl ⟨_, Array.mem_of_getElem? (i := 1) rfl, rfl, rfl⟩ rfl
      have e3 : a.eval (.tmp 57) = .pointer (some ⟨b, off + 9, none⟩) := e1
      have e3b : a.tmps[57]?.getD undef = .pointer (some ⟨b, off + 9, none⟩) := by rw [← Array.getD_eq_getD_getElem?]; exact e3
      obtain ⟨z, e4, hz⟩ := e2
      have e4 : a.eval (.tmp 52) = .int .i64 z := e4
      have e4b : a.tmps[52]?.getD undef = .int .i64 z := by rw [← Array.getD_eq_getD_getElem?]; exact e4
      obtain ⟨x, hok, hc⟩ := E.get w hM.box
      have c0 : w.cell? ⟨b, off + 9, none⟩ = some _ := hc 9 _ rfl
      have hfz := E.frz w (off + 9) hM.box
      exact wpOp_skip (w' := w.setCell ⟨b, off + 9, none⟩ (.int .i64 z)) rfl rfl (by unfold execOp; simp only; go_simp) ⟨_, rfl, hM.setI E hsb (j := 9) (by decide) hz, Two.set _, fun _ _ => trivial⟩
    | j + 26, ho => simp at ho
  · intro listed a w hK hW2 _
    obtain ⟨f, rfl⟩ := known_frame hK (by rw [hsz]; kernel_rfl)
    exact hend f w hW2
end Go.Proofs.YtdnmcpojjndjbaaGreatDoor
