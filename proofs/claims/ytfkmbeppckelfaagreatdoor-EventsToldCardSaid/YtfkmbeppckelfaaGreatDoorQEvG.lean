/- Events followed. -/
import Derived.Test.YtfkmbeppckelfaaGreatDoorQG11
namespace Go.Proofs.YtfkmbeppckelfaaGreatDoor
open Go.RowKit Go.Maps

theorem el_Ref : ElemOf Tryz.prog 67 72 2 16 := ElemOf.mk' (z := .agg #[.int .i64 0, .int .i64 0]) Tryz.underlying67 (by kernel_rfl) rfl
def encRef (z : Int × Int) : List Value := [.int .i64 z.1, .int .i64 z.2]
theorem encRef_len (z : Int × Int) : (encRef z).length = 2 := rfl
theorem encRef_one (z : Int × Int) : ∀ v ∈ encRef z, v.oneCell' = true := by
  intro v hv; simp [encRef] at hv; rcases hv with rfl | rfl <;> rfl
theorem intV_inj (a b : Int) (h : Value.int .i64 a = Value.int .i64 b) : a = b := by injection h
theorem goneM_keep {l : List Ev} {k : Nat} {x : Ev} (hx : l[k]? = some x) (h : x.kind ≠ 9 ∨ tgtF l x.from_ x.number = none ∨ (∃ t, tgtF l x.from_ x.number = some t ∧ (kindAt l t = 9 ∨ ((goneM l k).1 t).isSome = true))) : goneM l (k + 1) = goneM l k := by
  rcases h with h | h | ⟨t, h1, h2 | h2⟩
  · simp [goneM, hx, h]
  · simp [goneM, hx, h]
  · simp [goneM, hx, h1, h2]
  · simp [goneM, hx, h1, h2]
theorem goneM_add {l : List Ev} {k t : Nat} {x : Ev} (hx : l[k]? = some x) (h9 : x.kind = 9) (ht : tgtF l x.from_ x.number = some t) (hk : kindAt l t ≠ 9) (hg : ((goneM l k).1 t).isSome = false) : goneM l (k + 1) = (updF (goneM l k).1 t k, updF (goneM l k).2 k true) := by
  simp [goneM, hx, h9, ht, hk, hg]
/-- The day's block. -/
def dayO (lA : Option Addr) (n lc rb cb gb bb : Nat) (rv : Value) (fn : Value) : Obj := .cells #[.slice lA n lc, .map (some rb), .map (some cb), rv, .map (some gb), .map (some bb), fn] 92 (0, 0)
theorem day_cells {w : World} {d : Nat} {lA : Option Addr} {n lc rb cb gb bb : Nat} {rv fn : Value} (h : w.heap[d]? = some (dayO lA n lc rb cb gb bb rv fn)) :
    w.cell? ⟨d, 0, none⟩ = some (.slice lA n lc) ∧ w.cell? ⟨d, 1, none⟩ = some (.map (some rb)) ∧ w.cell? ⟨d, 2, none⟩ = some (.map (some cb)) ∧ w.cell? ⟨d, 3, none⟩ = some rv ∧ w.cell? ⟨d, 4, none⟩ = some (.map (some gb)) ∧ w.cell? ⟨d, 5, none⟩ = some (.map (some bb)) ∧ w.cell? ⟨d, 6, none⟩ = some fn :=
  ⟨cell_of_row w d 0 _ _ _ h, cell_of_row w d 1 _ _ _ h, cell_of_row w d 2 _ _ _ h, cell_of_row w d 3 _ _ _ h, cell_of_row w d 4 _ _ _ h, cell_of_row w d 5 _ _ _ h, cell_of_row w d 6 _ _ _ h⟩
/-- What is known behind the walk of events. -/
def FollowOut (l : List Ev) (until_ : Int) (lA : Option Addr) (lc : Nat) (w : World) (e : Ending) (w' : World) : Prop :=
  ∃ (lo d rb cb gb bb : Nat) (rv : Value) (fr fc : ByteArray → Option (Option Nat)) (fm : ByteArray → Nat), e = .returned (.pointer (some ⟨d, 0, none⟩)) ∧ DayW w' lo rb cb (4 * l.length) (runP l until_ l.length) fr fc fm ∧
    w'.heap[d]? = some (dayO lA l.length lc rb cb gb bb rv .nilFunc) ∧ w'.ownsRow w.heap.size 72 2 rv (refP l until_ l.length).length ((refP l until_ l.length).flatMap encRef) ∧
    MpII w' gb l.length (goneM l l.length).1 ∧ w.heap.size ≤ lo ∧ w.heap.size ≤ d ∧ w.heap.size ≤ rb ∧ w.heap.size ≤ cb ∧ w.heap.size ≤ gb ∧ Nx w w'
/-- What the second loop holds. -/
structure FolR (w0 w : World) (lo d rb cb gb bb nb N lc : Nat) (A : Option Addr) (l : List Ev) (fn : Value) (rv : Value) (D : DayP) (rs : List (Int × Int)) (fr fc : ByteArray → Option (Option Nat)) (fm : ByteArray → Nat) : Prop where
  day : DayW w lo rb cb N D fr fc fm
  blk : w.heap[d]? = some (dayO A l.length lc rb cb gb bb rv fn)
  row : w.ownsRow w0.heap.size 72 2 rv rs.length (rs.flatMap encRef)
  names : MpNI w nb l.length (evNamesF l l.length)
  gone : MpII w gb l.length (goneM l l.length).1
  back : MpIB w bb l.length (goneM l l.length).2
  nx : Nx w0 w
/-- Where all this lies. -/
structure FolP (w0 : World) (lo d rb cb gb bb nb : Nat) : Prop where
  hd : w0.heap.size ≤ d ∧ d < lo ∧ d ≠ rb ∧ d ≠ cb ∧ d ≠ gb ∧ d ≠ bb ∧ d ≠ nb
  hrb : w0.heap.size ≤ rb ∧ rb < lo
  hcb : w0.heap.size ≤ cb ∧ cb < lo
  hgb : w0.heap.size ≤ gb ∧ gb < lo ∧ gb ≠ rb ∧ gb ≠ cb
  hbb : w0.heap.size ≤ bb ∧ bb < lo ∧ bb ≠ rb ∧ bb ≠ cb
  hnb : w0.heap.size ≤ nb ∧ nb < lo ∧ nb ≠ rb ∧ nb ≠ cb
section
variable {w0 w w' : World} {lo d rb cb gb bb nb N N' lc : Nat} {A : Option Addr} {l : List Ev} {fn rv : Value} {D D' : DayP} {rs : List (Int × Int)} {fr fc fr' fc' : ByteArray → Option (Option Nat)} {fm fm' : ByteArray → Nat}
theorem FolR.nxt (h : FolR w0 w lo d rb cb gb bb nb N lc A l fn rv D rs fr fc fm) (hn : Nx w w') : FolR w0 w' lo d rb cb gb bb nb N lc A l fn rv D rs fr fc fm :=
  ⟨h.day.nx hn, (hn.block _ (Array.getElem?_eq_some_iff.1 h.blk).1).trans h.blk, own_nx h.row hn, h.names.nx hn, h.gone.nx hn, h.back.nx hn, h.nx.trans hn⟩
theorem FolR.step (h : FolR w0 w lo d rb cb gb bb nb N lc A l fn rv D rs fr fc fm) (hp : FolP w0 lo d rb cb gb bb nb) (hF : Fr2 lo rb cb w w') (hD : DayW w' lo rb cb N' D' fr' fc' fm') : FolR w0 w' lo d rb cb gb bb nb N' lc A l fn rv D' rs fr' fc' fm' := by
  have hlo : w0.heap.size ≤ lo := by have := hp.hd; omega
  have hnx : Nx w0 w' := hF.toNx h.nx hp.hrb.1 hp.hcb.1 hlo
  refine ⟨hD, hF.at_ hp.hd.2.1 hp.hd.2.2.1 hp.hd.2.2.2.1 h.blk, ?_, h.names.same (hF.block nb hp.hnb.2.1 hp.hnb.2.2.1 hp.hnb.2.2.2), h.gone.same (hF.block gb hp.hgb.2.1 hp.hgb.2.2.1 hp.hgb.2.2.2), h.back.same (hF.block bb hp.hbb.2.1 hp.hbb.2.2.1 hp.hbb.2.2.2), hnx⟩
  refine own_same h.row hF.size (fun g o hg ho => ?_)
  obtain ⟨cur, hc⟩ := own_cells h.row hg
  rw [hc] at ho; injection ho with ho; subst ho
  exact hF.cells _ _ _ _ hc (by decide) (by decide)
end
theorem row_typG {w : World} {base : Nat} {size : Nat} {t : TypeId} {v : Value} {n : Nat} {xs : List Value} (h : w.ownsRow base t size v n xs) (h1 : t ≠ 59) (h2 : t ≠ 111) {p : Nat} (hp : v.ownBlock = some p) : (∀ s, w.heap[p]? ≠ some (staO s)) ∧ (∀ c m, w.heap[p]? ≠ some (crwO c m)) ∧ (∀ es t, w.heap[p]? ≠ some (.map es t)) := by
  obtain ⟨cur, hh⟩ := own_cells h hp
  rw [hh]
  refine ⟨fun s e => ?_, fun c m e => ?_, fun es t e => ?_⟩
  · injection e with e; unfold staO at e; injection e with _ e _; exact h1 e
  · injection e with e; unfold crwO at e; injection e with _ e _; exact h2 e
  · injection e with e; cases e
theorem MgI.typ {κ V : Type} {P : Program} {K : TypeId} {ek : κ → Value} {dom : κ → Prop} {R : Value → Option (DataW Unit × List MemPlace)} {dv : V → DataW Unit} {w w' : World} {b n : Nat} {f : κ → Option V} (h : MgI P K ek dom R dv w b n f) {row : Option Nat} (hg : w.grownBy w' row) (hr : ∀ p, row = some p → ∀ es t, w.heap[p]? ≠ some (.map es t)) : MgI P K ek dom R dv w' b n f :=
  h.grown hg (fun e => by obtain ⟨es, t, ho⟩ := mg_obj h; exact hr b e.symm es t ho)
theorem FolR.appBlk {w0 w w9 : World} {lo d rb cb gb bb nb N lc : Nat} {A : Option Addr} {l : List Ev} {fn rv : Value} {D : DayP} {rs : List (Int × Int)} {fr fc : ByteArray → Option (Option Nat)} {fm : ByteArray → Nat} {o : Obj}
    (h : FolR w0 w lo d rb cb gb bb nb N lc A l fn rv D rs fr fc fm) (hg9 : (w.alloc o).grownBy w9 rv.ownBlock) : w9.heap[d]? = some (dayO A l.length lc rb cb gb bb rv fn) := by
  have hna : Nx w (w.alloc o) := (Nx.refl w).alloc o
  have ha := h.nxt hna
  exact (World.grownBy.block hg9 d (Array.getElem?_eq_some_iff.1 ha.blk).1 (fun e => by
    obtain ⟨cur, hh⟩ := own_cells ha.row e.symm
    have h1 := ha.blk
    rw [hh] at h1; injection h1 with h1; unfold dayO at h1; injection h1 with _ h1 _; revert h1; decide)).trans ha.blk
theorem day_frz {w : World} {d : Nat} {lA : Option Addr} {n lc rb cb gb bb : Nat} {rv fn : Value} (h : w.heap[d]? = some (dayO lA n lc rb cb gb bb rv fn)) : w.frozen? ⟨d, 3, none⟩ = false := by simp [World.frozen?, h, dayO]
theorem FolR.push {w0 w w9 w10 : World} {lo d rb cb gb bb nb N lc : Nat} {A : Option Addr} {l : List Ev} {fn rv v9 : Value} {D : DayP} {rs rs' : List (Int × Int)} {fr fc : ByteArray → Option (Option Nat)} {fm : ByteArray → Nat} {o : Obj}
    (h : FolR w0 w lo d rb cb gb bb nb N lc A l fn rv D rs fr fc fm) (hp : FolP w0 lo d rb cb gb bb nb) (hg9 : (w.alloc o).grownBy w9 rv.ownBlock) (hown9 : w9.ownsRow w0.heap.size 72 2 v9 rs'.length (rs'.flatMap encRef)) (hg10 : Gr d w9 w10) (hb10 : w10.heap[d]? = some (dayO A l.length lc rb cb gb bb v9 fn)) :
    FolR w0 w10 lo d rb cb gb bb nb N lc A l fn v9 D rs' fr fc fm := by
  have hna : Nx w (w.alloc o) := (Nx.refl w).alloc o
  have ha := h.nxt hna
  have hty := fun p hp => row_typG ha.row (by decide) (by decide) (p := p) hp
  have hmt := fun p hp => (hty p hp).2.2
  have hbl := h.appBlk hg9
  have hd := hp.hd
  refine ⟨(ha.day.typ hg9 hty).other hg10 (by omega) (by omega) (.inl hd.2.1), hb10, ?_, (ha.names.typ hg9 hmt).gr hg10 (by omega), (ha.gone.typ hg9 hmt).gr hg10 (by omega), (ha.back.typ hg9 hmt).gr hg10 (by omega), ?_⟩
  · refine World.ownsRow.kept hown9 hg10 ?_
    rcases hown9.2 with ⟨rfl, _⟩ | ⟨g, cap, cur, rfl, _, hg, _⟩
    · exact .inl rfl
    · right; intro e; injection e with e; subst e
      rw [hbl] at hg; injection hg with hg; unfold dayO at hg; injection hg with _ hg _; revert hg; decide
  · exact (ha.nx.grown hg9 (fun k hk => own_blk_lt ha.row k hk)).grown hg10 (fun k hk => by injection hk with hk; omega)
theorem refP_len (l : List Ev) (u : Int) : ∀ k, (refP l u k).length ≤ k
  | 0 => Nat.le_refl _
  | k + 1 => by
    have ih := refP_len l u k
    simp only [refP]
    split
    · omega
    · split
      · omega
      · split
        · omega
        · simp; omega
/-- The maps' facts of a step. -/
theorem FolR.ctx {w0 w : World} {lo d rb cb gb bb nb N lc lo2 : Nat} {A : Option Addr} {l : List Ev} {fn rv : Value} {D : DayP} {rs : List (Int × Int)} {fr fc : ByteArray → Option (Option Nat)} {fm : ByteArray → Nat} (h : FolR w0 w lo d rb cb gb bb nb N lc A l fn rv D rs fr fc fm) (hR : Rd w0 lo2 A 11 encEvt l) : StepC w d rb cb nb bb l.length l.length lc A lo2 l := by
  obtain ⟨d0, d1, d2, _, _, d5, _⟩ := day_cells h.blk
  exact ⟨d0, d1, d2, d5, h.names, h.back, hR.nx h.nx⟩
theorem run_skip {l : List Ev} {u : Int} {k : Nat} {x : Ev} (hx : l[k]? = some x) (h : goneB l k = true ∨ u < x.at_) : runP l u (k + 1) = runP l u k ∧ refP l u (k + 1) = refP l u k := by
  constructor
  · simp only [runP, hx]; rw [if_pos h]
  · simp only [refP, hx]; rw [if_pos h]
theorem run_step {l : List Ev} {u : Int} {k : Nat} {x : Ev} (hx : l[k]? = some x) (h : ¬ (goneB l k = true ∨ u < x.at_)) : runP l u (k + 1) = (stepA l k (runP l u k) x).1 ∧ refP l u (k + 1) = if (stepA l k (runP l u k) x).2 = 0 then refP l u k else refP l u k ++ [((k : Int), (stepA l k (runP l u k) x).2)] := by
  have hw : whyL l u k x = (stepA l k (runP l u k) x).2 := by unfold whyL stepA; split <;> rfl
  constructor
  · simp only [runP, hx]; rw [if_neg h]; unfold stepA; split <;> rfl
  · simp only [refP, hx]; rw [if_neg h, hw]
set_option maxRecDepth 100000 in
set_option maxHeartbeats 4000000 in
theorem w_follow (lo2 : Nat) (A : Option Addr) (c : Nat) (l : List Ev) (until_ : Int) (w : World) (hR : Rd w lo2 A 11 encEvt l) (hl : l.length ≤ 100) (hev : evsF l = 0) :
    Calls Tryz.prog 49 #[.slice A l.length c, .int .i64 until_, .nilFunc] w (FollowOut l until_ A c w) := by
  have hmm := @run_makeMap Tryz.prog
  have hnf : ∀ w, (binOp .neq 90 .nilFunc .nilFunc).run Tryz.prog w = .ok (.bool false) w := fun w => by kernel_rfl
  have HR := hide hR
  have HEV := hide hev
  have hok : ∀ x ∈ l, okEv x := fun x hx => okEv_of (evs_right hev hx)
  have HOK := hide hok
  have HL := hide hl
  obtain ⟨n, hn⟩ : ∃ n, n = l.length := ⟨_, rfl⟩
  have hnl : n ≤ 100 := by omega
  rw [← hn]
  have HN := hide hn
  clear hR hev hok hl hn
  go_enter Tryz.func49, Tryz.ntmps49
  go_upto_region 2 with fail
  obtain ⟨w5, hw5⟩ : ∃ w5, w5 = ((((w.alloc (.map #[] 0)).alloc (.map #[] 0)).alloc (.map #[] 0)).alloc (.map #[] 0)).alloc (dayO A n c w.heap.size (w.heap.size + 1) (w.heap.size + 1 + 1) (w.heap.size + 1 + 1 + 1) (.slice none 0 0) .nilFunc) := ⟨_, rfl⟩
  change Code.wp _ _ _ _ (((((w.alloc (.map #[] 0)).alloc (.map #[] 0)).alloc (.map #[] 0)).alloc (.map #[] 0)).alloc (dayO A n c w.heap.size (w.heap.size + 1) (w.heap.size + 1 + 1) (w.heap.size + 1 + 1 + 1) (.slice none 0 0) .nilFunc))
  rw [← hw5]
  have hn5 : Nx w w5 := hw5 ▸ (((((Nx.refl w).alloc _).alloc _).alloc _).alloc _).alloc _
  have hM5 : MpSP w5 w.heap.size 0 (fun _ => none) := by
    rw [hw5]; exact (MgI.made w).nx (((((Nx.refl _).alloc _).alloc _).alloc _).alloc _)
  have hC5 : MpSP w5 (w.heap.size + 1) 0 (fun _ => none) := by
    have h : MpSP ((w.alloc (.map #[] 0)).alloc (.map #[] 0)) (w.alloc (.map #[] 0)).heap.size 0 (fun _ => none) := MgI.made (w.alloc (.map #[] 0))
    rw [show (w.alloc (.map #[] 0)).heap.size = w.heap.size + 1 by simp] at h
    rw [hw5]; exact h.nx ((((Nx.refl _).alloc _).alloc _).alloc _)
  have hG5 : MpII w5 (w.heap.size + 1 + 1) 0 (fun _ => none) := by
    have h : MpII (((w.alloc (.map #[] 0)).alloc (.map #[] 0)).alloc (.map #[] 0)) ((w.alloc (.map #[] 0)).alloc (.map #[] 0)).heap.size 0 (fun _ => none) := MgI.made ((w.alloc (.map #[] 0)).alloc (.map #[] 0))
    rw [show ((w.alloc (.map #[] 0)).alloc (.map #[] 0)).heap.size = w.heap.size + 1 + 1 by simp] at h
    rw [hw5]; exact h.nx (((Nx.refl _).alloc _).alloc _)
  have hB5 : MpIB w5 (w.heap.size + 1 + 1 + 1) 0 (fun _ => none) := by
    have h : MpIB ((((w.alloc (.map #[] 0)).alloc (.map #[] 0)).alloc (.map #[] 0)).alloc (.map #[] 0)) (((w.alloc (.map #[] 0)).alloc (.map #[] 0)).alloc (.map #[] 0)).heap.size 0 (fun _ => none) := MgI.made (((w.alloc (.map #[] 0)).alloc (.map #[] 0)).alloc (.map #[] 0))
    rw [show (((w.alloc (.map #[] 0)).alloc (.map #[] 0)).alloc (.map #[] 0)).heap.size = w.heap.size + 1 + 1 + 1 by simp] at h
    rw [hw5]; exact h.nx ((Nx.refl _).alloc _)
  have hd5 : w5.heap[w.heap.size + 1 + 1 + 1 + 1]? = some (dayO A n c w.heap.size (w.heap.size + 1) (w.heap.size + 1 + 1) (w.heap.size + 1 + 1 + 1) (.slice none 0 0) .nilFunc) := by
    rw [hw5]
    have := heap_alloc_new ((((w.alloc (.map #[] 0)).alloc (.map #[] 0)).alloc (.map #[] 0)).alloc (.map #[] 0)) (dayO A n c w.heap.size (w.heap.size + 1) (w.heap.size + 1 + 1) (w.heap.size + 1 + 1 + 1) (.slice none 0 0) .nilFunc)
    simpa using this
  have hs5 : w5.heap.size = w.heap.size + 5 := by rw [hw5]; simp
  obtain ⟨b0, hb0⟩ : ∃ b0, b0 = w.heap.size := ⟨_, rfl⟩
  rw [← hb0] at hM5 hC5 hG5 hB5 hd5 hs5 ⊢
  have HBN := hide (w_byName lo2 A c l w5 (HR.out.nx hn5) (by have := HL.out; omega) HOK.out)
  rw [← HN.out] at HBN
  have HB0 := hide hb0
  clear hw5 hmm hb0
  go_wp2_with fail
  refine HBN.out.mono ?_
  rintro e w6 ⟨rfl, hN6, hn6⟩
  obtain ⟨nb, hnb⟩ : ∃ nb, nb = w5.heap.size := ⟨_, rfl⟩
  rw [← hnb] at hN6 ⊢
  have hM6 := hide (hM5.nx hn6)
  have hC6 := hide (hC5.nx hn6)
  have hG6 := hide (hG5.nx hn6)
  have hB6 := hide (hB5.nx hn6)
  have hN6 := hide hN6
  have hd6 := (hn6.block _ (Array.getElem?_eq_some_iff.1 hd5).1).trans hd5
  have hx6 : Nx w w6 := hn5.trans hn6
  have hnb0 : nb = b0 + 5 := by omega
  have hs6 : nb < w6.heap.size := hN6.out.lt
  have HNB0 := hide hnb0
  clear hM5 hC5 hG5 hB5 hd5 HBN hs5 hnb hn6 hn5 hnb0
  have HX6 := hide hx6
  have HD6 := hide hd6
  clear hx6 hd6
  go_wp2_with fail
  go_loopw [33] (fun i wr => ∃ k : Nat, k ≤ n ∧ i = .int .i64 k ∧ Fr2 w6.heap.size (b0 + 1 + 1) (b0 + 1 + 1 + 1) w6 wr ∧ MpII wr (b0 + 1 + 1) k (goneM l k).1 ∧ MpIB wr (b0 + 1 + 1 + 1) k (goneM l k).2) (fun i _ => n - (intOf i).toNat)
  case atStart => exact ⟨0, Nat.zero_le _, rfl, Fr2.refl _ _ _ _, hG6.out, hB6.out⟩
  case round =>
    obtain ⟨k, hk, rfl, hF, hG, hB⟩ := hrel
    have hnx : Nx w wr := hF.toNx HX6.out (by rw [HB0.out]; omega) (by rw [HB0.out]; omega) HX6.out.sz
    by_cases hlt : k < n
    · have hlt' : k < l.length := by have := HN.out; omega
      have hx : l[k]? = some l[k] := List.getElem?_eq_getElem hlt'
      obtain ⟨b, off, rfl, _, hb, hbr, hc⟩ := HR.out.open_ hnx (by omega)
      obtain ⟨c0, c1, c2, c3, c4, c5, c6, c7, c8, c9, c10⟩ := ev_cells (hc k hlt')
      have hokx := HOK.out l[k] (List.getElem_mem hlt')
      have hkinds : ∀ t y, l[t]? = some y → wr.cell? ⟨b, off + t * 11 + 3, none⟩ = some (.int .i64 y.kind) := by
        intro t y hy
        obtain ⟨ht, ey⟩ := List.getElem?_eq_some_iff.1 hy
        exact hc t ht 3 (.int .i64 y.kind) (by rw [ey]; rfl)
      clear hc
      generalize l[k] = x at *
      have hfr := hF.size
      have hnames : MpNI wr nb n (evNamesF l l.length) := by
        rw [← HN.out]; exact hN6.out.same (hF.block nb (by omega) (by have := HNB0.out; omega) (by have := HNB0.out; omega))
      have hl1 := look_name (hnames.nx ((Nx.refl wr).alloc (.cells (evA x) 31 (0, 0)))) (by have := hokx.from_; unfold maxLen; omega : x.from_.size ≤ maxLen) (wf_15 hokx.number)
      rw [show evNamesF l l.length ⟨x.from_, x.number⟩ = (tgtF l x.from_ x.number).map (fun i : Nat => (i : Int)) from nameM_tgt HEV.out x.from_ x.number] at hl1
      have hdr : wr.heap[b0 + 1 + 1 + 1 + 1]? = some (dayO (some ⟨b, off, none⟩) n c b0 (b0 + 1) (b0 + 1 + 1) (b0 + 1 + 1 + 1) (.slice none 0 0) .nilFunc) := hF.at_ (by have := HNB0.out; omega) (by omega) (by omega) HD6.out
      obtain ⟨d0, d1, d2, d3, d4, d5, d6⟩ := day_cells hdr
      have hds := (Array.getElem?_eq_some_iff.1 hdr).1
      unfold evA at hl1
      have HF := hide hF
      have HG := hide hG
      have HB := hide hB
      have HXK := hide hx
      have HOX := hide hokx
      have HNX := hide hnx
      have HKI := hide hkinds
      clear hF hG hB hx hokx hnx hkinds hnames hdr d0 d1 d2 d3 d6
      obtain ⟨so, no, at_, ki, ri, ca, nd, up, dn, fo, nu⟩ := x
      simp only at c0 c1 c2 c3 c4 c5 c6 c7 c8 c9 c10 hl1
      have hsz6 : w6.heap.size ≤ wr.heap.size := hfr
      obtain ⟨wa, hwa⟩ : ∃ wa, wa = wr.alloc (.cells #[.string so, .int .i64 no, .int .i64 at_, .int .i64 ki, .string ri, .string ca, .string nd, .int .i64 up, .int .i64 dn, .string fo, .int .i64 nu] 31 (0, 0)) := ⟨_, rfl⟩
      have HWA := hide hwa
      have hna : Nx wr wa := hwa ▸ (Nx.refl wr).alloc _
      have hFa := hide (HF.out.trans (Fr2.nx hna hsz6))
      have hGa := hide (HG.out.nx hna)
      have hBa := hide (HB.out.nx hna)
      have hq : (ki != 9) = true ∨ ki = 9 := by simp; omega
      rcases hq with hq | rfl
      · have hg := hide (goneM_keep HXK.out (.inl (by simpa using hq)))
        clear hwa hna
        go_wp2_with fail
        rw [← HWA.out]
        go_roundw
        case rel => exact ⟨k + 1, by omega, by go_num, hFa.out, by rw [hg.out]; exact hGa.out.mono (Nat.le_succ _), by rw [hg.out]; exact hBa.out.mono (Nat.le_succ _)⟩
        case measure => simp [intOf]; omega
      · cases ht : tgtF l fo nu with
        | none =>
          have hg := hide (goneM_keep HXK.out (.inr (.inl ht)))
          rw [ht] at hl1
          simp only [Option.map_none, Option.getD_none, Option.isSome_none] at hl1
          clear hwa hna ht
          go_wp2_with fail
          rw [← HWA.out]
          go_roundw
          case rel => exact ⟨k + 1, by omega, by go_num, hFa.out, by rw [hg.out]; exact hGa.out.mono (Nat.le_succ _), by rw [hg.out]; exact hBa.out.mono (Nat.le_succ _)⟩
          case measure => simp [intOf]; omega
        | some t =>
          obtain ⟨y, hy, _, _⟩ := tgt_some ht
          have htl : t < n := by have := (List.getElem?_eq_some_iff.1 hy).1; have := HN.out; omega
          have ck := HKI.out t y hy
          have hka := kindAt_some hy
          rw [ht] at hl1
          simp only [Option.map_some, Option.getD_some, Option.isSome_some] at hl1
          have hlg := look_gone hGa.out (z := (t : Int)) (domI_nat (by omega))
          rw [hwa] at hlg
          obtain ⟨kk, hkk⟩ : ∃ kk, kk = y.kind := ⟨_, rfl⟩
          rw [← hkk] at ck hka
          have HT := hide ht
          have HKA := hide hka
          clear ht hka hy hkk
          have hq : kk = 9 ∨ (kk == 9) = false := by simp; omega
          rcases hq with rfl | hq
          · have hg := hide (goneM_keep HXK.out (.inr (.inr ⟨t, HT.out, .inl HKA.out⟩)))
            clear hwa hna hlg
            go_wp2_with fail
            rw [← HWA.out]
            go_roundw
            case rel => exact ⟨k + 1, by omega, by go_num, hFa.out, by rw [hg.out]; exact hGa.out.mono (Nat.le_succ _), by rw [hg.out]; exact hBa.out.mono (Nat.le_succ _)⟩
            case measure => simp [intOf]; omega
          · have hk9 := hide (show kindAt l t ≠ 9 by rw [HKA.out]; simpa using hq)
            cases hgo : (goneM l k).1 (t : Int) with
            | some z =>
              have hg := hide (goneM_keep HXK.out (.inr (.inr ⟨t, HT.out, .inr (by rw [hgo]; rfl)⟩)))
              rw [hgo] at hlg
              simp only [Option.getD_some, Option.isSome_some] at hlg
              clear hwa hna hgo
              go_wp2_with fail
              rw [← HWA.out]
              go_roundw
              case rel => exact ⟨k + 1, by omega, by go_num, hFa.out, by rw [hg.out]; exact hGa.out.mono (Nat.le_succ _), by rw [hg.out]; exact hBa.out.mono (Nat.le_succ _)⟩
              case measure => simp [intOf]; omega
            | none =>
              have hg := hide (goneM_add HXK.out rfl HT.out hk9.out (by rw [hgo]; rfl))
              rw [hgo] at hlg
              simp only [Option.getD_none, Option.isSome_none] at hlg
              obtain ⟨es1, cl1, hgm⟩ := mg_obj hGa.out
              have HGM := hide hgm
              have HNA := hide hna
              clear hwa hna hgo hgm
              go_upto_region 10 with fail
              rw [← HWA.out]
              have e4 : wa.cell? ⟨b0 + 1 + 1 + 1 + 1, 4, none⟩ = some (.map (some (b0 + 1 + 1))) := nx_cell HNA.out hds d4
              have e5 : wa.cell? ⟨b0 + 1 + 1 + 1 + 1, 5, none⟩ = some (.map (some (b0 + 1 + 1 + 1))) := nx_cell HNA.out hds d5
              go_wp2_with (first
                | (at_mapUpdate; refine wpMgPut _ rfl _ _ _ _ rfl intE law_intE intV_inj Tryz.underlying88 (b0 + 1 + 1) k _ rfl hGa.out (by unfold maxLen; omega) (t : Int) rfl (domI_nat (by omega)) _ (key_int (domI_nat (by omega))) (k : Int) rfl (domI_nat (by omega)) ?_; intro w7 hG7 hg7; (have f5 := World.grownBy.cell hg7 e5 (by simp; omega)); (have HG7 := hide hG7); (have hB7 := hide (hBa.out.gr hg7 (by omega))); (have hF7 := hide (hFa.out.trans (Fr2.grMap hg7 (.inl rfl) (Nat.le_trans hsz6 HNA.out.sz) HGM.out))); (have HGG := hide hg7); clear hG7 hg7)
                | (at_mapUpdate; refine wpMgPut _ rfl _ _ _ _ rfl boolE law_intE intV_inj Tryz.underlying89 (b0 + 1 + 1 + 1) k _ rfl hB7.out (by unfold maxLen; omega) (k : Int) rfl (domI_nat (by omega)) _ (key_int (domI_nat (by omega))) true rfl trivial ?_; intro w8 hB8 hg8; (have HB8 := hide hB8); clear hB8))
              go_roundw
              case rel =>
                obtain ⟨es2, cl2, hbm⟩ := mg_obj hB7.out
                refine ⟨k + 1, by omega, by go_num, hF7.out.trans (Fr2.grMap hg8 (.inr (.inl rfl)) (Nat.le_trans (Nat.le_trans hsz6 HNA.out.sz) (World.grownBy.size HGG.out)) hbm), ?_, ?_⟩
                · rw [hg.out]; exact HG7.out.gr hg8 (by omega)
                · rw [hg.out]; exact HB8.out
              case measure => simp [intOf]; omega
    · obtain rfl : k = n := by omega
      have hfr := hF.size
      have HNL := hide hN6
      have hP := hide (show FolP w wr.heap.size (b0 + 1 + 1 + 1 + 1) b0 (b0 + 1) (b0 + 1 + 1) (b0 + 1 + 1 + 1) nb by
        have h0 := HB0.out
        have h1 := HNB0.out
        exact ⟨by omega, by omega, by omega, by omega, by omega, by omega⟩)
      have hD0 : DayW wr wr.heap.size b0 (b0 + 1) 0 dayP0 (fun _ => none) (fun _ => none) (fun _ => 0) := by
        have h1 := HNB0.out
        refine ⟨⟨hM6.out.same (hF.block b0 (by omega) (by omega) (by omega)), fun _ _ => rfl, fun _ _ h => (by cases h), fun _ _ _ h => (by cases h)⟩, ⟨hC6.out.same (hF.block (b0 + 1) (by omega) (by omega) (by omega)), fun _ _ => rfl, fun _ _ h => (by cases h), fun _ _ _ h => (by cases h), fun _ _ h => (by cases h)⟩, by omega, by omega, by omega, Nat.le_refl _⟩
      have hRR := hide (show FolR w wr wr.heap.size (b0 + 1 + 1 + 1 + 1) b0 (b0 + 1) (b0 + 1 + 1) (b0 + 1 + 1 + 1) nb (4 * 0) c A l .nilFunc (.slice none 0 0) (runP l until_ 0) (refP l until_ 0) (fun _ => none) (fun _ => none) (fun _ => 0) from by
        have h1 := HNB0.out
        refine ⟨hD0, ?_, World.ownsRow_nil _ _ _ _, ?_, by rw [← HN.out]; exact hG, by rw [← HN.out]; exact hB, hnx⟩
        · rw [← HN.out]; exact hF.at_ (by omega) (by omega) (by omega) HD6.out
        · rw [← HN.out]; exact hN6.out.same (hF.block nb (by omega) (by omega) (by omega)))
      obtain ⟨lo, hlo⟩ : ∃ lo, lo = wr.heap.size := ⟨_, rfl⟩
      rw [← hlo] at hP hRR
      clear hF hG hB hD0 hfr hnx hM6 hC6 hG6 hB6 HD6 HX6 hs6 hlo
      go_wp2_with fail
      go_loopw [88] (fun i wr => ∃ (k2 : Nat) (rv : Value) (fr fc : ByteArray → Option (Option Nat)) (fm : ByteArray → Nat), k2 ≤ k ∧ i = .int .i64 k2 ∧ FolR w wr lo (b0 + 1 + 1 + 1 + 1) b0 (b0 + 1) (b0 + 1 + 1) (b0 + 1 + 1 + 1) nb (4 * k2) c A l .nilFunc rv (runP l until_ k2) (refP l until_ k2) fr fc fm) (fun i _ => k - (intOf i).toNat)
      case atStart => exact ⟨0, _, _, _, _, Nat.zero_le _, rfl, hRR.out⟩
      case round =>
        obtain ⟨k2, rv, fr, fc, fm, hk2, rfl, hRr⟩ := hrel
        clear hRR
        by_cases hlt2 : k2 < k
        · have hlt' : k2 < l.length := by have := HN.out; omega
          have hx : l[k2]? = some l[k2] := List.getElem?_eq_getElem hlt'
          obtain ⟨b, off, rfl, _, hb, hbr, hc⟩ := HR.out.open_ hRr.nx (by omega)
          obtain ⟨c0, c1, c2, c3, c4, c5, c6, c7, c8, c9, c10⟩ := ev_cells (hc k2 hlt')
          clear hc
          generalize l[k2] = x at *
          obtain ⟨wa, hwa⟩ : ∃ wa, wa = wr.alloc (.cells (evA x) 31 (0, 0)) := ⟨_, rfl⟩
          have hna : Nx wr wa := hwa ▸ (Nx.refl wr).alloc _
          have hRa := hRr.nxt hna
          have hba : wa.heap[wr.heap.size]? = some (.cells (evA x) 31 (0, 0)) := by rw [hwa]; exact heap_alloc_new wr _
          have hst := w_step (b0 + 1 + 1 + 1 + 1) lo b0 (b0 + 1) (4 * k2) lo2 nb (b0 + 1 + 1 + 1) l.length l.length c k2 (some ⟨b, off, none⟩) l (runP l until_ k2) fr fc fm x wa hRa.day (hRa.ctx HR.out) (by have := hP.out.hd; omega) (by omega) (by omega) (by omega) (by have := HL.out; omega) HEV.out hx
          have hlg := look_gone hRa.gone (z := (k2 : Int)) (domI_nat (by omega))
          rw [show ((goneM l l.length).1 (k2 : Int)).isSome = goneB l k2 from goneM_gone l k2] at hlg
          obtain ⟨gz, hgz⟩ : ∃ gz, gz = ((goneM l l.length).1 (k2 : Int)).getD 0 := ⟨_, rfl⟩
          rw [← hgz] at hlg
          obtain ⟨d0, d1, d2, d3, d4, d5, d6⟩ := day_cells hRr.blk
          have hds := (Array.getElem?_eq_some_iff.1 hRr.blk).1
          have hgs : goneB l k2 = true ∨ goneB l k2 = false := by cases goneB l k2 <;> simp
          have hsk := fun h => run_skip (u := until_) hx h
          have hsp := fun h => run_step (u := until_) hx h
          obtain ⟨so, no, at_, ki, ri, ca, nd, up, dn, fo, nu⟩ := x
          unfold evA at hwa hst
          simp only at c0 c1 c2 c3 c4 c5 c6 c7 c8 c9 c10 hsk hsp hwa hst
          have HRA := hide hRa
          have HST := hide hst
          have HSP := hide hsp
          have HSK := hide hsk
          have HBA := hide hba
          have HNA := hide hna
          rw [hwa] at hlg
          have HWA := hide hwa
          clear hRr hRa hst hsp hsk hba hna hwa hx hgz d0 d1 d2 d5
          rcases hgs with hgs | hgs
          · have hk3 := hide (HSK.out (.inl hgs))
            rw [hgs] at hlg
            clear hgs
            go_wp2_with fail
            rw [← HWA.out]
            go_roundw
            case rel => exact ⟨k2 + 1, rv, fr, fc, fm, by omega, by go_num, by rw [hk3.out.1, hk3.out.2]; exact ⟨HRA.out.day.mono (by omega), HRA.out.blk, HRA.out.row, HRA.out.names, HRA.out.gone, HRA.out.back, HRA.out.nx⟩⟩
            case measure => simp [intOf]; omega
          · have HGS := hide hgs
            rw [hgs] at hlg
            clear hgs
            by_cases hat : until_ < at_
            · have hk3 := hide (HSK.out (.inr hat))
              go_wp2_with fail
              rw [← HWA.out]
              go_roundw
              case rel => exact ⟨k2 + 1, rv, fr, fc, fm, by omega, by go_num, by rw [hk3.out.1, hk3.out.2]; exact ⟨HRA.out.day.mono (by omega), HRA.out.blk, HRA.out.row, HRA.out.names, HRA.out.gone, HRA.out.back, HRA.out.nx⟩⟩
              case measure => simp [intOf]; omega
            · have hk3 := hide (HSP.out (by rw [HGS.out]; simpa using hat))
              go_upto_region 18 with fail
              rw [← HWA.out]
              have a0 := cell_of_row wa _ 0 _ _ _ HBA.out
              have a1 := cell_of_row wa _ 1 _ _ _ HBA.out
              have a2 := cell_of_row wa _ 2 _ _ _ HBA.out
              have a3 := cell_of_row wa _ 3 _ _ _ HBA.out
              have a4 := cell_of_row wa _ 4 _ _ _ HBA.out
              have a5 := cell_of_row wa _ 5 _ _ _ HBA.out
              have a6 := cell_of_row wa _ 6 _ _ _ HBA.out
              have a7 := cell_of_row wa _ 7 _ _ _ HBA.out
              have a8 := cell_of_row wa _ 8 _ _ _ HBA.out
              have a9 := cell_of_row wa _ 9 _ _ _ HBA.out
              have a10 := cell_of_row wa _ 10 _ _ _ HBA.out
              simp [evA] at a0 a1 a2 a3 a4 a5 a6 a7 a8 a9 a10
              clear c0 c1 c2 c3 c4 c5 c6 c7 c8 c9 c10 d3 d4 d6 hlg
              go_wp2_with fail
              refine HST.out.mono ?_
              rintro e w8 ⟨A8, n8, c8, rfl, ⟨fr8, fc8, fm8, hD8⟩, hF8⟩
              have HR8 := hide (HRA.out.step hP.out hF8 hD8)
              obtain ⟨why, hwhy⟩ : ∃ why, why = (stepA l k2 (runP l until_ k2) ⟨so, no, at_, ki, ri, ca, nd, up, dn, fo, nu⟩).2 := ⟨_, rfl⟩
              rw [← hwhy] at hk3 ⊢
              clear hwhy hD8 hF8 HRA HST HSP HSK a0 a1 a2 a3 a4 a5 a6 a7 a8 a9 a10
              obtain ⟨_, _, _, d3, _, _, d6⟩ := day_cells HR8.out.blk
              have hq : why = 0 ∨ (why != 0) = true := by simp; omega
              rcases hq with rfl | hq
              · go_wp2_with fail
                go_roundw
                case rel =>
                  have hr := HR8.out
                  refine ⟨k2 + 1, rv, fr8, fc8, fm8, by omega, by go_num, ?_⟩
                  rw [hk3.out.1, hk3.out.2, if_pos (by trivial)]
                  exact ⟨hr.day.mono (by omega), hr.blk, hr.row, hr.names, hr.gone, hr.back, hr.nx⟩
                case measure => simp [intOf]; omega
              · have hq2 := hide (show ¬ why = 0 by simpa using hq)
                have hrl := refP_len l until_ k2
                obtain ⟨rs, hrs⟩ : ∃ rs, rs = refP l until_ k2 := ⟨_, rfl⟩
                rw [← hrs] at HR8 hrl hk3
                obtain ⟨rs2, hrs2⟩ : ∃ rs2, rs2 = rs ++ [((k2 : Int), why)] := ⟨_, rfl⟩
                have HRS := hide hrs
                have HRS2 := hide hrs2
                have hfz : w8.frozen? ⟨b0 + 1 + 1 + 1 + 1, 3, none⟩ = false := by simp [World.frozen?, HR8.out.blk, dayO]
                clear hrs hrs2
                have hds8 := (Array.getElem?_eq_some_iff.1 HR8.out.blk).1
                have hz8 : w.heap.size ≤ w8.heap.size := HR8.out.nx.sz
                go_wp2_with (first | (at_builtin; refine wpApp rfl _ _ _ rfl el_Ref encRef encRef_len encRef_one (by omega) (by omega) w.heap.size _ rs rfl (HR8.out.row.alloc _) _ ((k2 : Int), why) _ rfl (hnew (by simp)) rfl (by omega) (by simp; omega) ?_; intro v9 w9 hown9 hg9; obtain ⟨A9, c9, e9, _, _⟩ := Rd.of_own encRef_len rfl hown9; subst e9; (have hb9 := HR8.out.appBlk hg9); (have f9 := day_frz hb9); (have g9 := (day_cells hb9).2.2.2.1); (have HG9 := hide hg9); (have HO9 := hide hown9); (have HB9 := hide hb9); clear hg9 hown9 hb9))
                go_roundw
                case rel =>
                  rw [show rs.length + 1 = (rs ++ [((k2 : Int), why)]).length by simp]
                  have hb10 : (w9.setCell ⟨b0 + 1 + 1 + 1 + 1, 3, none⟩ (.slice A9 (rs ++ [((k2 : Int), why)]).length c9)).heap[b0 + 1 + 1 + 1 + 1]? = some (dayO (some ⟨b, off, none⟩) l.length c b0 (b0 + 1) (b0 + 1 + 1) (b0 + 1 + 1 + 1) (.slice A9 (rs ++ [((k2 : Int), why)]).length c9) .nilFunc) := heap_set HB9.out
                  have hg10 : Gr (b0 + 1 + 1 + 1 + 1) w9 (w9.setCell ⟨b0 + 1 + 1 + 1 + 1, 3, none⟩ (.slice A9 (rs ++ [((k2 : Int), why)]).length c9)) := (Gr.refl _ _).setS (.inl rfl) _
                  have hp9 := FolR.push HR8.out hP.out HG9.out HO9.out hg10 hb10
                  refine ⟨k2 + 1, .slice A9 (rs ++ [((k2 : Int), why)]).length c9, fr8, fc8, fm8, by omega, by go_num, ?_⟩
                  rw [hk3.out.1, hk3.out.2, if_neg hq2.out]
                  exact ⟨hp9.day.mono (by omega), hp9.blk, hp9.row, hp9.names, hp9.gone, hp9.back, hp9.nx⟩
                case measure => simp [intOf]; omega
        · obtain rfl : k2 = k := by omega
          have HRr := hide hRr
          clear hRr
          go_wp2_with fail
          go_ret
          have h0 := HB0.out
          have h1 := HNB0.out
          have hp := hP.out
          have hr := HRr.out
          rw [HN.out] at hr
          exact ⟨lo, _, _, _, _, _, rv, fr, fc, fm, rfl, hr.day, hr.blk, hr.row, hr.gone, by have := hp.hd; omega, by omega, by omega, by omega, by omega, hr.nx⟩
end Go.Proofs.YtfkmbeppckelfaaGreatDoor
