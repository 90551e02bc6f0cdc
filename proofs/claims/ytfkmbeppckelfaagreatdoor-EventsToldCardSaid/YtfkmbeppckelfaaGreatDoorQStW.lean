/- The stream's events. -/
import Derived.Test.YtfkmbeppckelfaaGreatDoorQStX
import Derived.Test.YtfkmbeppckelfaaGreatDoorQG38
import Derived.Deep.RegionHeld
namespace Go.Proofs.YtfkmbeppckelfaaGreatDoor
open Go.RowKit Go.Maps

/-- A row's element as an event's cells. -/
def BoxR (base g cap n : Nat) (W : World) : Prop := ∃ l : List Ev, l.length = n ∧ (∀ x ∈ l, okEv x) ∧ W.ownsRow base 31 11 (.slice (some ⟨g, 0, none⟩) n cap) n (l.flatMap encEvt)
theorem ok_set {l : List Ev} {x : Ev} (h : ∀ y ∈ l, okEv y) (hx : okEv x) (q : Nat) : ∀ y ∈ l.set q x, okEv y := by
  intro y hy
  rcases List.mem_or_eq_of_mem_set hy with h1 | h1
  · exact h y h1
  · exact h1 ▸ hx
theorem boxR_ev (base g cap n q : Nat) (hq : q < n) : EvBox g (q * 11) (BoxR base g cap n) where
  get w h := by
    obtain ⟨l, hl, hok, ho⟩ := h
    exact ⟨l[q]'(by omega), hok _ (List.getElem_mem _), fun j u hu => own_cell encEvt_len hl ho q (by omega) j u hu⟩
  frz w j h := by
    obtain ⟨l, hl, hok, ho⟩ := h
    obtain ⟨cur, hb⟩ := own_cells ho rfl
    simp [World.frozen?, hb]
  lt w h := by
    obtain ⟨l, hl, hok, ho⟩ := h
    exact (ho.lt g rfl).2
  setS w j t h hj ht := by
    obtain ⟨l, hl, hok, ho⟩ := h
    have hq' : q < l.length := by omega
    have ho' := hok _ (List.getElem_mem hq')
    obtain ⟨y, hy⟩ : ∃ y, y = l[q] := ⟨_, rfl⟩
    rw [← hy] at ho'
    rcases hj with rfl | rfl | rfl | rfl | rfl
    · exact ⟨l.set q { y with source := t }, by simp [hl], ok_set (x := { y with source := t }) hok ⟨ht, ho'.ride, ho'.car, ho'.node, ho'.from_, ho'.no, ho'.at_, ho'.kind, ho'.up, ho'.down, ho'.number⟩ q, own_set encEvt_len hl ho q hq' 0 (by omega) _ _ (by rw [← hy]; rfl) _ rfl⟩
    · exact ⟨l.set q { y with ride := t }, by simp [hl], ok_set (x := { y with ride := t }) hok ⟨ho'.source, ht, ho'.car, ho'.node, ho'.from_, ho'.no, ho'.at_, ho'.kind, ho'.up, ho'.down, ho'.number⟩ q, own_set encEvt_len hl ho q hq' 4 (by omega) _ _ (by rw [← hy]; rfl) _ rfl⟩
    · exact ⟨l.set q { y with car := t }, by simp [hl], ok_set (x := { y with car := t }) hok ⟨ho'.source, ho'.ride, ht, ho'.node, ho'.from_, ho'.no, ho'.at_, ho'.kind, ho'.up, ho'.down, ho'.number⟩ q, own_set encEvt_len hl ho q hq' 5 (by omega) _ _ (by rw [← hy]; rfl) _ rfl⟩
    · exact ⟨l.set q { y with node := t }, by simp [hl], ok_set (x := { y with node := t }) hok ⟨ho'.source, ho'.ride, ho'.car, ht, ho'.from_, ho'.no, ho'.at_, ho'.kind, ho'.up, ho'.down, ho'.number⟩ q, own_set encEvt_len hl ho q hq' 6 (by omega) _ _ (by rw [← hy]; rfl) _ rfl⟩
    · exact ⟨l.set q { y with from_ := t }, by simp [hl], ok_set (x := { y with from_ := t }) hok ⟨ho'.source, ho'.ride, ho'.car, ho'.node, ht, ho'.no, ho'.at_, ho'.kind, ho'.up, ho'.down, ho'.number⟩ q, own_set encEvt_len hl ho q hq' 9 (by omega) _ _ (by rw [← hy]; rfl) _ rfl⟩
  setI w j z h hj hz := by
    obtain ⟨l, hl, hok, ho⟩ := h
    have hq' : q < l.length := by omega
    have ho' := hok _ (List.getElem_mem hq')
    obtain ⟨y, hy⟩ : ∃ y, y = l[q] := ⟨_, rfl⟩
    rw [← hy] at ho'
    rcases hj with rfl | rfl | rfl | rfl | rfl | rfl
    · exact ⟨l.set q { y with no := z }, by simp [hl], ok_set (x := { y with no := z }) hok ⟨ho'.source, ho'.ride, ho'.car, ho'.node, ho'.from_, hz, ho'.at_, ho'.kind, ho'.up, ho'.down, ho'.number⟩ q, own_set encEvt_len hl ho q hq' 1 (by omega) _ _ (by rw [← hy]; rfl) _ rfl⟩
    · exact ⟨l.set q { y with at_ := z }, by simp [hl], ok_set (x := { y with at_ := z }) hok ⟨ho'.source, ho'.ride, ho'.car, ho'.node, ho'.from_, ho'.no, hz, ho'.kind, ho'.up, ho'.down, ho'.number⟩ q, own_set encEvt_len hl ho q hq' 2 (by omega) _ _ (by rw [← hy]; rfl) _ rfl⟩
    · exact ⟨l.set q { y with kind := z }, by simp [hl], ok_set (x := { y with kind := z }) hok ⟨ho'.source, ho'.ride, ho'.car, ho'.node, ho'.from_, ho'.no, ho'.at_, hz, ho'.up, ho'.down, ho'.number⟩ q, own_set encEvt_len hl ho q hq' 3 (by omega) _ _ (by rw [← hy]; rfl) _ rfl⟩
    · exact ⟨l.set q { y with up := z }, by simp [hl], ok_set (x := { y with up := z }) hok ⟨ho'.source, ho'.ride, ho'.car, ho'.node, ho'.from_, ho'.no, ho'.at_, ho'.kind, hz, ho'.down, ho'.number⟩ q, own_set encEvt_len hl ho q hq' 7 (by omega) _ _ (by rw [← hy]; rfl) _ rfl⟩
    · exact ⟨l.set q { y with down := z }, by simp [hl], ok_set (x := { y with down := z }) hok ⟨ho'.source, ho'.ride, ho'.car, ho'.node, ho'.from_, ho'.no, ho'.at_, ho'.kind, ho'.up, hz, ho'.number⟩ q, own_set encEvt_len hl ho q hq' 8 (by omega) _ _ (by rw [← hy]; rfl) _ rfl⟩
    · exact ⟨l.set q { y with number := z }, by simp [hl], ok_set (x := { y with number := z }) hok ⟨ho'.source, ho'.ride, ho'.car, ho'.node, ho'.from_, ho'.no, ho'.at_, ho'.kind, ho'.up, ho'.down, hz⟩ q, own_set encEvt_len hl ho q hq' 10 (by omega) _ _ (by rw [← hy]; rfl) _ rfl⟩
  same w w' h e hs := by
    obtain ⟨l, hl, hok, ho⟩ := h
    exact ⟨l, hl, hok, own_same ho hs (fun k o e1 e2 => by injection e1 with e1; subst e1; exact e.trans e2)⟩
/-- Events of the stream's. -/
def EvsOut (many : Nat) (s k : Nat) (w : World) (e : Ending) (w' : World) : Prop :=
  ∃ (B : Option Addr) (c : Nat) (l : List Ev), e = .returned (.slice B l.length c) ∧ Rd w' w.heap.size B 11 encEvt l ∧ l.length ≤ many ∧ l.length ≤ c ∧ (∀ x ∈ l, okEv x) ∧ Gr s w w' ∧ Str w' s (k + 20000)
theorem EvBox.gr0 {b off s : Nat} {B : World → Prop} {w w' : World} (E : EvBox b off B) (h : B w) (hg : Gr s w w') (hb : s < b) : B w' :=
  E.same _ _ h (hg.block b (E.lt _ h) (by intro e; injection e with e; omega)) hg.sz
theorem evsout_of {many s k base g c n : Nat} {w w' : World} (hb : w.heap.size ≤ base) (h : BoxR base g c n w') (hg : Gr s w w') (hS : Str w' s (k + 20000)) (hn : n ≤ many) :
    EvsOut many s k w (.returned (.slice (some ⟨g, 0, none⟩) n c)) w' := by
  obtain ⟨l, rfl, hok, ho⟩ := h
  obtain ⟨A, c', ev, hc, hR, _⟩ := own_rd encEvt_len ho
  injection ev with e1 e2 e3
  subst e1 e3
  exact ⟨_, c, l, rfl, hR.low hb, hn, hc, hok, hg, hS⟩
set_option maxRecDepth 100000 in
set_option maxHeartbeats 16000000 in
theorem w_Events (many s k : Nat) (w : World) (hm : many ≤ 40) (hS : Str w s k) (hk : k < 600000) :
    Calls Tryz.prog 8 #[.pointer (some ⟨s, 0, none⟩), .int .i64 (many : Int)] w (EvsOut many s k w) := by
  have hmm := @run_makeMap Tryz.prog
  have hsw := hS.lt
  have hM0 : MpSI (w.alloc (.map #[] 0)) w.heap.size 0 (fun _ => none) := MgI.made w
  have HM0 := hide hM0
  clear hM0
  go_enter Tryz.func8, Tryz.ntmps8
  go_wp2_with fail
  refine (w_Next 10 s _ _ (hS.nx ((Nx.refl w).alloc _)) (by omega) (by omega)).mono ?_
  rintro e w2 ⟨z0, hz1, hz2, rfl, hg2, hS2⟩
  obtain ⟨mb, hmb⟩ : ∃ mb, mb = w.heap.size := ⟨_, rfl⟩
  have hgw2 : Gr s w w2 := (Gr.of_nx ((Nx.refl w).alloc _)).trans hg2
  have hM2 := HM0.out.gr hg2 (by omega)
  rw [← hmb] at hM2
  rw [← hmb]
  have HM2 := hide hM2
  have HGW2 := hide hgw2
  have HMB := hide (show mb = w.heap.size ∧ mb < w2.heap.size from ⟨hmb, hM2.lt⟩)
  clear hM2 hgw2 hg2 hmb
  go_wp2_with fail
  go_loopw [5, 7, 8, 9, 15] (fun v az _ _ i wr => ∃ (n : Nat) (z : Int) (l : List Ev) (f : ByteArray → Option Int), n ≤ many ∧ i = .int .i64 n ∧ az = .int .i64 z ∧ 0 ≤ z ∧ z ≤ 10 + 20 * n ∧ l.length = n ∧ (∀ x ∈ l, okEv x) ∧ wr.ownsRow w2.heap.size 31 11 v l.length (l.flatMap encEvt) ∧ MpSI wr mb n f ∧ (∀ j z, f j = some z → 0 ≤ z ∧ z ≤ n) ∧ w2.heap.size ≤ wr.heap.size ∧ Str wr s (k + 1 + 410 * n) ∧ Gr s w wr) (fun _ _ _ _ i _ => many - (intOf i).toNat)
  case atStart =>
    exact ⟨0, z0, [], fun _ => none, Nat.zero_le _, rfl, rfl, hz1, by omega, rfl, fun x hx => by simp at hx, World.ownsRow_nil _ _ _ _, HM2.out, fun j z h => by simp at h, Nat.le_refl _, hS2, HGW2.out⟩
  case round =>
    obtain ⟨n, z, l, f, hn, rfl, rfl, hz3, hz4, hln, hok, hown, hM, hf, hws, hSr, hgw⟩ := hrel
    have HM := hide hM
    have HOK := hide hok
    have HF := hide hf
    have HLN := hide hln
    have HGW := hide hgw
    by_cases hlt : n < many
    · obtain ⟨A, c, rfl, hcap, hRd, hA⟩ := own_rd encEvt_len hown
      have HOW := hide (show wr.ownsRow w2.heap.size 31 11 (.slice A n c) l.length (l.flatMap encEvt) by
        rw [← hln]; exact hown)
      have HAB := hide hA
      have HEV := hide (w_event w2.heap.size A c l z s (k + 1 + 410 * n) wr hRd (by have := HMB.out; omega) (by omega) hcap hok (by omega) hSr (by omega))
      rw [hln] at HEV
      rw [hln]
      clear hok hown hRd hln hM hf hgw
      go_wp2_with fail
      refine HEV.out.mono ?_
      rintro e w5 ⟨x, rfl, hxo, hg5, hS5⟩
      obtain ⟨xso, xno, xat, xki, xri, xca, xnd, xup, xdn, xfo, xnu⟩ := x
      unfold evA
      obtain ⟨w6, hw6⟩ : ∃ w6, w6 = w5.alloc (.cells #[.string xso, .int .i64 xno, .int .i64 xat, .int .i64 xki, .string xri, .string xca, .string xnd, .int .i64 xup, .int .i64 xdn, .string xfo, .int .i64 xnu] 31 (0, 0)) := ⟨_, rfl⟩
      obtain ⟨g8, hg8⟩ : ∃ g8, g8 = w5.heap.size := ⟨_, rfl⟩
      have hn6 : Nx w5 w6 := hw6 ▸ (Nx.refl w5).alloc _
      have hB6 : w6.heap[g8]? = some (.cells #[.string xso, .int .i64 xno, .int .i64 xat, .int .i64 xki, .string xri, .string xca, .string xnd, .int .i64 xup, .int .i64 xdn, .string xfo, .int .i64 xnu] 31 (0, 0)) := by rw [hw6, hg8]; exact heap_alloc_new w5 _
      have HXO := hide hxo
      have HG6 := hide (hg5.trans (Gr.of_nx hn6))
      have HS6 := hide (hS5.nx hn6)
      have HB6 := hide hB6
      have hgl6 := (Array.getElem?_eq_some_iff.1 hB6).1
      have hs8 : s < g8 := by have := hS5.lt; omega
      have HG8 := hide (show wr.heap.size ≤ g8 by have := hg5.sz; omega)
      clear hB6 hn6 hg5 hS5 hxo
      go_upto_region 7 with fail
      rw [← hw6, ← hg8]
      clear hw6 hg8
      go_upto_region 8 with (go_at_call 40; refine (w_Some _ [⟨#[115, 97]⟩, ⟨#[115, 97]⟩, ⟨#[115, 98]⟩] _ s _ _ (HS6.out.nx ((Nx.refl _).alloc _)) (by omega) (hnew rfl) (by have := HS6.out.lt; omega) rfl (by simp) (by simp)).mono ?_; rintro e w7 ⟨so, hm7, rfl, hg7, hs7⟩; (have hz7 : so.size ≤ 1000 := by { simp only [List.mem_cons, List.not_mem_nil, or_false] at hm7; rcases hm7 with rfl | rfl | rfl <;> decide }); (have hgA7 := hide ((Gr.of_nx ((Nx.refl _).alloc _)).trans hg7)); (have hB7 := hide ((hgA7.out.block g8 hgl6 (by intro e; injection e with e; omega)).trans HB6.out)); (obtain ⟨d0, d1, d2, d3, d4, d5, d6, d7, d8, d9, d10⟩ := evb_cells hB7.out); (have zz7 : ∀ i, w7.frozen? ⟨g8, i, none⟩ = false := fun i => by { simp [World.frozen?, hB7.out] }); (have hbl7 := (Array.getElem?_eq_some_iff.1 hB7.out).1); (have HS7 := hide hs7); clear hm7 hg7 hs7)
      obtain ⟨w8, hw8⟩ : ∃ w8, w8 = (w7.setCell ⟨g8, 0, none⟩ (.string so)).setCell ⟨g8, 2, none⟩ (.int .i64 z) := ⟨_, rfl⟩
      rw [← hw8]
      have hB8 := heap_set (i := 2) (u := .int .i64 z) (heap_set (i := 0) (u := .string so) hB7.out)
      rw [← hw8] at hB8
      have HB8 := hide (show w8.heap[g8]? = some (.cells #[.string so, .int .i64 xno, .int .i64 z, .int .i64 xki, .string xri, .string xca, .string xnd, .int .i64 xup, .int .i64 xdn, .string xfo, .int .i64 xnu] 31 (0, 0)) from hB8)
      have HGR8 := hide (show Gr s wr w8 by rw [hw8]; exact ((HG6.out.trans hgA7.out).setg HG8.out).setg HG8.out)
      have HS8 := hide (show Str w8 s (k + 1 + 410 * n + 400 + 1) by rw [hw8]; exact (HS7.out.setg hs8).setg hs8)
      have hbl8 := (Array.getElem?_eq_some_iff.1 HB8.out).1
      have HR8 := hide ((own_rd encEvt_len (own_gr HOW.out HGR8.out (by have := HMB.out; omega))))
      clear hw8 hB8 d0 d1 d2 d3 d4 d5 d6 d7 d8 d9 d10 zz7 hbl7
      go_cut [9] (fun v9 wx => v9 = .int .i64 (n : Int) ∧ wx = w8)
      case first =>
        go_wp2_with fail
        go_meet
        exact ⟨rfl, rfl⟩
      case rest =>
      obtain ⟨rfl, hwc⟩ := hcut
      rw [hwc]
      clear hwc
      refine ‹∀ (a : Act) (w_1 : World), Code.wp _ _ _ a w_1 → _› _ _ ?_
      go_cut [] (fun wx => ∃ so' : ByteArray, so'.size ≤ 1000 ∧ wx.heap[g8]? = some (.cells #[.string so', .int .i64 xno, .int .i64 z, .int .i64 xki, .string xri, .string xca, .string xnd, .int .i64 xup, .int .i64 xdn, .string xfo, .int .i64 xnu] 31 (0, 0)) ∧ Gr s wr wx ∧ Str wx s (k + 1 + 410 * n + 401))
      case first =>
        by_cases hn0 : 0 < n
        · have tn : decide (0 < (n : Int)) = true := by rw [decide_eq_true_eq]; omega
          obtain ⟨A', c', eA, _, hRd', _⟩ := HR8.out
          have hAA : A = A' := by injection eA
          subst hAA
          obtain ⟨bk, off, eb, _, hbk, hbr, hcs⟩ := hRd'.open_ (Nx.refl w8) (by have := HLN.out; omega)
          obtain ⟨n', hn'⟩ : ∃ n' : Nat, n = n' + 1 := ⟨n - 1, by omega⟩
          have hql : n' < l.length := by have := HLN.out; omega
          obtain ⟨c0, c1, c2, _⟩ := ev_cells (hcs n' hql)
          have hyo := (HOK.out l[n'] (List.getElem_mem hql)).source
          generalize l[n'] = y at *
          obtain ⟨yso, yno, yat, yki, yri, yca, ynd, yup, ydn, yfo, ynu⟩ := y
          simp only at c0 c1 c2 hyo
          have n1 : IntKind.i64.wrap ((n : Int) - 1) = (n' : Int) := by rw [IntWalk.i64_in _ (by omega)]; omega
          have q1 : (0 : Int) ≤ (n' : Int) := by omega
          have q2 : (n' : Int) < (n : Int) := by omega
          obtain ⟨e0, e1, e2, _⟩ := evb_cells HB8.out
          have z8 : ∀ i, w8.frozen? ⟨g8, i, none⟩ = false := fun i => by simp [World.frozen?, HB8.out]
          subst eb
          clear hcs hRd' hn' c1 e1
          obtain ⟨gb, hgb⟩ : ∃ gb, Op.bytesLess yso.toList so.toList = gb := ⟨_, rfl⟩
          have hyz2 : yat = z ∨ (yat == z) = false := by
            by_cases h : yat = z
            · exact .inl h
            · right; simpa using h
          rcases hyz2 with hyz | hyz
          rotate_left 1
          · go_upto_region 9 with fail
            go_quiet (fail)
            go_wp2_with fail
            go_meet
            exact ⟨so, hz7, HB8.out, HGR8.out.drewN _, HS8.out.drewN _⟩
          · subst hyz
            have tzz : (yat == yat) = true := by simp
            go_upto_region 9 with fail
            cases gb with
            | true =>
              go_quiet (fail)
              go_wp2_with fail
              go_meet
              exact ⟨so, hz7, HB8.out, HGR8.out.drewN _, HS8.out.drewN _⟩
            | false =>
              have heq : (yso.toList == so.toList) = true ∨ (yso.toList == so.toList) = false := by cases (yso.toList == so.toList) <;> simp
              rcases heq with heq | heq
              · rw [eqS_iff] at heq
                have heq := of_decide_eq_true heq
                subst heq
                go_quiet (fail)
                go_wp2_with fail
                go_meet
                exact ⟨_, hz7, HB8.out, HGR8.out.drewN _, HS8.out.drewN _⟩
              · skip
                go_quiet (fail)
                go_wp2_with fail
                go_meet
                exact ⟨yso, hyo, heap_set (i := 0) HB8.out, (HGR8.out.drewN _).setg HG8.out, (HS8.out.drewN _).setg hs8⟩
        · have tn : decide (0 < (n : Int)) = false := by rw [decide_eq_false_iff_not]; omega
          go_upto_region 9 with fail
          go_quiet (fail)
          go_wp2_with fail
          go_meet
          exact ⟨so, hz7, HB8.out, HGR8.out.drewN _, HS8.out.drewN _⟩
      case rest =>
        obtain ⟨so2, hso2, hB9, hG9, hS9⟩ := hcut
        obtain ⟨w9, hw9⟩ : ∃ w9, w9 = wc := ⟨_, rfl⟩
        rw [← hw9] at hB9 hG9 hS9 ⊢
        refine ‹∀ (a : Act) (w_1 : World), Code.wp _ _ _ a w_1 → _› _ _ ?_
        have hds := domS_1000 hso2
        have hkey := keyS_mk (P := Tryz.prog) Tryz.underlying9 hds
        have hsm : s < mb := by have := HMB.out; omega
        have hM9 := HM.out.gr hG9 (by omega)
        have hlk := look_last hM9 hds
        obtain ⟨v, hv⟩ : ∃ v : Int, v = (f so2).getD 0 := ⟨_, rfl⟩
        rw [← hv] at hlk
        have hvb : 0 ≤ v ∧ v ≤ n := by
          rw [hv]
          cases hf : f so2 with
          | none => simp
          | some y => exact HF.out so2 y hf
        have hwv : IntKind.i64.wrap (v + 1) = v + 1 := IntWalk.i64_in _ (by omega)
        have hwf : (Lit.int .i64 (v + 1)).wf = true := wf_15 (by omega)
        obtain ⟨d0, d1, d2, d3, d4, d5, d6, d7, d8, d9, d10⟩ := evb_cells hB9
        have hbl9 := (Array.getElem?_eq_some_iff.1 hB9).1
        have hgm : g8 ≠ mb := by have := HMB.out; have := HG8.out; omega
        have HB9 := hide hB9
        have HG9 := hide hG9
        have HS9 := hide hS9
        have HM9 := hide hM9
        clear hB9 hG9 hS9 hM9 hw9 hv
        go_upto_region 12 with (first
          | (at_mapUpdate; refine wpMgPut _ rfl _ _ _ _ rfl intE law_strE strV_inj Tryz.underlying62 mb n f rfl HM9.out (by unfold maxLen; omega) so2 rfl hds _ hkey (v + 1) rfl hwf ?_; intro w10 hM10 hg10; (have hl10 := look_last hM10 hds); simp only [if_true, Option.getD_some] at hl10; (have hB10 := hide (gr_at hg10 HB9.out hgm)); (obtain ⟨y0, y1, y2, y3, y4, y5, y6, y7, y8, y9, y10⟩ := evb_cells hB10.out); (have HM10 := hide hM10); (have HG10 := hide hg10); (have zz10 : ∀ i, w10.frozen? ⟨g8, i, none⟩ = false := fun i => by { simp [World.frozen?, hB10.out] }); (have hbl10 := (Array.getElem?_eq_some_iff.1 hB10.out).1); clear hM10 hg10))
        clear d0 d1 d2 d3 d4 d5 d6 d7 d8 d9 d10 hlk hbl9
        go_upto_region 13 with fail
        obtain ⟨w11, hw11⟩ : ∃ w11, w11 = w10.setCell ⟨g8, 1, none⟩ (.int .i64 (v + 1)) := ⟨_, rfl⟩
        rw [← hw11]
        have hB11 : w11.heap[g8]? = some (.cells #[.string so2, .int .i64 (v + 1), .int .i64 z, .int .i64 xki, .string xri, .string xca, .string xnd, .int .i64 xup, .int .i64 xdn, .string xfo, .int .i64 xnu] 31 (0, 0)) := by rw [hw11]; exact heap_set (i := 1) hB10.out
        obtain ⟨e0, e1, e2, e3, e4, e5, e6, e7, e8, e9, e10⟩ := evb_cells hB11
        have hbl11 := (Array.getElem?_eq_some_iff.1 hB11).1
        have hg11 : Gr g8 w10 w11 := hw11 ▸ (Gr.refl g8 w10).setS (p := ⟨g8, 1, none⟩) (.inl rfl) _
        have hz2m : s < w2.heap.size := by have := HMB.out; omega
        have hO10 := own_gr (own_gr HOW.out HG9.out hz2m) HG10.out (by have := HMB.out; omega)
        have HO11 := hide (World.ownsRow.kept hO10 hg11 (by
          cases hAA : A with
          | none =>
            rcases HOW.out.2 with ⟨e, _⟩ | ⟨g, cap, cur, e, _⟩
            · exact .inl rfl
            · rw [hAA] at e; injection e with e _; cases e
          | some a =>
            right
            obtain ⟨ab, ao, aq⟩ := a
            obtain ⟨_, _, h1, h2⟩ := HAB.out ab ao aq hAA
            intro e
            have h3 : ab = g8 := by
              obtain ⟨_, _, _, _⟩ := HAB.out ab ao aq hAA
              subst_vars
              simpa [Value.ownBlock] using e
            have := HG8.out; omega))
        have HM11 := hide (HM10.out.gr hg11 (fun e => hgm e.symm))
        have HS11 := hide (show Str w11 s (k + 1 + 410 * n + 401) by rw [hw11]; exact (HS9.out.row (row := some mb) HG10.out (fun j h => by injection h with h; omega)).setg hs8)
        have HW11 := hide (show Gr s w w11 by
          rw [hw11]
          exact ((HGW.out.trans HG9.out).grown (row := some mb) HG10.out (fun j h => by injection h with h; have := HMB.out; omega)).setg (by have := HG8.out; have := HGW.out.sz; omega))
        have hz11 : w2.heap.size ≤ w11.heap.size := by have := HG9.out.sz; have := HG10.out.sz; have := hg11.sz; omega
        have hxo2 := hide (show okEv ⟨so2, v + 1, z, xki, xri, xca, xnd, xup, xdn, xfo, xnu⟩ from ⟨hso2, HXO.out.ride, HXO.out.car, HXO.out.node, HXO.out.from_, ⟨by show _ ≤ v + 1; omega, by show v + 1 ≤ _; omega⟩, ⟨by show _ ≤ z; omega, by show z ≤ _; omega⟩, HXO.out.kind, HXO.out.up, HXO.out.down, HXO.out.number⟩)
        have hlen : l.length ≤ 100 := by have := HLN.out; omega
        clear hw11 hB11 hO10 hg11 y0 y1 y2 y3 y4 y5 y6 y7 y8 y9 y10 zz10 hbl10 hl10
        go_wp2_with (first
          | (at_builtin; refine wpApp rfl _ _ _ rfl el_Evt encEvt encEvt_len encEvt_one (by omega) (by omega) w2.heap.size _ l rfl (HO11.out.alloc _) _ ⟨so2, v + 1, z, xki, xri, xca, xnd, xup, xdn, xfo, xnu⟩ _ rfl (hnew (by simp)) rfl (by omega) (by simp; omega) ?_; intro v12 w12 hown12 hg12; (have HO12 := hide hown12); (have HS12 := hide ((HS11.out.nx ((Nx.refl _).alloc _)).row hg12 (fun j h => by { have := own_blk_lt HO11.out j h; omega }))); (have HW12 := hide ((HW11.out.alloc _).grown hg12 (fun j h => .inr (by { have := own_blk_lt HO11.out j h; have := HMB.out; omega })))); (have HM12 := hide ((HM11.out.nx ((Nx.refl _).alloc _)).grown hg12 (fun e => by { have := own_blk_lt HO11.out mb e.symm; have := HMB.out; omega }))); (have hz12 : w2.heap.size ≤ w12.heap.size := Nat.le_trans hz11 (Nat.le_trans ((Nx.refl w11).alloc _).sz hg12.size)); clear hown12 hg12)
          | (go_at_call 15; refine (w_PickI _ [0, 1, 5, 10, 20] _ s _ _ (HS12.out.nx ((Nx.refl _).alloc _)) (by omega) (hnew rfl) (by have := HS12.out.lt; omega) rfl (by simp) (by simp)).mono ?_; rintro e w13 ⟨p, hm13, rfl, hg13, hs13⟩; (have hp13 : 0 ≤ p ∧ p ≤ 20 := by { simp only [List.mem_cons, List.not_mem_nil, or_false] at hm13; omega }); (have hwp : IntKind.i64.wrap (z + p) = z + p := IntWalk.i64_in _ (by omega)); (have HS13 := hide hs13); (have HG13 := hide ((Gr.of_nx (s := s) ((Nx.refl w12).alloc _)).trans hg13)); clear hm13 hg13 hs13))
        go_roundw
        case rel =>
          refine ⟨n + 1, z + p, l ++ [⟨so2, v + 1, z, xki, xri, xca, xnd, xup, xdn, xfo, xnu⟩], fun k' => if k' = so2 then some (v + 1) else f k', by omega, by go_num, rfl, by omega, by have := hp13; have := hz4; omega, by simp; exact HLN.out, ?_, own_gr HO12.out HG13.out hz2m, HM12.out.gr HG13.out (by omega), ?_, Nat.le_trans hz12 HG13.out.sz, HS13.out.more (by omega), HW12.out.trans HG13.out⟩
          · intro y hy
            rcases List.mem_append.1 hy with hy | hy
            · exact HOK.out y hy
            · rw [List.mem_singleton.1 hy]; exact hxo2.out
          · intro j q hj
            have hj : (if j = so2 then some (v + 1) else f j) = some q := hj
            by_cases e : j = so2
            · rw [if_pos e] at hj; injection hj with hj; omega
            · rw [if_neg e] at hj; have := HF.out j q hj; omega
        case measure => simp [intOf]; omega
    · obtain rfl : n = many := by omega
      have HO := hide hown
      have HS := hide hSr
      have hz2m : s < w2.heap.size := by have := HMB.out; omega
      have hsz2 := hgw.sz
      have hw2 : w.heap.size ≤ w2.heap.size := HGW2.out.sz
      obtain ⟨A, c, rfl, hcap, hRd, hA⟩ := own_rd encEvt_len hown
      have HRd := hide hRd
      have HCAP := hide hcap
      clear hok hown hM hf hgw hSr HM HF hRd hcap
      rcases Nat.eq_zero_or_pos n with hn0 | hn0
      · have hl0 : l.length = 0 := by omega
        rw [hl0]
        have t0 : decide ((0 : Int) < 0) = false := rfl
        go_wp2_with fail
        go_ret
        exact ⟨A, c, l, by rw [hl0]; rfl, HRd.out.low (by omega), by have := HLN.out; omega, HCAP.out, HOK.out, HGW.out, HS.out.more (by omega)⟩
      · obtain ⟨nl, hnl⟩ : ∃ nl, nl = l.length := ⟨_, rfl⟩
        rw [← hnl] at hln ⊢
        subst hln
        have tn : decide ((0 : Int) < (nl : Int)) = true := by rw [decide_eq_true_eq]; omega
        obtain ⟨g, cap, eA⟩ : ∃ g cap, A = some ⟨g, 0, none⟩ ∧ c = cap := by
          have h := HO.out
          rw [← hnl] at h
          rcases h.2 with ⟨e, _⟩ | ⟨g, cap, cur, e, _⟩
          · injection e with e1 e2 e3; omega
          · injection e with e1 e2 e3; exact ⟨g, cap, e1, e3⟩
        obtain ⟨rfl, rfl⟩ := eA
        have hgA := hA g 0 none rfl
        have HLN := hide hnl
        have HO := hide (show BoxR w2.heap.size g c nl wr from ⟨l, hnl.symm, HOK.out, by have h := HO.out; rw [← hnl] at h; exact h⟩)
        clear hnl
        have EB := boxR_ev w2.heap.size g c nl
        go_wp2_with fail
        refine (w_Flip 15 s _ _ HS.out (by omega) (by omega)).mono ?_
        rintro e w3 ⟨bo, rfl, hg3, hS3⟩
        have hB3 := (EB 0 hn0).gr0 HO.out hg3 (by omega)
        have HB3 := hide hB3
        have HG3 := hide hg3
        have HS3 := hide hS3
        clear hB3 hg3 hS3
        cases bo with
        | false =>
          go_wp2_with fail
          go_ret
          exact evsout_of hw2 HB3.out (HGW.out.trans HG3.out) (HS3.out.more (by omega)) (Nat.le_refl _)
        | true =>
          go_upto_region 18 with (go_at_call 11; refine (w_Next (nl : Int) s _ _ HS3.out (by omega) (by omega)).mono ?_; rintro e w4 ⟨r, hr1, hr2, rfl, hg4, hS4⟩; (obtain ⟨q, hq⟩ : ∃ q : Nat, r = (q : Int) := ⟨r.toNat, by omega⟩); subst hq; (have hqn : q < nl := by omega); (have HB4 := hide ((EB 0 hn0).gr0 HB3.out hg4 (by omega))); (have HG4 := hide hg4); (have HS4 := hide hS4); clear hg4 hS4)
          refine ty_es18 (w0 := w4) (k := k + 1 + 410 * nl + 2) (EB q hqn) (by omega) (by omega) rfl rfl rfl ⟨Two.refl _ _ _, HS4.out, HB4.out⟩ ?_
          intro f w5 hW5
          simp only [ty_es18D, List.foldl, List.setIfInBounds_toArray, List.set_cons_zero, List.set_cons_succ]
          go_wp2
          go_ret
          have h5 := (Two.trans (Two.of_gr (b := g) (HGW.out.trans (HG3.out.trans HG4.out))) hW5.two).toGr (by omega)
          exact evsout_of hw2 hW5.box h5 (hW5.str.more (by omega)) (Nat.le_refl _)
end Go.Proofs.YtfkmbeppckelfaaGreatDoor
