/- SmoothOf, the reference's way. -/
import Derived.Test.YtjkpikhgknnbeaaSmo2
namespace Go.Proofs.Ytjkpikhgknnbeaa
open Go.RowKit Go.Sort Go.Shelf Go.Maps

/-- The five steps of the reference. -/
def dirs (self side : Int) : List (Int × Int × Int) := [(0, 0, self), (1, 0, side), (-1, 0, side), (0, 1, side), (0, -1, side)]
def encDir (d : Int × Int × Int) : List Value := [.int .i64 d.1, .int .i64 d.2.1, .int .i64 d.2.2]
def okDir (d : Int × Int × Int) : Prop := (-1 ≤ d.1 ∧ d.1 ≤ 1) ∧ (-1 ≤ d.2.1 ∧ d.2.1 ≤ 1) ∧ (0 ≤ d.2.2 ∧ d.2.2 ≤ 1000)
theorem dirs_ok {self side : Int} (h1 : 0 ≤ self ∧ self ≤ 1000) (h2 : 0 ≤ side ∧ side ≤ 1000) : ∀ d ∈ dirs self side, okDir d := by
  intro d hd
  unfold dirs at hd
  simp only [List.mem_cons, List.not_mem_nil, or_false] at hd
  rcases hd with rfl | rfl | rfl | rfl | rfl <;> exact ⟨by constructor <;> simp, by constructor <;> simp, by first | exact h1 | exact h2⟩
def cd (t : Tally) (d : Int × Int × Int) : List (Spot × Int) := cp (t.x + d.1) (t.y + d.2.1) t.hour (t.many * d.2.2)
def conR (self side : Int) (t : Tally) : List (Spot × Int) := (dirs self side).flatMap (cd t)
theorem con_eq (self side : Int) (t : Tally) (s : Spot) : accF (conR self side t) s = accF (conP self side t) s := by
  unfold conR conP dirs cd
  simp only [List.flatMap_cons, List.flatMap_nil, accF_app, accF, Int.add_zero, Int.mul_comm t.many]
  simp only [Int.sub_eq_add_neg]
  omega
theorem flat_eq (self side : Int) (l : List Tally) : accF (l.flatMap (conR self side)) = accF (l.flatMap (conP self side)) := by
  funext s
  induction l with
  | nil => rfl
  | cons t l ih => rw [List.flatMap_cons, List.flatMap_cons, accF_app, accF_app, ih, con_eq]
theorem flat_takeR (self side : Int) (l : List Tally) (k : Nat) (hk : k < l.length) : (l.take (k + 1)).flatMap (conR self side) = (l.take k).flatMap (conR self side) ++ conR self side l[k] := by
  rw [List.take_succ_eq_append_getElem hk, List.flatMap_append]; simp
theorem dir_take {self side : Int} (t : Tally) (j : Nat) (hj : j < (dirs self side).length) : ((dirs self side).take (j + 1)).flatMap (cd t) = ((dirs self side).take j).flatMap (cd t) ++ cd t (dirs self side)[j] := by
  rw [List.take_succ_eq_append_getElem hj, List.flatMap_append]; simp
theorem cd_ok {t : Tally} {d : Int × Int × Int} (ht : okTally t) (hd : okDir d) : 0 ≤ t.many * d.2.2 ∧ t.many * d.2.2 ≤ 1000000000000 :=
  ⟨Int.mul_nonneg (by have := ht.2.2; omega) hd.2.2.1, Int.le_trans (Int.mul_le_mul ht.2.2.2 hd.2.2.2 hd.2.2.1 (by omega)) (by omega)⟩
theorem okPs.flat {α : Type} {f : α → List (Spot × Int)} {l : List α} (n : Nat) (h : ∀ a ∈ l, okPs (f a) ∧ (f a).length ≤ n) : okPs (l.flatMap f) ∧ (l.flatMap f).length ≤ n * l.length := by
  induction l with
  | nil => exact ⟨⟨by simp, by simp⟩, by simp⟩
  | cons a l ih =>
    have ih := ih (fun b hb => h b (List.mem_cons_of_mem _ hb))
    have ha := h a (by simp)
    rw [List.flatMap_cons]
    exact ⟨ha.1.app ih.1, by rw [List.length_append, List.length_cons, Nat.mul_add]; omega⟩
theorem conR_ok {self side : Int} (h1 : 0 ≤ self ∧ self ≤ 1000) (h2 : 0 ≤ side ∧ side ≤ 1000) {t : Tally} (ht : okTally t) (j : Nat) : okPs (((dirs self side).take j).flatMap (cd t)) ∧ (((dirs self side).take j).flatMap (cd t)).length ≤ 5 := by
  have h := okPs.flat (l := (dirs self side).take j) 1 (fun d hd => ⟨okPs.cp (x := t.x + d.1) (y := t.y + d.2.1) ht.2.1 (cd_ok ht (dirs_ok h1 h2 d (List.mem_of_mem_take hd))), cp_len _ _ _ _⟩)
  exact ⟨h.1, Nat.le_trans h.2 (by rw [List.length_take]; unfold dirs; simp; omega)⟩
theorem consR_ok {self side : Int} (h1 : 0 ≤ self ∧ self ≤ 1000) (h2 : 0 ≤ side ∧ side ≤ 1000) {l : List Tally} (h : ∀ t ∈ l, okTally t) : okPs (l.flatMap (conR self side)) ∧ (l.flatMap (conR self side)).length ≤ 5 * l.length :=
  okPs.flat 5 (fun t ht => by have := conR_ok h1 h2 (h t ht) 5; exact this)

set_option maxRecDepth 100000 in
set_option maxHeartbeats 4000000 in
theorem w_SmoothOf (lo : Nat) (A : Option Addr) (c : Nat) (a : List Tally) (self side : Int) (w : World) (hA : Rd w lo A 4 encTally a) (hl : a.length ≤ 50) (hf : talliesF a = 0) (h1 : outB self 0 1000 = false) (h2 : outB side 0 1000 = false) :
    Calls Try.prog 41 #[.slice A a.length c, .int .i64 self, .int .i64 side] w (Bnd (accF (a.flatMap (conR self side))) w) := by
  have HOK := hide (talliesF_ok hf).1
  have g1 := outB_false.1 h1
  have g2 := outB_false.1 h2
  have HA := hide hA
  generalize hnn : a.length = n at *
  have HN := hide hnn
  clear hA hf hnn h1 h2
  have hmm := @run_makeMap Try.prog
  go_enter Try.func41, Try.ntmps41
  go_wp2_with fail
  obtain ⟨w2, hw2⟩ : ∃ w2, w2 = w.alloc (.map #[] 0) := ⟨_, rfl⟩
  have hM0 : MpS w2 w.heap.size 0 (fun _ => 0) := by rw [hw2]; exact MpI.made w
  have hN2 : Nx w w2 := by rw [hw2]; exact (Nx.refl _).alloc _
  have hs2 : w2.heap.size = w.heap.size + 1 := by rw [hw2]; simp
  rw [← hw2]
  have HS2 := hide hs2
  have HM0 := hide hM0
  clear hw2 hs2 hM0
  go_loopw [10, 12, 13, 17, 33] (fun _ _ _ i _ wr => ∃ k : Nat, k ≤ n ∧ i = .int .i64 k ∧ MpS wr w.heap.size (5 * k) (accF ((a.take k).flatMap (conR self side))) ∧ Gr w.heap.size w2 wr) (fun _ _ _ i _ _ => n - (intOf i).toNat)
  case atStart => exact ⟨0, Nat.zero_le _, rfl, HM0.out, Gr.refl _ _⟩
  case round =>
    obtain ⟨k, hk, rfl, hM, hbw⟩ := hrel
    have hNr : Nx w wr := Nx.of_gr ((Gr.of_nx hN2).trans hbw) (Nat.le_refl _)
    by_cases hlt : k < n
    · have hlt' : k < a.length := by have := HN.out; omega
      obtain ⟨b', off, rfl, _, hb, hbr, hc⟩ := HA.out.open_ hNr (by omega)
      have c0 : wr.cell? ⟨b', off + k * 4, none⟩ = some (.int .i64 a[k].x) := hc k hlt' 0 _ rfl
      have c1 : wr.cell? ⟨b', off + k * 4 + 1, none⟩ = some (.int .i64 a[k].y) := hc k hlt' 1 _ rfl
      have c2 : wr.cell? ⟨b', off + k * 4 + 2, none⟩ = some (.int .i64 a[k].hour) := hc k hlt' 2 _ rfl
      have c3 : wr.cell? ⟨b', off + k * 4 + 3, none⟩ = some (.int .i64 a[k].many) := hc k hlt' 3 _ rfl
      clear hc
      have hok := HOK.out a[k] (List.getElem_mem hlt')
      have HF := hide (flat_takeR self side a k hlt')
      have HPS := hide (consR_ok g1 g2 (l := a.take k) (fun t ht => HOK.out t (List.mem_of_mem_take ht)))
      have hpl : ((a.take k).flatMap (conR self side)).length ≤ 250 := by
        have h3 := HPS.out.2
        have h4 := List.length_take_le k a
        omega
      generalize a[k] = t at *
      have HT := hide hok
      generalize (a.take k).flatMap (conR self side) = ps0 at *
      go_wp2_with fail
      obtain ⟨wk, hwk⟩ : ∃ wk, wk = (wr.alloc (.cells #[.int .i64 t.x, .int .i64 t.y, .int .i64 t.hour, .int .i64 t.many] 47)).alloc (.cells #[.int .i64 0, .int .i64 0, .int .i64 self, .int .i64 1, .int .i64 0, .int .i64 side, .int .i64 (-1), .int .i64 0, .int .i64 side, .int .i64 0, .int .i64 1, .int .i64 side, .int .i64 0, .int .i64 (-1), .int .i64 side] 122) := ⟨_, rfl⟩
      have hML := hM.lt
      have hsk : wk.heap.size = wr.heap.size + 1 + 1 := by rw [hwk]; simp
      have hGk : Gr w.heap.size w2 wk := by rw [hwk]; exact (hbw.alloc _).alloc _
      have hMk : MpS wk w.heap.size (5 * k) (accF ps0) := by rw [hwk]; exact hM.nx (((Nx.refl _).alloc _).alloc _)
      have hRk : Rd wk (wr.heap.size + 1) (some ⟨wr.heap.size + 1, 0, none⟩) 3 encDir (dirs self side) := by rw [hwk]; exact Rd.lit (hnew (by simp)) (Nat.le_refl _) (fun _ => rfl) rfl
      have p0 : wk.cell? ⟨wr.heap.size, 0, none⟩ = some (.int .i64 t.x) := by rw [hwk]; go_simp
      have p1 : wk.cell? ⟨wr.heap.size, 1, none⟩ = some (.int .i64 t.y) := by rw [hwk]; go_simp
      have p2 : wk.cell? ⟨wr.heap.size, 2, none⟩ = some (.int .i64 t.hour) := by rw [hwk]; go_simp
      have p3 : wk.cell? ⟨wr.heap.size, 3, none⟩ = some (.int .i64 t.many) := by rw [hwk]; go_simp
      have hne : some wr.heap.size ≠ some w.heap.size := by intro e; injection e with e; omega
      have hdl : (dirs self side).length = 5 := rfl
      have HMk := hide hMk
      have HRk := hide hRk
      have HP := hide (And.intro p0 (And.intro p1 (And.intro p2 p3)))
      have HD := hide (dirs_ok g1 g2)
      have HTK := hide (fun j => @dir_take self side t j)
      have HCO := hide (conR_ok g1 g2 hok)
      rw [← hwk]
      clear hwk hMk hRk p0 p1 p2 p3 hM
      obtain ⟨wo, hwo⟩ : ∃ wo : World, wo = wr := ⟨_, rfl⟩
      rw [← hwo]
      rw [← hwo] at hsk hne hML HRk HP c0 c1 c2 c3 hbr hNr hbw
      clear hwo
      have HDEF : conR self side t = ((dirs self side).take 5).flatMap (cd t) := rfl
      have HDEF := hide HDEF
      generalize dirs self side = ds at *
      go_loopw [12, 13, 33] (fun _ _ i wr => ∃ j : Nat, j ≤ 5 ∧ i = .int .i64 j ∧ MpS wr w.heap.size (5 * k + j) (accF (ps0 ++ (ds.take j).flatMap (cd t))) ∧ Gr w.heap.size wk wr) (fun _ _ i _ => 5 - (intOf i).toNat)
      case atStart => exact ⟨0, Nat.zero_le _, rfl, by rw [List.take_zero, List.flatMap_nil, List.append_nil]; exact HMk.out, Gr.refl _ _⟩
      case round =>
        obtain ⟨j, hj, rfl, hM, hbw2⟩ := hrel
        by_cases hlj : j < 5
        · have hds : ds.length = 5 := hdl
          have hlj' : j < ds.length := by omega
          obtain ⟨b2, off2, hbe, _, _, _, hc⟩ := (HRk.out.gr hbw2 (by omega)).open_ (Nx.refl wr) (by omega)
          injection hbe with hbe
          injection hbe with hb1 hb2
          subst hb1
          subst hb2
          have e0 : wr.cell? ⟨wo.heap.size + 1, j * 3, none⟩ = some (.int .i64 ds[j].1) := by simpa using hc j hlj' 0 _ rfl
          have e1 : wr.cell? ⟨wo.heap.size + 1, j * 3 + 1, none⟩ = some (.int .i64 ds[j].2.1) := by simpa using hc j hlj' 1 _ rfl
          have e2 : wr.cell? ⟨wo.heap.size + 1, j * 3 + 2, none⟩ = some (.int .i64 ds[j].2.2) := by simpa using hc j hlj' 2 _ rfl
          clear hc
          have hdk := HD.out ds[j] (List.getElem_mem hlj')
          have HST := hide (HTK.out j hlj')
          have HCJ := hide (HCO.out j)
          have p0 := World.grownBy.cell hbw2 HP.out.1 hne
          have p1 := World.grownBy.cell hbw2 HP.out.2.1 hne
          have p2 := World.grownBy.cell hbw2 HP.out.2.2.1 hne
          have p3 := World.grownBy.cell hbw2 HP.out.2.2.2 hne
          have hpj : ((ds.take j).flatMap (cd t)).length ≤ 5 := HCJ.out.2
          have hmv := cd_ok hok hdk
          have hszr := hbw2.sz
          have hbr1 : wo.heap.size < wr.heap.size := by omega
          have hbr2 : wo.heap.size + 1 < wr.heap.size := by omega
          generalize ds[j] = d at *
          obtain ⟨dx, dy, db⟩ := d
          have HQS := hide (HPS.out.1.app HCJ.out.1)
          have hql : (ps0 ++ (ds.take j).flatMap (cd t)).length ≤ 1000 := by rw [List.length_append]; omega
          have HQE := hide (show ps0 ++ (ds.take (j + 1)).flatMap (cd t) = (ps0 ++ (ds.take j).flatMap (cd t)) ++ cd t (dx, dy, db) by rw [HST.out, List.append_assoc])
          generalize hqs : ps0 ++ (ds.take j).flatMap (cd t) = qs at *
          obtain ⟨⟨o1, o2⟩, o3, o4⟩ := hok
          obtain ⟨q1, q2, q3⟩ := hdk
          simp only at q1 q2 q3 hmv e0 e1 e2
          cases hpt : isPtB (t.x + dx) (t.y + dy)
          · have hcd : cd t (dx, dy, db) = [] := by unfold cd cp; rw [hpt]; rfl
            have HCD := hide hcd
            have hp0 : (ptF (t.x + dx) (t.y + dy) == 0) = false := by unfold ptF; rw [hpt]; rfl
            clear hcd hqs
            go_wp2_with (go_at_call 12; refine (w_PointFault _ _ _).mono ?_; rintro e w' ⟨rfl, rfl⟩)
            go_roundw
            case rel => exact ⟨j + 1, by omega, by go_num, by rw [HQE.out, HCD.out, List.append_nil]; exact (hM.mono (by omega)).nx (((Nx.refl _).alloc _).alloc _), (hbw2.alloc _).alloc _⟩
            case measure => simp [intOf]; omega
          · have hcd : cd t (dx, dy, db) = [(⟨t.x + dx, t.y + dy, t.hour⟩, t.many * db)] := by unfold cd cp; rw [hpt]; rfl
            have HS := hide (accF_snoc qs ⟨t.x + dx, t.y + dy, t.hour⟩ (t.many * db))
            have hp0 : (ptF (t.x + dx) (t.y + dy) == 0) = true := by unfold ptF; rw [hpt]; rfl
            have hptr := isPtB_true.1 hpt
            have hdom : dom64 ⟨t.x + dx, t.y + dy, t.hour⟩ := ⟨wf_i64.2 (by show _ ≤ t.x + dx ∧ t.x + dx ≤ _; omega), wf_i64.2 (by show _ ≤ t.y + dy ∧ t.y + dy ≤ _; omega), wf_i64.2 (by show _ ≤ t.hour ∧ t.hour ≤ _; omega)⟩
            obtain ⟨kl, hkey⟩ := key_spot _ _ _ hdom.1 hdom.2.1 hdom.2.2
            have hbv := HQS.out.bd hql ⟨t.x + dx, t.y + dy, t.hour⟩
            rw [hcd] at HQE
            clear hcd hqs
            obtain ⟨wy, hwy⟩ : ∃ wy, wy = ((wr.alloc (.cells #[.int .i64 dx, .int .i64 dy, .int .i64 db] 122)).alloc (.cells #[.int .i64 (t.x + dx), .int .i64 (t.y + dy)] 31)) := ⟨_, rfl⟩
            have hM2 : MpS wy.drew w.heap.size (5 * k + j) (accF qs) := by rw [hwy]; exact hM.nx (((Nx.refl wr).alloc _).alloc _).drew
            have hGy : Gr w.heap.size wk wy.drew := by rw [hwy]; exact ((hbw2.alloc _).alloc _).drew
            have d0 : wy.drew.cell? ⟨wr.heap.size + 1, 0, none⟩ = some (.int .i64 (t.x + dx)) := by rw [hwy]; go_simp
            have d1 : wy.drew.cell? ⟨wr.heap.size + 1, 1, none⟩ = some (.int .i64 (t.y + dy)) := by rw [hwy]; go_simp
            have d2 : wy.drew.cell? ⟨wr.heap.size, 2, none⟩ = some (.int .i64 db) := by rw [hwy]; go_simp
            have d3 : wy.drew.cell? ⟨wo.heap.size, 2, none⟩ = some (.int .i64 t.hour) := World.grownBy.cell hGy HP.out.2.2.1 hne
            have d4 : wy.drew.cell? ⟨wo.heap.size, 3, none⟩ = some (.int .i64 t.many) := World.grownBy.cell hGy HP.out.2.2.2 hne
            have hlk : (Instr.lookup 95 (.map (some w.heap.size)) (.agg #[.int .i64 (t.x + dx), .int .i64 (t.y + dy), .int .i64 t.hour]) false).run Try.prog wy.drew = .ok (.int .i64 (accF qs ⟨t.x + dx, t.y + dy, t.hour⟩)) wy.drew := (hM2.look law_spot Try.underlying95 Try.underlying3 (zeroInt _) hdom hkey).1
            obtain ⟨v0, st, x2, hE, hgE, hl2, hst⟩ := hM2.entry klaw_spot ekSpot_inj Try.underlying95 Try.underlying3 zeroInt (by unfold maxLen; omega) hdom hkey
            obtain ⟨x3, hSt, hM3, hg3⟩ := hst (accF qs ⟨t.x + dx, t.y + dy, t.hour⟩ + t.many * db) (wf_i64.2 (by omega))
            rw [← HS.out] at hM3
            have hE' : (Instr.mapEntry 95 (.map (some w.heap.size)) (.agg #[.int .i64 (t.x + dx), .int .i64 (t.y + dy), .int .i64 t.hour])).run Try.prog wy.drew = .ok (.tuple #[v0, .int .i64 st]) x2 := hE
            have hlk2 : (Instr.lookup 95 (.map (some w.heap.size)) (.agg #[.int .i64 (t.x + dx), .int .i64 (t.y + dy), .int .i64 t.hour]) false).run Try.prog x2 = .ok (.int .i64 (accF qs ⟨t.x + dx, t.y + dy, t.hour⟩)) x2 := hl2
            clear hl2 hE hst hM hM2
            have HM3 := hide hM3
            clear hM3
            generalize accF qs ⟨t.x + dx, t.y + dy, t.hour⟩ = vv at *
            have hSt' : (Instr.entryStore 95 (.map (some w.heap.size)) (.int .i64 st) (.int .i64 (IntKind.i64.wrap (vv + IntKind.i64.wrap (t.many * db))))).run Try.prog x2 = .ok () x3 := by rw [IntWalk.i64_in (t.many * db) (by omega), IntWalk.i64_in _ (by omega)]; exact hSt
            clear hSt
            have n0 : some (wr.heap.size + 1) ≠ some w.heap.size := by intro e; injection e with e; omega
            have n1 : some wr.heap.size ≠ some w.heap.size := by intro e; injection e with e; omega
            have E0 := hide (And.intro (hgE.cell d0 n0) (And.intro (hgE.cell d1 n0) (And.intro (hgE.cell d2 n1) (And.intro (hgE.cell d3 hne) (hgE.cell d4 hne)))))
            have F0 := hide (And.intro (hg3.cell d0 n0) (And.intro (hg3.cell d1 n0) (And.intro (hg3.cell d2 n1) (And.intro (hg3.cell d3 hne) (hg3.cell d4 hne)))))
            have HG3 := hide (hGy.trans hg3)
            clear hGy
            go_wp2_with (go_at_call 12; refine (w_PointFault _ _ _).mono ?_; rintro e w' ⟨rfl, rfl⟩)
            rw [← hwy]
            clear hwy
            go_region_held3 (fun w' => w'.cell? ⟨wr.heap.size + 1, 0, none⟩ = some (.int .i64 (t.x + dx)) ∧ w'.cell? ⟨wr.heap.size + 1, 1, none⟩ = some (.int .i64 (t.y + dy)) ∧ w'.cell? ⟨wr.heap.size, 2, none⟩ = some (.int .i64 db) ∧ w'.cell? ⟨wo.heap.size, 2, none⟩ = some (.int .i64 t.hour) ∧ w'.cell? ⟨wo.heap.size, 3, none⟩ = some (.int .i64 t.many))
              (first | go_keep | exact ⟨d0, d1, d2, d3, d4⟩ | exact E0.out | exact F0.out)
              (first | fail)
            all_goals go_wp2
            all_goals go_roundw
            all_goals first | exact ⟨j + 1, by omega, by go_num, by rw [HQE.out]; exact HM3.out, HG3.out⟩ | (simp [intOf]; omega)
        · have hj5 : j = 5 := by omega
          subst hj5
          go_wp2
          go_roundw
          case rel => exact ⟨k + 1, by omega, by go_num, by rw [HF.out, HDEF.out]; exact hM.mono (by omega), hGk.trans hbw2⟩
          case measure => simp [intOf]; omega
    · have hk2 : k = a.length := by have := HN.out; omega
      have HPS := hide (consR_ok g1 g2 HOK.out)
      have hM' : MpS wr w.heap.size (5 * n) (accF (a.flatMap (conR self side))) := by rw [hk2, List.take_length] at hM; exact hM.mono (by have := HN.out; omega)
      have hkeys : ∀ s, 0 < accF (a.flatMap (conR self side)) s → s ∈ (a.flatMap (conR self side)).map (·.1) := fun s hs => by
        obtain ⟨p, hp, rfl⟩ := accF_pos hs
        exact List.mem_map_of_mem hp
      have hpos : ∀ s, 0 < accF (a.flatMap (conR self side)) s → dom64 s := fun s hs => by
        obtain ⟨p, hp, rfl⟩ := List.mem_map.1 (hkeys s hs)
        exact HPS.out.1.2 p hp
      clear hM hk2
      go_wp2_with (go_at_call 78; refine (w_checked _ _ _ _ hM' (by omega) hpos (fun s => (accF_bd _ _ HPS.out.1.1 s).1) _ hkeys (by rw [List.length_map]; have := HPS.out.2; have := HN.out; omega)).mono ?_; rintro e w5 ⟨A5, c5, E5, zs, hB5, rfl, hR5, hn5⟩)
      go_ret2
      exact ⟨A5, c5, E5, zs, hB5, rfl, hR5.low hNr.sz, hNr.trans hn5⟩
end Go.Proofs.Ytjkpikhgknnbeaa
