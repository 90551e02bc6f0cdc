/- Plain: with one more site no less is covered. -/
import Derived.Test.YtmpnilliichpfaaGreatDoorQChoP
import Derived.Test.YtmpnilliichpfaaGreatDoorQG22
import Derived.Test.YtmpnilliichpfaaGreatDoorQG14
import Derived.Test.YtmpnilliichpfaaGreatDoorQG6
namespace Go.Proofs.YtmpnilliichpfaaGreatDoor
open Go.RowKit

theorem lt_strLf {s q : ByteArray} (h : ltS q s) : strLe s q = false := by
  unfold strLe
  rw [Bool.or_eq_false_iff, Proofs.bytesLess_eq, Lib.toList_data, Lib.toList_data]
  unfold ltS at h
  refine ⟨decide_eq_false fun h2 => List.lt_irrefl _ (List.lt_trans h h2), ?_⟩
  rw [beq_eq_false_iff_ne]
  intro e
  rw [e] at h
  exact List.lt_irrefl _ h
/-- All choices that go on from some: the best of them. -/
theorem tryL_ok (cov : List ByteArray → Int) (many : Int) : ∀ (r so : List ByteArray) (acc : List ByteArray × Int), (so.length : Int) < many →
    acc.2 ≤ (tryL cov many r so acc).2 ∧ (∀ t, t.Sublist r → ((so ++ t).length : Int) = many → cov (so ++ t) ≤ (tryL cov many r so acc).2) ∧
      (tryL cov many r so acc = acc ∨ ∃ t, t.Sublist r ∧ ((so ++ t).length : Int) = many ∧ tryL cov many r so acc = (so ++ t, cov (so ++ t)))
  | [], so, acc, h => by
    refine ⟨Int.le_refl _, fun t ht hl => ?_, .inl rfl⟩
    rw [List.sublist_nil.1 ht, List.append_nil] at hl
    omega
  | s :: r, so, acc, h => by
    have hl1 : (so ++ [s]).length = so.length + 1 := by simp
    obtain ⟨ac, hac⟩ : ∃ ac, ac = (if ((so ++ [s]).length : Int) = many then updC cov (so ++ [s]) acc else tryL cov many r (so ++ [s]) acc) := ⟨_, rfl⟩
    have hst : tryL cov many (s :: r) so acc = tryL cov many r so ac := by rw [hac, tryL]
    have hA : acc.2 ≤ ac.2 ∧ (∀ t, t.Sublist r → ((so ++ [s] ++ t).length : Int) = many → cov (so ++ [s] ++ t) ≤ ac.2) ∧ (ac = acc ∨ ∃ t, t.Sublist r ∧ ((so ++ [s] ++ t).length : Int) = many ∧ ac = (so ++ [s] ++ t, cov (so ++ [s] ++ t))) := by
      by_cases hm : ((so ++ [s]).length : Int) = many
      · rw [if_pos hm] at hac
        have hmax : acc.2 ≤ ac.2 ∧ cov (so ++ [s]) ≤ ac.2 ∧ (ac = acc ∨ ac = (so ++ [s], cov (so ++ [s]))) := by
          rw [hac]
          unfold updC
          split
          · exact ⟨by show acc.2 ≤ cov _; omega, Int.le_refl _, .inr rfl⟩
          · exact ⟨Int.le_refl _, by omega, .inl rfl⟩
        refine ⟨hmax.1, fun t _ ht => ?_, hmax.2.2.elim .inl fun e => .inr ⟨[], List.nil_sublist _, by simpa using hm, by simpa using e⟩⟩
        have ht0 : t = [] := by
          rw [List.length_append] at ht
          exact List.eq_nil_of_length_eq_zero (by omega)
        rw [ht0, List.append_nil]
        exact hmax.2.1
      · rw [if_neg hm] at hac
        rw [hac]
        exact tryL_ok cov many r (so ++ [s]) acc (by omega)
    have hB := tryL_ok cov many r so ac h
    rw [← hst] at hB
    obtain ⟨a1, a2, a3⟩ := hA
    obtain ⟨b1, b2, b3⟩ := hB
    refine ⟨Int.le_trans a1 b1, fun t ht hl => ?_, ?_⟩
    · cases ht with
      | cons _ ht => exact b2 t ht hl
      | cons_cons _ ht =>
        rename_i t'
        have e : so ++ s :: t' = so ++ [s] ++ t' := by simp
        rw [e] at hl ⊢
        exact Int.le_trans (a2 t' ht hl) b1
    · rcases b3 with e | ⟨t, ht, hl, e⟩
      · rcases a3 with e2 | ⟨t, ht, hl, e2⟩
        · exact .inl (e.trans e2)
        · have e3 : so ++ [s] ++ t = so ++ s :: t := by simp
          rw [e3] at hl e2
          exact .inr ⟨s :: t, ht.cons_cons _, hl, e.trans e2⟩
      · exact .inr ⟨t, ht.cons _, hl, e⟩
theorem tryG_ok (cov : List ByteArray → Int) (hc : ∀ t, 0 ≤ cov t) (k : Nat) (l : List ByteArray) (hk : k ≤ l.length) :
    (∀ t, t.Sublist l → t.length = k → cov t ≤ (tryG cov (k : Int) l [] ([], -1)).2) ∧ ∃ t, t.Sublist l ∧ t.length = k ∧ tryG cov (k : Int) l [] ([], -1) = (t, cov t) := by
  unfold tryG
  by_cases h0 : k = 0
  · subst h0
    rw [if_pos (by simp)]
    have hu : updC cov [] ([], -1) = ([], cov []) := by
      unfold updC
      rw [if_pos (by have := hc []; show (-1 : Int) < cov []; omega)]
    rw [hu]
    refine ⟨fun t _ ht => ?_, [], List.nil_sublist _, rfl, rfl⟩
    rw [List.eq_nil_of_length_eq_zero ht]
    exact Int.le_refl _
  · rw [if_neg (by simp; omega)]
    obtain ⟨_, h2, h3⟩ := tryL_ok cov k l [] ([], -1) (by simp; omega)
    simp only [List.nil_append] at h2 h3
    refine ⟨fun t ht hl => h2 t ht (by omega), ?_⟩
    rcases h3 with e | ⟨t, ht, hl, e⟩
    · have := h2 (l.take k) (List.take_sublist _ _) (by rw [List.length_take]; omega)
      rw [e] at this
      have := hc (l.take k)
      omega
    · exact ⟨t, ht, by omega, e⟩
theorem sub_more {l : List ByteArray} : ∀ {t : List ByteArray}, t.Sublist l → t.length < l.length → ∃ t', t.Sublist t' ∧ t'.Sublist l ∧ t'.length = t.length + 1 := by
  intro t h
  induction h with
  | slnil => intro hl; exact absurd hl (by simp)
  | cons a h ih =>
    rename_i l1 l2
    intro hl
    exact ⟨a :: l1, (List.Sublist.refl _).cons _, h.cons_cons _, by simp⟩
  | cons_cons a h ih =>
    intro hl
    obtain ⟨t', h1, h2, h3⟩ := ih (by simpa using hl)
    exact ⟨a :: t', h1.cons_cons _, h2.cons_cons _, by simp [h3]⟩
theorem covS_mono {r : ByteArray → ByteArray → Bool} {l l' : List ByteArray} (h : l.Sublist l') : ∀ (ws : List Wgt), (∀ w ∈ ws, 0 ≤ w.many) → covS r l ws ≤ covS r l' ws
  | [], _ => Int.le_refl _
  | w :: ws, hw => by
    have ih := covS_mono (r := r) h ws (fun x hx => hw x (List.mem_cons_of_mem _ hx))
    have h0 := hw w (by simp)
    unfold covS
    cases h1 : l.any (fun s => r s w.node) with
    | false => simp only [Bool.false_eq_true, if_false]; split <;> omega
    | true =>
      have h2 : l'.any (fun s => r s w.node) = true := by
        rw [List.any_eq_true] at h1 ⊢
        obtain ⟨x, hx, he⟩ := h1
        exact ⟨x, h.subset hx, he⟩
      rw [h2]
      simp only [if_true]
      omega
/-- What the law weighs: k sites, one more of them, and what the chosen ones cover. -/
theorem more_ok {ns : List Node} {rs : List Arc} {bs : List Ban} {sites : List ByteArray} {ws : List Wgt} {ad wi : Int} {k : Nat} (hR : roadsF ns rs bs = 0) (hs : sitesF ns sites = 0) (hw : wgtsF ns ws = 0) (hm : momB ad = true) (hwi : 0 ≤ wi ∧ wi ≤ 86400000) (hk : k < sites.length) :
    chooseF ns rs bs sites k ws ad wi = 0 ∧ chooseF ns rs bs sites (k + 1) ws ad wi = 0 ∧ coverF ns rs bs (chooseP ns rs bs sites k ws ad wi).1 ws ad wi = 0 ∧
      (chooseP ns rs bs sites k ws ad wi).1.length = k ∧ (chooseP ns rs bs sites k ws ad wi).2 ≤ (chooseP ns rs bs sites (k + 1) ws ad wi).2 ∧ coverV ns rs bs (chooseP ns rs bs sites k ws ad wi).1 ws ad wi = (chooseP ns rs bs sites k ws ad wi).2 := by
  have hrest : restF ns ws ad wi = 0 := by
    unfold restF
    rw [if_pos hw, hm]
    have ho : outB wi 0 86400000 = false := outB_false.2 ⟨hwi.1, hwi.2⟩
    rw [ho]
    rfl
  have hF : ∀ j : Int, 0 ≤ j → j ≤ sites.length → chooseF ns rs bs sites j ws ad wi = 0 := by
    intro j h0 h1
    unfold chooseF
    have ho : outB j 0 (sites.length : Int) = false := outB_false.2 ⟨h0, h1⟩
    rw [if_pos hR, if_pos hs, ho, if_neg (by simp), hrest]
  have hF1 := hF k (by omega) (by omega)
  have hF2 := hF (k + 1) (by omega) (by omega)
  have hb := wgts_bd hw
  have hc : ∀ t, 0 ≤ (fun so => covS (reachB ns rs bs ad wi) so ws) t := fun t => (covS_bd ws (fun x hx => (hb.2 x hx).2)).1
  have hP : ∀ j : Int, chooseF ns rs bs sites j ws ad wi = 0 → chooseP ns rs bs sites j ws ad wi = tryG (fun so => covS (reachB ns rs bs ad wi) so ws) j sites [] ([], -1) := by
    intro j hj
    unfold chooseP
    rw [if_pos hj]
    rfl
  obtain ⟨t, ht, htl, e⟩ := (tryG_ok _ hc k sites (by omega)).2
  have h2 := (tryG_ok _ hc (k + 1) sites (by omega)).1
  rw [hP k hF1, hP (k + 1) hF2, e]
  obtain ⟨t', s1, s2, s3⟩ := sub_more ht (by omega)
  have hsub : ∀ s ∈ t, 0 ≤ nodeI ns s := fun s h => (site_ok hs).2 s (ht.subset h)
  have hcov : coverF ns rs bs t ws ad wi = 0 := by
    unfold coverF
    have hmiss : missB ns t = false := by
      unfold missB
      rw [List.any_eq_false]
      intro s h
      have := hsub s h
      simp
      omega
    rw [if_pos hR, hmiss, if_neg (by simp), hrest]
  refine ⟨hF1, hF2, hcov, htl, ?_, ?_⟩
  · have h3 := h2 t' s2 (by omega)
    have h4 := covS_mono (r := reachB ns rs bs ad wi) s1 ws (fun x hx => (hb.2 x hx).2.1)
    show covS (reachB ns rs bs ad wi) t ws ≤ _
    exact Int.le_trans h4 (by simpa using h3)
  · show coverV ns rs bs t ws ad wi = covS (reachB ns rs bs ad wi) t ws
    unfold coverV
    rw [if_pos hcov]
/-- All nodes are sites. -/
theorem sites_all {ns : List Node} (h : nodesF ns = 0) (hl : ns.length ≤ 14) : sitesF ns (ns.map (·.key)) = 0 := by
  have hS := sortN_of h
  unfold sitesF
  rw [List.length_map, if_neg (by omega)]
  suffices hh : ∀ (k : Nat), k ≤ ns.length → ∀ p : Option ByteArray, (∀ q, p = some q → ∃ j, j < k ∧ q = (ns.getD j default).key) → chk (siteF ns) p ((ns.drop k).map (·.key)) = 0 from hh 0 (Nat.zero_le _) none (fun q e => by cases e)
  intro k hk
  obtain ⟨d, hd⟩ : ∃ d, d = ns.length - k := ⟨_, rfl⟩
  induction d generalizing k with
  | zero =>
    intro p _
    rw [List.drop_eq_nil_of_le (by omega)]
    rfl
  | succ d ih =>
    intro p hp
    have hlt : k < ns.length := by omega
    rw [List.drop_eq_getElem_cons hlt, List.map_cons, chk]
    have e : ns[k] = ns.getD k default := by rw [List.getD_eq_getElem?_getD, List.getElem?_eq_getElem hlt]; rfl
    have hF : siteF ns p ns[k].key = 0 := by
      unfold siteF
      rw [e, if_neg (by rw [node_at hS hlt]; omega)]
      cases p with
      | none => rfl
      | some q =>
        obtain ⟨j, hj, rfl⟩ := hp q rfl
        have := lt_strLf (hS.at hj hlt)
        show (if strLe _ _ = true then (7 : Int) else 0) = 0
        rw [this]
        rfl
    rw [if_pos hF]
    exact ih (k + 1) (by omega) (by omega) (some ns[k].key) (fun q hq => by
      injection hq with hq
      exact ⟨k, by omega, by rw [← hq, e]⟩)
end Go.Proofs.YtmpnilliichpfaaGreatDoor
