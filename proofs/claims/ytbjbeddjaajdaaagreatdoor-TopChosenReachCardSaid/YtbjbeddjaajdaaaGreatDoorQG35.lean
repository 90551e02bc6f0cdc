/- Plain: with one more site no less is covered. -/
import Derived.Test.YtbjbeddjaajdaaaGreatDoorQChoP
import Derived.Test.YtbjbeddjaajdaaaGreatDoorQG28
import Derived.Test.YtbjbeddjaajdaaaGreatDoorQG27
import Derived.Test.YtbjbeddjaajdaaaGreatDoorQG13
import Derived.Test.YtbjbeddjaajdaaaGreatDoorQG2
import Derived.Test.YtbjbeddjaajdaaaGreatDoorQG24
import Derived.Test.YtbjbeddjaajdaaaGreatDoorQG32
import Derived.Test.YtbjbeddjaajdaaaGreatDoorQG4
import Derived.Test.YtbjbeddjaajdaaaGreatDoorQG18
import Derived.Deep.RegionHeldLaw
import Derived.Deep.DeepCutAuto
import Derived.Test.YtbjbeddjaajdaaaGreatDoorQG21
import Derived.Test.YtbjbeddjaajdaaaGreatDoorQSrchV
import Derived.Test.YtbjbeddjaajdaaaGreatDoorQRoadT
import Derived.Test.YtbjbeddjaajdaaaGreatDoorQG14
import Derived.Test.YtbjbeddjaajdaaaGreatDoorQG0
import Derived.Maps.Keyed
import Derived.DeepKeys4
import Derived.KernelRfl
import Derived.Test.YtbjbeddjaajdaaaGreatDoorQG10
import Derived.Deep.QuietTactic
import Derived.BigQuiet
namespace Go.Proofs.YtbjbeddjaajdaaaGreatDoor
open Go.RowKit

theorem lt_strLf {s q : ByteArray} (h : ltS q s) : strLe s q = false := by
  unfold strLe
  rw [Bool.or_eq_false_iff, Proofs.bytesLess_eq, Lib.toList_data, Lib.toList_data]
  unfold ltS at h
  refine ⟨decide_eq_false fun h2 => List.lt_irrefl _ (List.lt_trans h h2), ?_⟩
  rw [beq_eq_false_iff_ne]
  intro e
  rw [e] at h
  exact List.lt_irrefl _ h
/-- All choices that go on from some: the best of them. -/
theorem tryL_ok (cov : List ByteArray → Int) (many : Int) : ∀ (r so : List ByteArray) (acc : List ByteArray × Int), (so.length : Int) < many →
    acc.2 ≤ (tryL cov many r so acc).2 ∧ (∀ t, t.Sublist r → ((so ++ t).length : Int) = many → cov (so ++ t) ≤ (tryL cov many r so acc).2) ∧
      (tryL cov many r so acc = acc ∨ ∃ t, t.Sublist r ∧ ((so ++ t).length : Int) = many ∧ tryL cov many r so acc = (so ++ t, cov (so ++ t)))
  | [], so, acc, h => by
    refine ⟨Int.le_refl _, fun t ht hl => ?_, .inl rfl⟩
    rw [List.sublist_nil.1 ht, List.append_nil] at hl
    omega
  | s :: r, so, acc, h => by
    have hl1 : (so ++ [s]).length = so.length + 1 := by simp
    obtain ⟨ac, hac⟩ : ∃ ac, ac = (if ((so ++ [s]).length : Int) = many then updC cov (so ++ [s]) acc else tryL cov many r (so ++ [s]) acc) := ⟨_, rfl⟩
    have hst : tryL cov many (s :: r) so acc = tryL cov many r so ac := by rw [hac, tryL]
    have hA : acc.2 ≤ ac.2 ∧ (∀ t, t.Sublist r → ((so ++ [s] ++ t).length : Int) = many → cov (so ++ [s] ++ t) ≤ ac.2) ∧ (ac = acc ∨ ∃ t, t.Sublist r ∧ ((so ++ [s] ++ t).length : Int) = many ∧ ac = (so ++ [s] ++ t, cov (so ++ [s] ++ t))) := by
      by_cases hm : ((so ++ [s]).length : Int) = many
      · rw [if_pos hm] at hac
        have hmax : acc.2 ≤ ac.2 ∧ cov (so ++ [s]) ≤ ac.2 ∧ (ac = acc ∨ ac = (so ++ [s], cov (so ++ [s]))) := by
          rw [hac]
          unfold updC
          split
          · exact ⟨by show acc.2 ≤ cov _; omega, Int.le_refl _, .inr rfl⟩
          · exact ⟨Int.le_refl _, by omega, .inl rfl⟩
        refine ⟨hmax.1, fun t _ ht => ?_, hmax.2.2.elim .inl fun e => .inr ⟨[], List.nil_sublist _, by simpa using hm, by simpa using e⟩⟩
        have ht0 : t = [] := by
          rw [List.length_append] at ht
          exact List.eq_nil_of_length_eq_zero (by omega)
        rw [ht0, List.append_nil]
        exact hmax.2.1
      · rw [if_neg hm] at hac
        rw [hac]
        exact tryL_ok cov many r (so ++ [s]) acc (by omega)
    have hB := tryL_ok cov many r so ac h
    rw [← hst] at hB
    obtain ⟨a1, a2, a3⟩ := hA
    obtain ⟨b1, b2, b3⟩ := hB
    refine ⟨Int.le_trans a1 b1, fun t ht hl => ?_, ?_⟩
    · cases ht with
      | cons _ ht => exact b2 t ht hl
      | cons_cons _ ht =>
        rename_i t'
        have e : so ++ s :: t' = so ++ [s] ++ t' := by simp
        rw [e] at hl ⊢
        exact Int.le_trans (a2 t' ht hl) b1
    · rcases b3 with e | ⟨t, ht, hl, e⟩
      · rcases a3 with e2 | ⟨t, ht, hl, e2⟩
        · exact .inl (e.trans e2)
        · have e3 : so ++ [s] ++ t = so ++ s :: t := by simp
          rw [e3] at hl e2
          exact .inr ⟨s :: t, ht.cons_cons _, hl, e.trans e2⟩
      · exact .inr ⟨t, ht.cons _, hl, e⟩
theorem tryG_ok (cov : List ByteArray → Int) (hc : ∀ t, 0 ≤ cov t) (k : Nat) (l : List ByteArray) (hk : k ≤ l.length) :
    (∀ t, t.Sublist l → t.length = k → cov t ≤ (tryG cov (k : Int) l [] ([], -1)).2) ∧ ∃ t, t.Sublist l ∧ t.length = k ∧ tryG cov (k : Int) l [] ([], -1) = (t, cov t) := by
  unfold tryG
  by_cases h0 : k = 0
  · subst h0
    rw [if_pos (by simp)]
    have hu : updC cov [] ([], -1) = ([], cov []) := by
      unfold updC
      rw [if_pos (by have := hc []; show (-1 : Int) < cov []; omega)]
    rw [hu]
    refine ⟨fun t _ ht => ?_, [], List.nil_sublist _, rfl, rfl⟩
    rw [List.eq_nil_of_length_eq_zero ht]
    exact Int.le_refl _
  · rw [if_neg (by simp; omega)]
    obtain ⟨_, h2, h3⟩ := tryL_ok cov k l [] ([], -1) (by simp; omega)
    simp only [List.nil_append] at h2 h3
    refine ⟨fun t ht hl => h2 t ht (by omega), ?_⟩
    rcases h3 with e | ⟨t, ht, hl, e⟩
    · have := h2 (l.take k) (List.take_sublist _ _) (by rw [List.length_take]; omega)
      rw [e] at this
      have := hc (l.take k)
      omega
    · exact ⟨t, ht, by omega, e⟩
theorem sub_more {l : List ByteArray} : ∀ {t : List ByteArray}, t.Sublist l → t.length < l.length → ∃ t', t.Sublist t' ∧ t'.Sublist l ∧ t'.length = t.length + 1 := by
  intro t h
  induction h with
  | slnil => intro hl; exact absurd hl (by simp)
  | cons a h ih =>
    rename_i l1 l2
    intro hl
    exact ⟨a :: l1, (List.Sublist.refl _).cons _, h.cons_cons _, by simp⟩
  | cons_cons a h ih =>
    intro hl
    obtain ⟨t', h1, h2, h3⟩ := ih (by simpa using hl)
    exact ⟨a :: t', h1.cons_cons _, h2.cons_cons _, by simp [h3]⟩
theorem covS_mono {r : ByteArray → ByteArray → Bool} {l l' : List ByteArray} (h : l.Sublist l') : ∀ (ws : List Wgt), (∀ w ∈ ws, 0 ≤ w.many) → covS r l ws ≤ covS r l' ws
  | [], _ => Int.le_refl _
  | w :: ws, hw => by
    have ih := covS_mono (r := r) h ws (fun x hx => hw x (List.mem_cons_of_mem _ hx))
    have h0 := hw w (by simp)
    unfold covS
    cases h1 : l.any (fun s => r s w.node) with
    | false => simp only [Bool.false_eq_true, if_false]; split <;> omega
    | true =>
      have h2 : l'.any (fun s => r s w.node) = true := by
        rw [List.any_eq_true] at h1 ⊢
        obtain ⟨x, hx, he⟩ := h1
        exact ⟨x, h.subset hx, he⟩
      rw [h2]
      simp only [if_true]
      omega
/-- What the law weighs: k sites, one more of them, and what the chosen ones cover. -/
theorem more_ok {ns : List Node} {rs : List Arc} {bs : List Ban} {sites : List ByteArray} {ws : List Wgt} {ad wi : Int} {k : Nat} (hR : roadsF ns rs bs = 0) (hs : sitesF ns sites = 0) (hw : wgtsF ns ws = 0) (hm : momB ad = true) (hwi : 0 ≤ wi ∧ wi ≤ 86400000) (hk : k < sites.length) :
    chooseF ns rs bs sites k ws ad wi = 0 ∧ chooseF ns rs bs sites (k + 1) ws ad wi = 0 ∧ coverF ns rs bs (chooseP ns rs bs sites k ws ad wi).1 ws ad wi = 0 ∧
      (chooseP ns rs bs sites k ws ad wi).1.length = k ∧ (chooseP ns rs bs sites k ws ad wi).2 ≤ (chooseP ns rs bs sites (k + 1) ws ad wi).2 ∧ coverV ns rs bs (chooseP ns rs bs sites k ws ad wi).1 ws ad wi = (chooseP ns rs bs sites k ws ad wi).2 := by
  have hrest : restF ns ws ad wi = 0 := by
    unfold restF
    rw [if_pos hw, hm]
    have ho : outB wi 0 86400000 = false := outB_false.2 ⟨hwi.1, hwi.2⟩
    rw [ho]
    rfl
  have hF : ∀ j : Int, 0 ≤ j → j ≤ sites.length → chooseF ns rs bs sites j ws ad wi = 0 := by
    intro j h0 h1
    unfold chooseF
    have ho : outB j 0 (sites.length : Int) = false := outB_false.2 ⟨h0, h1⟩
    rw [if_pos hR, if_pos hs, ho, if_neg (by simp), hrest]
  have hF1 := hF k (by omega) (by omega)
  have hF2 := hF (k + 1) (by omega) (by omega)
  have hb := wgts_bd hw
  have hc : ∀ t, 0 ≤ (fun so => covS (reachB ns rs bs ad wi) so ws) t := fun t => (covS_bd ws (fun x hx => (hb.2 x hx).2)).1
  have hP : ∀ j : Int, chooseF ns rs bs sites j ws ad wi = 0 → chooseP ns rs bs sites j ws ad wi = tryG (fun so => covS (reachB ns rs bs ad wi) so ws) j sites [] ([], -1) := by
    intro j hj
    unfold chooseP
    rw [if_pos hj]
    rfl
  obtain ⟨t, ht, htl, e⟩ := (tryG_ok _ hc k sites (by omega)).2
  have h2 := (tryG_ok _ hc (k + 1) sites (by omega)).1
  rw [hP k hF1, hP (k + 1) hF2, e]
  obtain ⟨t', s1, s2, s3⟩ := sub_more ht (by omega)
  have hsub : ∀ s ∈ t, 0 ≤ nodeI ns s := fun s h => (site_ok hs).2 s (ht.subset h)
  have hcov : coverF ns rs bs t ws ad wi = 0 := by
    unfold coverF
    have hmiss : missB ns t = false := by
      unfold missB
      rw [List.any_eq_false]
      intro s h
      have := hsub s h
      simp
      omega
    rw [if_pos hR, hmiss, if_neg (by simp), hrest]
  refine ⟨hF1, hF2, hcov, htl, ?_, ?_⟩
  · have h3 := h2 t' s2 (by omega)
    have h4 := covS_mono (r := reachB ns rs bs ad wi) s1 ws (fun x hx => (hb.2 x hx).2.1)
    show covS (reachB ns rs bs ad wi) t ws ≤ _
    exact Int.le_trans h4 (by simpa using h3)
  · show coverV ns rs bs t ws ad wi = covS (reachB ns rs bs ad wi) t ws
    unfold coverV
    rw [if_pos hcov]
/-- All nodes are sites. -/
theorem sites_all {ns : List Node} (h : nodesF ns = 0) (hl : ns.length ≤ 14) : sitesF ns (ns.map (·.key)) = 0 := by
  have hS := sortN_of h
  unfold sitesF
  rw [List.length_map, if_neg (by omega)]
  suffices hh : ∀ (k : Nat), k ≤ ns.length → ∀ p : Option ByteArray, (∀ q, p = some q → ∃ j, j < k ∧ q = (ns.getD j default).key) → chk (siteF ns) p ((ns.drop k).map (·.key)) = 0 from hh 0 (Nat.zero_le _) none (fun q e => by cases e)
  intro k hk
  obtain ⟨d, hd⟩ : ∃ d, d = ns.length - k := ⟨_, rfl⟩
  induction d generalizing k with
  | zero =>
    intro p _
    rw [List.drop_eq_nil_of_le (by omega)]
    rfl
  | succ d ih =>
    intro p hp
    have hlt : k < ns.length := by omega
    rw [List.drop_eq_getElem_cons hlt, List.map_cons, chk]
    have e : ns[k] = ns.getD k default := by rw [List.getD_eq_getElem?_getD, List.getElem?_eq_getElem hlt]; rfl
    have hF : siteF ns p ns[k].key = 0 := by
      unfold siteF
      rw [e, if_neg (by rw [node_at hS hlt]; omega)]
      cases p with
      | none => rfl
      | some q =>
        obtain ⟨j, hj, rfl⟩ := hp q rfl
        have := lt_strLf (hS.at hj hlt)
        show (if strLe _ _ = true then (7 : Int) else 0) = 0
        rw [this]
        rfl
    rw [if_pos hF]
    exact ih (k + 1) (by omega) (by omega) (some ns[k].key) (fun q hq => by
      injection hq with hq
      exact ⟨k, by omega, by rw [← hq, e]⟩)
end Go.Proofs.YtbjbeddjaajdaaaGreatDoor
/- Plain: what the law TopChosenReach weighs. -/
namespace Go.Proofs.YtbjbeddjaajdaaaGreatDoor
open Go.RowKit

def hasP (L : List PairS) (t : ByteArray) : Bool := L.any (fun p => decide (p.name = t))
theorem hasP_nil : hasP [] = fun _ => false := rfl
theorem hasP_take {L : List PairS} {i : Nat} (hi : i < L.length) (t : ByteArray) : hasP (L.take (i + 1)) t = (hasP (L.take i) t || decide (t = L[i].name)) := by
  unfold hasP
  rw [List.take_succ_eq_append_getElem hi, List.any_append]
  have e : (decide (L[i].name = t) : Bool) = decide (t = L[i].name) := decide_eq_decide.2 ⟨Eq.symm, Eq.symm⟩
  simp [e]
/-- The map of those that are reached: one more. -/
theorem put_has {A : ByteArray → Bool} {L : List PairS} {i : Nat} (hi : i < L.length) : (fun t => if t = L[i].name then true else (A t || hasP (L.take i) t)) = fun t => A t || hasP (L.take (i + 1)) t := by
  funext t
  rw [hasP_take hi]
  by_cases e : t = L[i].name
  · simp [e]
  · simp [e]
theorem any_take {R : ByteArray → List PairS} {l : List ByteArray} {j : Nat} (hj : j < l.length) (t : ByteArray) : ((l.take (j + 1)).any fun s => hasP (R s) t) = (((l.take j).any fun s => hasP (R s) t) || hasP (R l[j]) t) := by
  rw [List.take_succ_eq_append_getElem hj, List.any_append]
  simp
section
variable {ns : List Node} {rs : List Arc} {bs : List Ban} {ad wi : Int}
theorem top_one {s t : ByteArray} (hR : roadsF ns rs bs = 0) (hs : 0 ≤ nodeI ns s) (ht : 0 ≤ nodeI ns t) (hm : momB ad = true) (hw : 0 ≤ wi ∧ wi ≤ 86400000) : hasP (reachL ns rs bs s ad wi) t = reachB ns rs bs ad wi s t := by
  obtain ⟨i, hi, _, e2⟩ := node_found ht
  have hS := sortN_of (roads_ok hR).1
  unfold hasP
  rw [reach_list hR hs hm hw, ← e2, rOf_any hS _ ad wi hi]
  unfold reachB arrS
  have e : nodeN ns (ns.getD i default).key = i := by
    unfold nodeN
    rw [node_at hS hi]
    rfl
  rw [e]
theorem top_any {l : List ByteArray} {t : ByteArray} (hR : roadsF ns rs bs = 0) (hs : ∀ s ∈ l, 0 ≤ nodeI ns s) (ht : 0 ≤ nodeI ns t) (hm : momB ad = true) (hw : 0 ≤ wi ∧ wi ≤ 86400000) :
    (l.any fun s => hasP (reachL ns rs bs s ad wi) t) = l.any fun s => reachB ns rs bs ad wi s t := by
  induction l with
  | nil => rfl
  | cons s l ih =>
    rw [List.any_cons, List.any_cons, top_one hR (hs s (by simp)) ht hm hw, ih (fun x hx => hs x (List.mem_cons_of_mem _ hx))]
theorem node_dom {s : ByteArray} (hR : roadsF ns rs bs = 0) (h : 0 ≤ nodeI ns s) : domS s := by
  obtain ⟨i, hi, _, e2⟩ := node_found h
  rw [← e2, List.getD_eq_getElem?_getD, List.getElem?_eq_getElem hi]
  exact (newOk_of hR).kn _ (List.getElem_mem hi)
theorem reach_dom {s : ByteArray} (hR : roadsF ns rs bs = 0) (hs : 0 ≤ nodeI ns s) (hm : momB ad = true) (hw : 0 ≤ wi ∧ wi ≤ 86400000) : ∀ p ∈ reachL ns rs bs s ad wi, domS p.name := by
  intro p hp
  rw [reach_list hR hs hm hw] at hp
  obtain ⟨i, hi, _, rfl⟩ := (rOf_mem _ ad wi ns 0 p).1 hp
  show domS (ns.getD i default).key
  rw [List.getD_eq_getElem?_getD, List.getElem?_eq_getElem hi]
  exact (newOk_of hR).kn _ (List.getElem_mem hi)
/-- What Choose answers when nothing is wrong. -/
theorem top_ok {sites : List ByteArray} {ws : List Wgt} {k : Nat} (hR : roadsF ns rs bs = 0) (hs : sitesF ns sites = 0) (hw : wgtsF ns ws = 0) (hm : momB ad = true) (hwi : 0 ≤ wi ∧ wi ≤ 86400000) (hk : k ≤ sites.length) :
    chooseF ns rs bs sites k ws ad wi = 0 ∧ (∀ s ∈ (chooseP ns rs bs sites k ws ad wi).1, 0 ≤ nodeI ns s) ∧ (chooseP ns rs bs sites k ws ad wi).1.length = k ∧ (chooseP ns rs bs sites k ws ad wi).2 = covS (reachB ns rs bs ad wi) (chooseP ns rs bs sites k ws ad wi).1 ws := by
  have hrest : restF ns ws ad wi = 0 := by
    unfold restF
    rw [if_pos hw, hm]
    have ho : outB wi 0 86400000 = false := outB_false.2 ⟨hwi.1, hwi.2⟩
    rw [ho]
    rfl
  have hF : chooseF ns rs bs sites k ws ad wi = 0 := by
    unfold chooseF
    have ho : outB (k : Int) 0 (sites.length : Int) = false := outB_false.2 ⟨by omega, by omega⟩
    rw [if_pos hR, if_pos hs, ho, if_neg (by simp), hrest]
  have hb := wgts_bd hw
  have hc : ∀ t, 0 ≤ (fun so => covS (reachB ns rs bs ad wi) so ws) t := fun t => (covS_bd ws (fun x hx => (hb.2 x hx).2)).1
  have hP : chooseP ns rs bs sites k ws ad wi = tryG (fun so => covS (reachB ns rs bs ad wi) so ws) k sites [] ([], -1) := by
    unfold chooseP
    rw [if_pos hF]
    rfl
  obtain ⟨t, ht, htl, e⟩ := (tryG_ok _ hc k sites hk).2
  rw [hP, e]
  exact ⟨hF, fun s h => (site_ok hs).2 s (ht.subset h), htl, rfl⟩
end
end Go.Proofs.YtbjbeddjaajdaaaGreatDoor
/- Weights: the stream's. -/
namespace Go.Proofs.YtbjbeddjaajdaaaGreatDoor
open Go.RowKit

theorem el_Wgt : ElemOf Tryz.prog 71 86 2 24 := ElemOf.mk' (z := .agg #[.string ByteArray.empty, .int .i64 0]) Tryz.underlying71 (by kernel_rfl) rfl
def StrWs (s k most : Nat) (w : World) (e : Ending) (w' : World) : Prop := ∃ (D : Option Addr) (cd : Nat) (l : List Wgt), e = .returned (.slice D l.length cd) ∧ l.length ≤ most ∧ Rd w' w.heap.size D 2 encW l ∧ Gr s w w' ∧ Str w' s k
set_option maxRecDepth 100000 in
set_option maxHeartbeats 4000000 in
theorem w_Weights (s k lo : Nat) (A B C : Option Addr) (n1 n2 ca cb cc : Nat) (ns : List Node) (w : World) (hS : Str w s k) (hk : k < 600000) (hR : Rd w lo A 3 encNode ns) (hl : ns.length ≤ 400) (hlo : s < lo) :
    Calls Tryz.prog 30 #[.pointer (some ⟨s, 0, none⟩), .agg #[.slice A ns.length ca, .slice B n1 cb, .slice C n2 cc]] w (StrWs s (k + 2 * ns.length + 5) ns.length w) := by
  have hsl := hS.lt
  obtain ⟨wa, hwa⟩ : ∃ wa, wa = w.alloc (.cells #[.slice A ns.length ca, .slice B n1 cb, .slice C n2 cc] 30) := ⟨_, rfl⟩
  have hna : Nx w wa := hwa ▸ (Nx.refl w).alloc _
  have hgw : w.heap.size < wa.heap.size := by rw [hwa]; simp
  have b0 : wa.cell? ⟨w.heap.size, 0, none⟩ = some (.slice A ns.length ca) := by rw [hwa]; go_simp
  have HRN := hide (hR.nx hna)
  have HSA := hide (hS.nx hna)
  have HWA := hide hwa
  have HNA := hide hna
  have hsa : s < wa.heap.size := by omega
  clear hwa hna hR hS
  have hsz := HNA.out.sz
  generalize hn : ns.length = n at *
  have HN := hide hn
  clear hn
  go_enter Tryz.func30, Tryz.ntmps30
  go_upto_region 1 with fail
  rw [← HWA.out]
  generalize hg : w.heap.size = g at *
  go_wp2_with fail
  clear b0
  go_loopw [5, 12] (fun v u wr => ∃ (j : Nat) (l : List Wgt), j ≤ n ∧ u = .int .i64 (j : Int) ∧ l.length ≤ j ∧ wr.ownsRow wa.heap.size 86 2 v l.length (l.flatMap encW) ∧ Gr s wa wr ∧ Str wr s (k + 2 * j)) (fun _ u _ => n - (intOf u).toNat)
  case atStart => exact ⟨0, [], Nat.zero_le _, rfl, Nat.zero_le _, World.ownsRow_nil _ _ _ _, Gr.refl _ _, HSA.out⟩
  case round =>
    obtain ⟨j, l, hj, rfl, hlj, hown, hgr, hSr⟩ := hrel
    have HO := hide hown
    have HGR := hide hgr
    have HSR := hide hSr
    have HLJ := hide hlj
    have hszr := hgr.sz
    clear hown hgr hSr hlj
    by_cases hlt : j < n
    · have hlt' : j < ns.length := by have := HN.out; omega
      obtain ⟨yb, yo, rfl, _, hyb, hyb1, hyc⟩ := (HRN.out.gr HGR.out hlo).open_ (Nx.refl wr) (by omega)
      have c0 : wr.cell? ⟨yb, yo + j * 3, none⟩ = some (.string ns[j].key) := hyc j hlt' 0 _ rfl
      have c1 : wr.cell? ⟨yb, yo + j * 3 + 1, none⟩ = some (.int .i64 ns[j].x) := hyc j hlt' 1 _ rfl
      have c2 : wr.cell? ⟨yb, yo + j * 3 + 2, none⟩ = some (.int .i64 ns[j].y) := hyc j hlt' 2 _ rfl
      clear hyc
      generalize ns[j].key = key at *
      generalize ns[j].x = nx at *
      generalize ns[j].y = ny at *
      obtain ⟨wb, hwb⟩ : ∃ wb, wb = wr.alloc (.cells #[.string key, .int .i64 nx, .int .i64 ny] 76) := ⟨_, rfl⟩
      have hnb : Nx wr wb := hwb ▸ (Nx.refl wr).alloc _
      have hsb : wr.heap.size < wb.heap.size := by rw [hwb]; simp
      have HLT := hide (fun x (hx : u5.ownBlock = some x) => (HO.out.lt x hx).2)
      have k0 : wb.cell? ⟨wr.heap.size, 0, none⟩ = some (.string key) := by rw [hwb]; go_simp
      have HOB := hide (own_nx HO.out hnb)
      have HGB := hide (HGR.out.then_nx hnb)
      have HSB := hide (HSR.out.nx hnb)
      have HK0 := hide (fun W (h : Gr s wb W) => World.grownBy.cell (row := some s) h k0 (by simp; omega))
      have HWB := hide hwb
      clear hwb hnb k0
      go_upto_region 5 with fail
      rw [← HWB.out]
      clear HWB c0 c1 c2
      generalize wr.heap.size = p7 at *
      go_wp2_with fail
      refine (w_Flip 4 s _ wb HSB.out (by omega) (by omega)).mono ?_
      rintro e w3 ⟨fl, rfl, hg3, hS3⟩
      have HO3 := hide (own_gr HOB.out hg3 hsa)
      have HG3 := hide (HGB.out.trans hg3)
      have HK3 := hide hg3
      cases fl
      · have m0 := HK0.out w3 HK3.out
        have hd := (Nx.refl w3).drew
        have HOD := hide (own_nx HO3.out hd)
        have HGD := hide (HG3.out.then_nx hd)
        have HSD := hide (hS3.nx hd)
        have HKD := hide (HK3.out.then_nx hd)
        go_upto_region 6 with fail
        refine wp_region_held_drew (S := fun w' => w'.cell? ⟨p7, 0, none⟩ = some (.string key)) (by kernel_rfl) ?_ (fun hHeld => ?_)
        · exact m0
        clear m0 hd hS3 hg3
        refine wpAnyH_take (i := 0) (oi := ⟨some 19, _, _, _, _, _⟩) (v := ?_) rfl (by kernel_rfl) (by kernel_rfl) (by kernel_rfl) (fun _ _ _ h => h) (Or.inl ⟨by rfl, ?_⟩) (by assumption) ?_
        rotate_left 1
        · intro w hSw
          (try dsimp only at hSw)
          go_simp
          try with_reducible rfl
        try simp only [Act.put, List.setIfInBounds_toArray, List.set_cons_zero, List.set_cons_succ]
        refine wpAnyH_take (i := 1) (oi := ⟨some 20, _, _, _, _, _⟩) (v := ?_) rfl (by kernel_rfl) (by kernel_rfl) (by kernel_rfl) (fun _ _ _ h => h) (Or.inl ⟨by rfl, ?_⟩) (by assumption) ?_
        rotate_left 1
        · intro w hSw
          (try dsimp only at hSw)
          go_simp
          try with_reducible rfl
        try simp only [Act.put, List.setIfInBounds_toArray, List.set_cons_zero, List.set_cons_succ]
        refine wpAnyH_take (i := 2) (oi := ⟨some 21, _, _, _, _, _⟩) (v := ?_) rfl (by kernel_rfl) (by kernel_rfl) (by kernel_rfl) (fun _ _ _ h => h) (Or.inl ⟨by rfl, ?_⟩) (by assumption) ?_
        rotate_left 1
        · intro w hSw
          (try dsimp only at hSw)
          go_simp
          try with_reducible rfl
        try simp only [Act.put, List.setIfInBounds_toArray, List.set_cons_zero, List.set_cons_succ]
        refine wpAnyH_take (i := 3) (oi := ⟨some 22, _, _, _, _, _⟩) (v := ?_) rfl (by kernel_rfl) (by kernel_rfl) (by kernel_rfl) (fun _ _ _ h => h) (Or.inl ⟨by rfl, ?_⟩) (by assumption) ?_
        rotate_left 1
        · intro w hSw
          (try dsimp only at hSw)
          go_simp
          try with_reducible rfl
        try simp only [Act.put, List.setIfInBounds_toArray, List.set_cons_zero, List.set_cons_succ]
        generalize w3.drew = wd at *
        have hsd := HSD.out.lt
        refine wpAnyH_ready (rs := [4]) (by kernel_rfl) (by simp) ?_
        refine AllReadyH.cons rfl (fun K hK => ?_) AllReadyH.nil
        go_simp
        refine hK.out _ _ (HK0.out _ (HKD.out.alloc _)) (fun hHeld => ?_)
        clear hK K
        try simp only [Act.put, List.setIfInBounds_toArray, List.set_cons_zero, List.set_cons_succ]
        refine wpAnyH_ready (rs := [5]) (by kernel_rfl) (by simp) ?_
        refine AllReadyH.cons rfl (fun K hK => ?_) AllReadyH.nil
        go_simp
        go_at_call 7
        refine (w_PickI wd.heap.size [0, 1, 5, 10] _ _ _ _ (HSD.out.nx ((Nx.refl wd).alloc _)) (by omega) (hnew rfl) (by omega) rfl (by simp) (by simp)).mono ?_
        rintro e w4 ⟨z, hz, rfl, hg4, hS4⟩
        have HO4 := hide (own_gr (HOD.out.alloc _) hg4 hsa)
        have HG4 := hide ((HGD.out.alloc _).trans hg4)
        have HK4 := hide ((HKD.out.alloc _).trans hg4)
        have HS4 := hide hS4
        clear hg4 hS4 hz
        go_simp
        refine hK.out _ _ (HK0.out _ HK4.out) (fun hHeld => ?_)
        clear hK K
        try simp only [Act.put, List.setIfInBounds_toArray, List.set_cons_zero, List.set_cons_succ]
        refine wpAnyH_take (i := 6) (oi := ⟨some 25, _, _, _, _, _⟩) (v := ?_) rfl (by kernel_rfl) (by kernel_rfl) (by kernel_rfl) (fun _ _ _ h => h) (Or.inl ⟨by rfl, ?_⟩) (by assumption) ?_
        rotate_left 1
        · intro w hSw
          (try dsimp only at hSw)
          go_simp
          try with_reducible rfl
        try simp only [Act.put, List.setIfInBounds_toArray, List.set_cons_zero, List.set_cons_succ]
        refine wpAnyH_ready (rs := [7]) (by kernel_rfl) (by simp) ?_
        refine AllReadyH.cons rfl (fun K hK => ?_) AllReadyH.nil
        go_simp
        refine hK.out _ _ (HK0.out _ (HK4.out.alloc _)) (fun hHeld => ?_)
        clear hK K
        try simp only [Act.put, List.setIfInBounds_toArray, List.set_cons_zero, List.set_cons_succ]
        refine wpAnyH_ready (rs := [8]) (by kernel_rfl) (by simp) ?_
        refine AllReadyH.cons rfl (fun K hK => ?_) AllReadyH.nil
        refine step_app rfl _ _ _ rfl el_Wgt encW encW_len encW_one (by omega) (by omega) wa.heap.size _ l rfl (HO4.out.alloc _) _ ⟨key, z⟩ _ rfl (hnew rfl) rfl (by have := HLJ.out; omega) (by have := HG4.out.sz; simp; omega) ?_
        intro v9 w9 hown9 hg9 _
        have HO9 := hide hown9
        have HG9 := hide ((HG4.out.alloc (.cells #[.string key, .int .i64 z] 86)).grown hg9 (fun x hx => .inr (own_blk_lt HO4.out x hx)))
        have HS9 := hide ((HS4.out.nx ((Nx.refl w4).alloc (.cells #[.string key, .int .i64 z] 86))).row hg9 (fun x hx => Nat.lt_of_lt_of_le hsa (own_blk_lt HO4.out x hx)))
        have HC9 := hide (World.grownBy.cell hg9 (HK0.out _ (HK4.out.alloc _)) (show some p7 ≠ _ from fun e => absurd (HLT.out p7 e.symm) (Nat.lt_irrefl _)))
        clear hown9 hg9
        refine hK.out _ _ HC9.out (fun hHeld => ?_)
        clear hK K
        try simp only [Act.put, List.setIfInBounds_toArray]
        refine wpAnyH_take (i := 9) (oi := ⟨some 5, _, _, _, _, _⟩) (v := ?_) rfl (by kernel_rfl) (by kernel_rfl) (by kernel_rfl) (fun _ _ _ h => h) (Or.inl ⟨by rfl, ?_⟩) (by assumption) ?_
        rotate_left 1
        · intro w hSw
          (try dsimp only at hSw)
          go_simp
          try with_reducible rfl
        try simp only [Act.put]
        refine wpAnyH_done (by kernel_rfl) ?_ _
        go_wp2
        go_roundw
        case rel => exact ⟨j + 1, l ++ [⟨key, z⟩], by omega, by go_num, by have := HLJ.out; simp; omega, HO9.out, HG9.out, HS9.out.more (by omega)⟩
        case measure => simp [intOf]; omega
      · go_wp2_with fail
        go_roundw
        case rel => exact ⟨j + 1, l, by omega, by go_num, by have := HLJ.out; omega, HO3.out, HG3.out, hS3.more (by omega)⟩
        case measure => simp [intOf]; omega
    · obtain rfl : n = j := by omega
      have HE := hide (fun (W : World) (l' : List Wgt) (D : Option Addr) (cd : Nat) (k' : Nat) (h1 : Gr s wa W) (h2 : Str W s k') (hk' : k' ≤ k + 2 * n + 5) (h3 : l'.length ≤ n) (h4 : Rd W wa.heap.size D 2 encW l') => (show StrWs s (k + 2 * n + 5) n w (.returned (.slice D l'.length cd)) W from ⟨D, cd, l', rfl, h3, h4.low (by omega), (Gr.of_nx HNA.out).trans h1, h2.more hk'⟩))
      rcases HO.out.2 with ⟨rfl, h0⟩ | ⟨g5, cap, cur, rfl, hg5, hh5, hcap5, _⟩
      · have hl0 := List.eq_nil_of_length_eq_zero h0
        subst hl0
        clear h0 HO
        go_wp2_with fail
        go_ret
        exact HE.out wr [] none 0 _ HGR.out HSR.out (by omega) (Nat.zero_le _) Rd.nil
      · have hlb : l.length ≤ n := HLJ.out
        have hg5l := lt_of_heap hh5
        clear hh5
        obtain ⟨m, hm⟩ : ∃ m, m = l.length := ⟨_, rfl⟩
        have HM := hide hm
        rw [← hm]
        rw [← hm] at hcap5 hlb
        have HO := hide (show wr.ownsRow wa.heap.size 86 2 (.slice (some ⟨g5, 0, none⟩) m cap) m (l.flatMap encW) by rw [hm]; exact HO.out)
        clear hm
        have hsr := HSR.out.lt
        have hgs : s ≠ g5 := by omega
        by_cases h0 : m = 0
        · subst h0
          go_wp2_with fail
          go_ret
          have hl0 : l = [] := List.eq_nil_of_length_eq_zero HM.out.symm
          subst hl0
          exact HE.out wr [] (some ⟨g5, 0, none⟩) cap _ HGR.out HSR.out (by omega) (Nat.zero_le _) Rd.nil
        · have t1 : decide ((m : Int) > 0) = true := decide_eq_true (by omega)
          have t1' : decide ((0 : Int) < (m : Int)) = true := t1
          go_wp2_with fail
          refine (w_Flip 15 s _ wr HSR.out (by omega) (by omega)).mono ?_
          rintro e w3 ⟨fl, rfl, hg3, hS3⟩
          have HO3 := hide (own_gr HO.out hg3 hsa)
          have HG3 := hide (HGR.out.trans hg3)
          have HS3 := hide hS3
          clear hg3 hS3
          cases fl
          · go_wp2_with fail
            go_ret
            rw [HM.out]
            exact HE.out w3 l _ cap _ HG3.out HS3.out (by omega) (by rw [← HM.out]; exact hlb) (by obtain ⟨D', c', e, h, _⟩ := Rd.of_own encW_len HM.out HO3.out; injection e with e1 _ _; rw [e1]; exact h)
          · go_wp2_with fail
            refine (w_Next (m : Int) s _ w3 HS3.out (by omega) (by omega)).mono ?_
            rintro e w4 ⟨r, hr1, hr2, rfl, hg4, hS4⟩
            obtain ⟨r, rfl⟩ := Int.eq_ofNat_of_zero_le hr1
            have hrm : r < m := by omega
            have hrl : r < l.length := by have := HM.out; omega
            have HO4 := hide (own_gr HO3.out hg4 hsa)
            have HG4 := hide (HG3.out.trans hg4)
            have HS4 := hide hS4
            have q1 : (0 : Int) ≤ (r : Int) := by omega
            have q2 : (r : Int) < (m : Int) := by omega
            clear hg4 hS4
            have e0 := own_cell encW_len HM.out.symm HO4.out r hrl 0 (.string l[r].node) rfl
            have e0' : w4.cell? ⟨g5, r * 2, none⟩ = some (.string l[r].node) := e0
            clear e0
            have hs4 := HS4.out.lt
            go_wp2_with fail
            refine (w_Some w4.heap.size [l[r].node, ⟨#[122, 122]⟩, ⟨#[110, 97]⟩] _ s _ _ (HS4.out.nx ((Nx.refl w4).alloc _)) (by omega) (hnew rfl) (by omega) rfl (by simp) (by simp)).mono ?_
            rintro e w5 ⟨nk, _, rfl, hg5', hS5⟩
            have HO5 := hide (own_gr (HO4.out.alloc _) hg5' hsa)
            have HG5 := hide ((HG4.out.alloc _).trans hg5')
            have HS5 := hide hS5
            clear hg5' hS5 e0'
            go_wp2_with fail
            refine (w_Odd 0 1000000000 s _ w5 HS5.out (by omega) (by omega) (by omega)).mono ?_
            rintro e w6 ⟨mk, _, _, rfl, hg6, hS6⟩
            have HO6 := hide (own_gr HO5.out hg6 hsa)
            have HG6 := hide (HG5.out.trans hg6)
            have HS6 := hide hS6
            clear hg6 hS6
            have e1 : w6.cell? ⟨g5, r * 2, none⟩ = some (.string l[r].node) := own_cell encW_len HM.out.symm HO6.out r hrl 0 (.string l[r].node) rfl
            have hfz : ∀ (W : World) (xs : List Value) j, W.ownsRow wa.heap.size 86 2 (.slice (some ⟨g5, 0, none⟩) m cap) m xs → W.frozen? ⟨g5, j, none⟩ = false := by
              intro W xs j h
              rcases h.2 with ⟨e, _⟩ | ⟨g', cap', cur', e, _, hh, _⟩
              · cases e
              · injection e with e _ _
                injection e with e
                injection e with e _ _
                subst e
                exact frozen_blkQ hh
            have f1 := hfz w6 _ (r * 2) HO6.out
            have HO7 := hide (own_set encW_len HM.out.symm HO6.out r hrl 0 (by omega) (.string nk) ⟨nk, l[r].many⟩ rfl (r * 2) (by omega))
            have hll : (l.set r ⟨nk, l[r].many⟩).length = m := by rw [List.length_set]; exact HM.out.symm
            have e2 : (w6.setCell ⟨g5, r * 2, none⟩ (.string nk)).cell? ⟨g5, r * 2 + 1, none⟩ = some (.int .i64 l[r].many) := own_cell encW_len hll HO7.out r (by rw [hll]; exact hrm) 1 (.int .i64 l[r].many) (by rw [List.getElem_set_self]; rfl)
            have f2 := hfz _ _ (r * 2 + 1) HO7.out
            have HO8 := hide (own_set encW_len hll HO7.out r (by rw [hll]; exact hrm) 1 (by omega) (.int .i64 mk) ⟨nk, mk⟩ (by rw [List.getElem_set_self]; rfl) (r * 2 + 1) rfl)
            have hl8 : m = ((l.set r ⟨nk, l[r].many⟩).set r ⟨nk, mk⟩).length := by rw [List.length_set]; exact hll.symm
            have HL8 := hide hl8
            clear hfz hll hl8
            go_wp2_with fail
            go_ret
            rw [HL8.out]
            have hgr2 := ((Gr.refl g5 w6).setS (p := ⟨g5, r * 2, none⟩) (.inl rfl) (.string nk)).setS (p := ⟨g5, r * 2 + 1, none⟩) (.inl rfl) (.int .i64 mk)
            exact HE.out _ _ _ cap (k + 2 * n + 1 + 1 + 1 + 2) ((HG6.out.setS (p := ⟨g5, r * 2, none⟩) (.inr hg5) _).setS (p := ⟨g5, r * 2 + 1, none⟩) (.inr hg5) _) (HS6.out.row hgr2 (fun x hx => by injection hx with hx; omega)) (by omega) (by rw [← HL8.out]; exact hlb) (by obtain ⟨D', c', e, h, _⟩ := Rd.of_own encW_len HL8.out HO8.out; injection e with e1 _ _; rw [e1]; exact h)
end Go.Proofs.YtbjbeddjaajdaaaGreatDoor
/- The nodes that are reached in a time: the program. -/
namespace Go.Proofs.YtbjbeddjaajdaaaGreatDoor
open Go.RowKit

theorem el_Pair : ElemOf Tryz.prog 80 84 2 32 := ElemOf.mk' (z := .agg #[.string ByteArray.empty, .string ByteArray.empty]) Tryz.underlying80 (by kernel_rfl) rfl
def ReachOut (w : World) (L : List PairS) (F : Int) (e : Ending) (w' : World) : Prop := ∃ (Z : Option Addr) (c : Nat), e = .returned (.tuple #[.slice Z L.length c, .int .i64 F]) ∧ Rd w' 0 Z 2 encPair L ∧ Nx w w'
set_option maxRecDepth 100000 in
set_option maxHeartbeats 8000000 in
theorem w_Reach (lo : Nat) (A B C : Option Addr) (ca cb cc : Nat) (ns : List Node) (rs : List Arc) (bs : List Ban) (f : ByteArray) (ad wi : Int) (w : World)
    (hN : Rd w lo A 3 encNode ns) (hA : RdArcs w lo B rs) (hB : Rd w lo C 2 encBan bs) (hnl : ns.length ≤ 400) (hal : rs.length ≤ 400) (hbl : bs.length ≤ 400) (hS : SmallN ns) (htab : PowTab w) :
    Calls Tryz.prog 35 #[.agg #[.slice A ns.length ca, .slice B rs.length cb, .slice C bs.length cc], .string f, .int .i64 ad, .int .i64 wi] w (ReachOut w (reachL ns rs bs f ad wi) (reachF ns rs bs f ad wi)) := by
  obtain ⟨wa, hwa⟩ : ∃ wa, wa = w.alloc (.cells #[.slice A ns.length ca, .slice B rs.length cb, .slice C bs.length cc] 30) := ⟨_, rfl⟩
  have hna : Nx w wa := hwa ▸ (Nx.refl w).alloc _
  have hgw : w.heap.size < wa.heap.size := by rw [hwa]; simp
  have b0 : wa.cell? ⟨w.heap.size, 0, none⟩ = some (.slice A ns.length ca) := by rw [hwa]; go_simp
  have b1 : wa.cell? ⟨w.heap.size, 1, none⟩ = some (.slice B rs.length cb) := by rw [hwa]; go_simp
  have b2 : wa.cell? ⟨w.heap.size, 2, none⟩ = some (.slice C bs.length cc) := by rw [hwa]; go_simp
  have hBox : BoxR wa w.heap.size lo A B C ca cb cc ns rs bs := ⟨b0, b1, b2, hgw, hN.nx hna, hA.nx hna, hB.nx hna, hnl, hal, hbl⟩
  have HF := hide (show reachF ns rs bs f ad wi = if endsF ns rs bs f f ad = 0 then (if outB wi 0 86400000 then 1 else 0) else endsF ns rs bs f f ad from rfl)
  have HL := hide (show reachL ns rs bs f ad wi = if reachF ns rs bs f ad wi = 0 then rOf (fun k => arrG (gphOf ns rs bs) (nodeN ns f) k ad) ad wi ns 0 else [] from rfl)
  by_cases hE : endsF ns rs bs f f ad = 0
  · obtain ⟨o1, o2, _, o4⟩ := endsF_ok hE
    have hC := (roads_ok o1).2.1
    have hmb := momB_true.1 o4
    have hil : nodeN ns f < ns.length := nodeN_lt o2
    have hi : nodeI ns f = ((nodeN ns f : Nat) : Int) := by unfold nodeN; omega
    have HEN := hide (fun W (hx : Nx wa W) => w_Ends w.heap.size lo A B C ca cb cc ns rs bs f f ad (nodeN ns f) (nodeN ns f) W (hBox.nx hx) hS o1 (newOk_of o1) hi hi o4)
    have HF := hide (HF.out.trans (if_pos hE))
    have HC := hide hC
    obtain ⟨V, hV⟩ : ∃ V : Nat → Int, V = fun k => arrG (gphOf ns rs bs) (nodeN ns f) k ad := ⟨_, rfl⟩
    rw [← hV] at HL
    have HIX := hide (fun k (hk : k < ns.length) => (show (gi (searchG (gphOf ns rs bs) (nodeN ns f) ad).first k < 0 ∧ V k = endT) ∨ (0 ≤ gi (searchG (gphOf ns rs bs) (nodeN ns f) ad).first k ∧ V k = gi (searchG (gphOf ns rs bs) (nodeN ns f) ad).first k ∧ gi (searchG (gphOf ns rs bs) (nodeN ns f) ad).first k < endT ∧ ad ≤ gi (searchG (gphOf ns rs bs) (nodeN ns f) ad).first k) by rw [hV]; exact arr_ix (bs := bs) hC hil hk hmb.1 (show ad < endT by unfold endT; omega)))
    clear hV
    have HNN := hide (hN.nx hna)
    have HTAB := hide (tab_nx htab hna)
    clear hE hBox b0 b1 b2 hN hA hB o1 o2 o4 hi hC htab
    generalize reachF ns rs bs f ad wi = F at *
    generalize reachL ns rs bs f ad wi = L at *
    generalize nodeN ns f = i at *
    have HWA := hide hwa
    clear hwa
    go_enter Tryz.func35, Tryz.ntmps35
    go_upto_region 1 with fail
    rw [← HWA.out]
    go_wp2_with fail
    refine (HEN.out wa (Nx.refl _)).mono ?_
    rintro e w1 ⟨bm, M, rfl, hbm, hM, hn1⟩
    have HM := hide hM
    have HN1 := hide hn1
    clear hM hbm hn1 HEN
    go_wp2_with fail
    refine (w_Out _ _ _ _).mono ?_
    rintro e w' ⟨rfl, rfl⟩
    cases ho : outB wi 0 86400000
    · have hwi := outB_false.1 ho
      have HF := hide (show F = 0 by rw [HF.out, ho]; rfl)
      have HL := hide (HL.out.trans (if_pos HF.out))
      clear ho
      go_wp2_with fail
      refine (w_Search w1 bm i ad w.heap.size lo A B C ca cb cc M ns rs bs HM.out HC.out hil hmb).mono ?_
      rintro e w2 ⟨a, rfl, hSM⟩
      have HTR := hide hSM.tree
      have hn2 := HN1.out.trans hSM.nx
      have HNR := hide (HNN.out.nx hn2)
      have HTB := hide (tab_nx HTAB.out hn2)
      have HN2 := hide (hna.trans hn2)
      have g0 := (HM.out.box.nx hSM.nx).g0
      clear hSM hn2 HNN HTAB HN1
      have HLN := hide (rOf_len V ad wi ns 0)
      have hF := HF.out
      subst hF
      generalize searchG (gphOf ns rs bs) i ad = R at *
      generalize hnn : ns.length = nn at *
      have HNN := hide hnn
      clear hnn HF HM HC
      go_wp2_with fail
      go_loopw [15, 40] (fun v u wr => ∃ (k : Nat) (acc : List PairS), k ≤ nn ∧ u = .int .i64 k ∧ wr.ownsRow w2.heap.size 84 2 v acc.length (acc.flatMap encPair) ∧ acc.length ≤ k ∧ L = acc ++ rOf V ad wi (ns.drop k) k ∧ Nx w2 wr) (fun _ u _ => nn - (intOf u).toNat)
      case atStart => exact ⟨0, [], Nat.zero_le _, rfl, World.ownsRow_nil _ _ _ _, Nat.le_refl _, by rw [HL.out]; rfl, Nx.refl _⟩
      case round =>
        obtain ⟨k, acc, hk, rfl, hown, hal2, hq, hbw⟩ := hrel
        have HQ := hide hq
        have HO := hide hown
        clear hq hown
        by_cases hlt : k < nn
        · have hlt' : k < ns.length := by have := HNN.out; omega
          have HD := hide (rOf_drop V ad wi ns k hlt')
          obtain ⟨b, off, rfl, _, hb, hbr, hc⟩ := HNR.out.open_ hbw (by omega)
          have c0 : wr.cell? ⟨b, off + k * 3, none⟩ = some (.string ns[k].key) := hc k hlt' 0 _ rfl
          have c1 : wr.cell? ⟨b, off + k * 3 + 1, none⟩ = some (.int .i64 ns[k].x) := hc k hlt' 1 _ rfl
          have c2 : wr.cell? ⟨b, off + k * 3 + 2, none⟩ = some (.int .i64 ns[k].y) := hc k hlt' 2 _ rfl
          clear hc
          have hix := HIX.out k hlt
          have HT := hide (reach_test (wi := wi) hix)
          have hzb : gi R.first k < 345686400000 := by unfold endT at hix; omega
          have HVZ := hide (fun h : 0 ≤ gi R.first k => (show V k = gi R.first k ∧ ad ≤ gi R.first k by rcases hix with h1 | h1 <;> omega))
          have x0 := intRow_cell HTR.out.hF (i := k) (by rw [HTR.out.lF]; exact hlt)
          generalize ns[k].key = ky at *
          generalize ns[k].x = xx at *
          generalize ns[k].y = yy at *
          generalize V k = vk at *
          generalize gi R.first k = z at *
          clear hix
          obtain ⟨wv, hwv⟩ : ∃ wv, wv = wr.alloc (.cells #[.string ky, .int .i64 xx, .int .i64 yy] 76) := ⟨_, rfl⟩
          have hnv : Nx wr wv := hwv ▸ (Nx.refl wr).alloc _
          have d0 : wv.cell? ⟨wr.heap.size, 0, none⟩ = some (.string ky) := by rw [hwv]; go_simp
          have hql : wr.heap.size < wv.heap.size := by rw [hwv]; simp
          have HWV := hide hwv
          clear hwv
          have HNQ := hide (fun j hj => (HO.out.lt j hj).2)
          go_upto_region 11 with fail
          rw [← HWV.out]
          clear c0 c1 c2
          generalize wr.heap.size = q at *
          have hx2 := hbw.trans hnv
          have t3 := nx_cell hx2 (lt_of_heap HTR.out.hT) ((cell_of_row w2 _ 3 _ _ _ HTR.out.hT).trans rfl)
          have x1 := nx_cell hx2 (lt_of_heap HTR.out.hF) x0
          have hTl := Nat.lt_of_lt_of_le (lt_of_heap HTR.out.hT) hx2.sz
          have i1 : (0 : Int) ≤ (k : Int) := by omega
          have i2 : (k : Int) < (nn : Int) := by omega
          have t3 : wv.cell? ⟨a.T, 3, none⟩ = some (.slice (some ⟨a.gF, 0, none⟩) nn nn) := t3
          clear x0
          by_cases h1 : 0 ≤ z
          · have e1 : decide (z ≥ 0) = true := decide_eq_true h1
            have e1' : decide (0 ≤ z) = true := decide_eq_true h1
            have k1 : IntKind.i64.wrap (z - ad) = z - ad := IntWalk.i64_in _ (by omega)
            by_cases h2 : z - ad ≤ wi
            · have e2 : decide (z - ad ≤ wi) = true := decide_eq_true h2
              obtain ⟨hvz, hdz⟩ := HVZ.out h1
              subst hvz
              have HD2 := hide (HD.out.trans (if_pos (HT.out.1 ⟨h1, h2⟩)))
              have hO := own_nx HO.out hnv
              have HOV := hide hO
              clear HD HT HVZ h2 hO
              go_upto_region 13 with fail
              clear t3 x1 e1 e1' e2
              refine wp_region_held_drew (S := fun w' => w'.cell? ⟨q, 0, none⟩ = some (.string ky)) (by kernel_rfl) ?_ (fun hHeld => ?_)
              · exact nx_cell (Nx.refl wv).drew hql d0
              refine wpAnyH_take (i := 0) (oi := ⟨some 61, _, _, _, _, _⟩) (v := ?_) rfl (by kernel_rfl) (by kernel_rfl) (by kernel_rfl) (fun _ _ _ h => h) (Or.inl ⟨by rfl, ?_⟩) (by assumption) ?_
              rotate_left 1
              · intro w hSw
                (try dsimp only at hSw)
                go_simp
                try with_reducible rfl
              try simp only [Act.put, List.setIfInBounds_toArray, List.set_cons_zero, List.set_cons_succ]
              refine wpAnyH_take (i := 1) (oi := ⟨some 62, _, _, _, _, _⟩) (v := ?_) rfl (by kernel_rfl) (by kernel_rfl) (by kernel_rfl) (fun _ _ _ h => h) (Or.inl ⟨by rfl, ?_⟩) (by assumption) ?_
              rotate_left 1
              · intro w hSw
                (try dsimp only at hSw)
                go_simp
                try with_reducible rfl
              try simp only [Act.put, List.setIfInBounds_toArray, List.set_cons_zero, List.set_cons_succ]
              refine wpAnyH_take (i := 2) (oi := ⟨some 63, _, _, _, _, _⟩) (v := ?_) rfl (by kernel_rfl) (by kernel_rfl) (by kernel_rfl) (fun _ _ _ h => h) (Or.inl ⟨by rfl, ?_⟩) (by assumption) ?_
              rotate_left 1
              · intro w hSw
                (try dsimp only at hSw)
                go_simp
                try with_reducible rfl
              try simp only [Act.put, List.setIfInBounds_toArray, List.set_cons_zero, List.set_cons_succ]
              refine wpAnyH_take (i := 3) (oi := ⟨some 64, _, _, _, _, _⟩) (v := ?_) rfl (by kernel_rfl) (by kernel_rfl) (by kernel_rfl) (fun _ _ _ h => h) (Or.inl ⟨by rfl, ?_⟩) (by assumption) ?_
              rotate_left 1
              · intro w hSw
                (try dsimp only at hSw)
                go_simp
                try with_reducible rfl
              try simp only [Act.put, List.setIfInBounds_toArray, List.set_cons_zero, List.set_cons_succ]
              refine wpAnyH_take (i := 4) (oi := ⟨some 65, _, _, _, _, _⟩) (v := ?_) rfl (by kernel_rfl) (by kernel_rfl) (by kernel_rfl) (fun _ _ _ h => h) (Or.inl ⟨by rfl, ?_⟩) (by assumption) ?_
              rotate_left 1
              · intro w hSw
                (try dsimp only at hSw)
                go_simp
                try with_reducible rfl
              try simp only [Act.put, List.setIfInBounds_toArray, List.set_cons_zero, List.set_cons_succ]
              refine wpAnyH_take (i := 5) (oi := ⟨some 66, _, _, _, _, _⟩) (v := ?_) rfl (by kernel_rfl) (by kernel_rfl) (by kernel_rfl) (fun _ _ _ h => h) (Or.inl ⟨by rfl, ?_⟩) (by assumption) ?_
              rotate_left 1
              · intro w hSw
                (try dsimp only at hSw)
                go_simp
                try with_reducible rfl
              try simp only [Act.put, List.setIfInBounds_toArray, List.set_cons_zero, List.set_cons_succ]
              refine wpAnyH_ready (rs := [6]) (by kernel_rfl) (by simp) ?_
              refine AllReadyH.cons rfl (fun K hK => ?_) AllReadyH.nil
              go_simp
              go_at_call 78
              refine (w_ItoaN (vk - ad) (by omega) (by omega) _ (tab_nx HTB.out (hx2.trans (Nx.refl wv).drew))).mono ?_
              rintro e w5 ⟨rfl, hn5⟩
              have h5 : Nx wv w5 := (Nx.refl wv).drew.trans hn5
              go_simp
              refine hK.out _ _ (nx_cell h5 hql d0) (fun hHeld => ?_)
              clear hK K
              try simp only [Act.put, List.setIfInBounds_toArray, List.set_cons_zero, List.set_cons_succ]
              refine wpAnyH_take (i := 7) (oi := ⟨some 68, _, _, _, _, _⟩) (v := ?_) rfl (by kernel_rfl) (by kernel_rfl) (by kernel_rfl) (fun _ _ _ h => h) (Or.inl ⟨by rfl, ?_⟩) (by assumption) ?_
              rotate_left 1
              · intro w hSw
                (try dsimp only at hSw)
                go_simp
                try with_reducible rfl
              try simp only [Act.put, List.setIfInBounds_toArray, List.set_cons_zero, List.set_cons_succ]
              refine wpAnyH_ready (rs := [8]) (by kernel_rfl) (by simp) ?_
              refine AllReadyH.cons rfl (fun K hK => ?_) AllReadyH.nil
              go_simp
              refine hK.out _ _ (nx_cell (h5.alloc _) hql d0) (fun hHeld => ?_)
              clear hK K
              try simp only [Act.put, List.setIfInBounds_toArray, List.set_cons_zero, List.set_cons_succ]
              refine wpAnyH_ready (rs := [9]) (by kernel_rfl) (by simp) ?_
              refine AllReadyH.cons rfl (fun K hK => ?_) AllReadyH.nil
              refine step_app rfl _ _ _ rfl el_Pair encPair encPair_len encPair_one (by omega) (by omega) w2.heap.size _ acc rfl ((own_nx HOV.out h5).alloc _) _ ⟨ky, itoaS (vk - ad)⟩ _ rfl (hnew rfl) rfl (by omega) (by have := hx2.sz; have := h5.sz; simp; omega) ?_
              intro v6 w6 hown6 hg6 _
              have hn6 : Nx w2 w6 := (((hx2.trans h5).alloc _).grown hg6 (fun j hj => own_blk_lt HOV.out j hj))
              have HO6 := hide hown6
              clear hown6
              refine hK.out _ _ (World.grownBy.cell hg6 (nx_cell (h5.alloc _) hql d0) ?_) (fun hHeld => ?_)
              · intro e; exact absurd (HNQ.out q e.symm) (Nat.lt_irrefl _)
              clear hK K
              try simp only [Act.put, List.setIfInBounds_toArray]
              refine wpAnyH_take (i := 10) (oi := ⟨some 15, _, _, _, _, _⟩) (v := ?_) rfl (by kernel_rfl) (by kernel_rfl) (by kernel_rfl) (fun _ _ _ h => h) (Or.inl ⟨by rfl, ?_⟩) (by assumption) ?_
              rotate_left 1
              · intro w hSw
                (try dsimp only at hSw)
                go_simp
                try with_reducible rfl
              try simp only [Act.put]
              refine wpAnyH_done (by kernel_rfl) ?_ _
              go_wp2_with fail
              go_roundw
              case rel => exact ⟨k + 1, acc ++ [⟨ky, itoaS (vk - ad)⟩], by omega, by go_num, HO6.out, by simp; omega, by rw [HQ.out, HD2.out]; simp, hn6⟩
              case measure => simp [intOf]; omega
            · have e2 : decide (z - ad ≤ wi) = false := decide_eq_false h2
              have HD2 := hide (HD.out.trans (if_neg (fun h => h2 (HT.out.2 h).2)))
              clear HD HT HVZ h2 h1
              go_wp2_with fail
              go_roundw
              case rel => exact ⟨k + 1, acc, by omega, by go_num, own_nx HO.out hnv, by omega, by rw [HQ.out, HD2.out], hx2⟩
              case measure => simp [intOf]; omega
          · have e1 : decide (z ≥ 0) = false := decide_eq_false h1
            have e1' : decide (0 ≤ z) = false := decide_eq_false h1
            have HD2 := hide (HD.out.trans (if_neg (fun h => h1 (HT.out.2 h).1)))
            clear HD HT HVZ h1
            go_wp2_with fail
            go_roundw
            case rel => exact ⟨k + 1, acc, by omega, by go_num, own_nx HO.out hnv, by omega, by rw [HQ.out, HD2.out], hx2⟩
            case measure => simp [intOf]; omega
        · obtain rfl : nn = k := by omega
          have hLL : L = acc := by rw [HQ.out, List.drop_of_length_le (by have := HNN.out; omega)]; simp [rOf]
          subst hLL
          obtain ⟨Z, c, rfl, hRd, _⟩ := Rd.of_own encPair_len rfl HO.out
          have HRd := hide hRd
          clear hRd HO HQ
          go_wp2_with fail
          exact bodyPost_ret (v := .tuple #[.slice Z L.length c, .int .i64 0]) (by simp [results, Tryz.results35, go_sem]) rfl ⟨Z, c, rfl, HRd.out.low (Nat.zero_le _), HN2.out.trans hbw⟩
    · have HF := hide (show F = 1 by rw [HF.out, ho]; rfl)
      have hL : L = [] := HL.out.trans (if_neg (by rw [HF.out]; decide))
      subst hL
      have hF := HF.out
      subst hF
      clear ho
      go_wp2_with fail
      exact bodyPost_ret (v := .tuple #[.slice none 0 0, .int .i64 1]) (by simp [results, Tryz.results35, go_sem]) rfl ⟨none, 0, rfl, Rd.nil, hna.trans HN1.out⟩
  · have HEN := hide (fun W (hx : Nx wa W) => w_EndsBad w.heap.size lo A B C ca cb cc ns rs bs f f ad W (hBox.nx hx) hS hE)
    have hF := HF.out.trans (if_neg hE)
    have hL : reachL ns rs bs f ad wi = [] := HL.out.trans (if_neg (by rw [hF]; exact hE))
    rw [hL, hF]
    clear hBox b0 b1 b2 hN hA hB HF HL hF hL htab
    generalize endsF ns rs bs f f ad = E at *
    have tE : (E == 0) = false := by simpa using hE
    have tE2 : (E != 0) = true := by simpa using hE
    clear hE
    have HWA := hide hwa
    clear hwa
    go_enter Tryz.func35, Tryz.ntmps35
    go_upto_region 1 with fail
    rw [← HWA.out]
    go_wp2_with fail
    refine (HEN.out wa (Nx.refl _)).mono ?_
    rintro e w1 ⟨rfl, hn1⟩
    go_wp2_with fail
    exact bodyPost_ret (v := .tuple #[.slice none 0 0, .int .i64 E]) (by simp [results, Tryz.results35, go_sem]) rfl ⟨none, 0, rfl, Rd.nil, hna.trans hn1⟩
end Go.Proofs.YtbjbeddjaajdaaaGreatDoor
/- Small facts of the laws of what must keep. -/
namespace Go.Proofs.YtbjbeddjaajdaaaGreatDoor
open Go.RowKit

theorem node_has {ns : List Node} {rs : List Arc} {bs : List Ban} (hR : roadsF ns rs bs = 0) {k : Nat} (hk : k < ns.length) : 0 ≤ nodeI ns (ns.getD k default).key := by
  rw [node_at (sortN_of (roads_ok hR).1) hk]
  omega
/-- A row of pairs is no stream: it stays when a stream is drawn from. -/
theorem pair_gr {w w' : World} {s k : Nat} {Z : Option Addr} {l : List PairS} (h : Rd w 0 Z 2 encPair l) (hS : Str w s k) (hg : Gr s w w') : Rd w' 0 Z 2 encPair l := by
  intro hpos
  obtain ⟨b, off, e, hl, hb, hc⟩ := h hpos
  obtain ⟨A, n, c, i, _, _, hh, _⟩ := hS
  have hne : b ≠ s := by
    rintro rfl
    have h0 := hc 0 _ (List.getElem?_eq_getElem hpos) 0 _ rfl
    rw [World.cell?] at h0
    rw [hh] at h0
    rcases (by omega : off = 0 ∨ off = 1 ∨ 2 ≤ off) with rfl | rfl | h2
    · simp at h0
    · simp at h0
    · simp at h0
      have h3 := (List.getElem?_eq_some_iff.1 h0).1
      simp at h3
      omega
  exact ⟨b, off, e, hl, Nat.lt_of_lt_of_le hb hg.sz, fun i x hx j u hu => World.grownBy.cell (row := some s) hg (hc i x hx j u hu) (by simpa using hne)⟩
end Go.Proofs.YtbjbeddjaajdaaaGreatDoor
/- Roads of one arc that are right: the program's check. -/
namespace Go.Proofs.YtbjbeddjaajdaaaGreatDoor
open Go.RowKit

set_option maxRecDepth 100000 in
set_option maxHeartbeats 2000000 in
theorem w_CheckRoads1 (lo lo' ga ca cb : Nat) (A B : Option Addr) (c : Nat) (l : List Node) (ks : List Knot) (key from_ to_ : ByteArray) (long : Int) (w : World)
    (hR : Rd w lo A 3 encNode l) (hS : SmallN l) (hl : l.length ≤ 500) (hn0 : nodesF l = 0) (hso : SortN l)
    (hga : w.heap[ga]? = some (.cells #[.string key, .string from_, .string to_, .int .i64 long, .slice B ks.length cb] 37 (0, 0))) (hK : Rd w lo' B 2 encKnot ks) (hkl : ks.length ≤ 48) (hk0 : knotsF ks = 0)
    (hkey : keyB key = true) (hks : key.size ≤ 1000000) (hfr : 0 ≤ nodeI l from_) (hto : 0 ≤ nodeI l to_) (hne : (from_.toList == to_.toList) = false) (hlo : outB long 1 1000000 = false) :
    Calls Tryz.prog 42 #[.agg #[.slice A l.length c, .slice (some ⟨ga, 0, none⟩) 1 ca, .slice none 0 0]] w fun e w' => e = .returned (.int .i64 0) ∧ Nx w w' := by
  obtain ⟨wa, hwa⟩ : ∃ wa, wa = w.alloc (.cells #[.slice A l.length c, .slice (some ⟨ga, 0, none⟩) 1 ca, .slice none 0 0] 30) := ⟨_, rfl⟩
  have hna : Nx w wa := hwa ▸ (Nx.refl w).alloc _
  have hgw : w.heap.size < wa.heap.size := by rw [hwa]; simp
  have b0 : wa.cell? ⟨w.heap.size, 0, none⟩ = some (.slice A l.length c) := by rw [hwa]; go_simp
  have b1 : wa.cell? ⟨w.heap.size, 1, none⟩ = some (.slice (some ⟨ga, 0, none⟩) 1 ca) := by rw [hwa]; go_simp
  have b2 : wa.cell? ⟨w.heap.size, 2, none⟩ = some (.slice none 0 0) := by rw [hwa]; go_simp
  have hgl : ga < w.heap.size := (Array.getElem?_eq_some_iff.1 hga).1
  have hgl' : ga < wa.heap.size := Nat.lt_of_lt_of_le hgl hna.sz
  have a0 := nx_cell hna hgl (cell_of_row w ga 0 _ _ _ hga)
  have a1 := nx_cell hna hgl (cell_of_row w ga 1 _ _ _ hga)
  have a2 := nx_cell hna hgl (cell_of_row w ga 2 _ _ _ hga)
  have a3 := nx_cell hna hgl (cell_of_row w ga 3 _ _ _ hga)
  have a4 := nx_cell hna hgl (cell_of_row w ga 4 _ _ _ hga)
  simp at a0 a1 a2 a3 a4
  have HNF := hide (w_nodesFaultR lo A c l wa (hR.nx hna) hS (by omega))
  rw [hn0] at HNF
  have HND := hide (fun s W (hx : Nx wa W) => w_nodeR w.heap.size lo A c l s W (nx_cell hx hgw b0) ((hR.nx hna).nx hx) (by omega) hso)
  have HKF := hide (fun W (hx : Nx wa W) => w_knotsFaultR lo' B cb ks W ((hK.nx hna).nx hx) (by omega))
  rw [hk0] at HKF
  have tf : decide (nodeI l from_ < 0) = false := by simpa using hfr
  have tt : decide (nodeI l to_ < 0) = false := by simpa using hto
  clear hR hS hn0 hso hga hK hk0
  generalize l.length = n at *
  generalize ks.length = m at *
  go_enter Tryz.func42, Tryz.ntmps42
  go_wp2_with fail
  rw [← hwa]
  refine HNF.out.mono ?_
  rintro e w1 ⟨rfl, hn1⟩
  have HWA := hide hwa
  clear hwa
  have A0 := nx_cell hn1 hgl' a0
  have A1 := nx_cell hn1 hgl' a1
  have A2 := nx_cell hn1 hgl' a2
  have A3 := nx_cell hn1 hgl' a3
  have A4 := nx_cell hn1 hgl' a4
  have B1 := nx_cell hn1 hgw b1
  have B2 := nx_cell hn1 hgw b2
  clear a0 a1 a2 a3 a4
  go_wp2_with fail
  refine wp_loop_rounds 2 ?_
  rw [rounds_succ]
  go_wp2_with (go_at_call 96; refine (w_Key _ _ hks).mono ?_; rintro e w' ⟨rfl, rfl⟩)
  go_quiet (fail)
  obtain ⟨w2, hw2⟩ : ∃ w2, w2 = (w1.alloc (.cells #[.string key, .string from_, .string to_, .int .i64 long, .slice B m cb] 37)).drewN nq := ⟨_, rfl⟩
  have hx2 : Nx w1 w2 := hw2 ▸ ((Nx.refl w1).alloc _).drewN _
  have hs2 : w1.heap.size < w2.heap.size := by rw [hw2]; simp
  have d1 : w2.cell? ⟨w1.heap.size, 1, none⟩ = some (.string from_) := by rw [hw2]; go_simp
  have d2 : w2.cell? ⟨w1.heap.size, 2, none⟩ = some (.string to_) := by rw [hw2]; go_simp
  have d3 : w2.cell? ⟨w1.heap.size, 3, none⟩ = some (.int .i64 long) := by rw [hw2]; go_simp
  have d4 : w2.cell? ⟨w1.heap.size, 4, none⟩ = some (.slice B m cb) := by rw [hw2]; go_simp
  rw [← hw2]
  have HW2 := hide hw2
  clear hw2 A0 A1 A2 A3 A4
  go_wp2_with fail
  refine (HND.out from_ _ (hn1.trans hx2)).mono ?_
  rintro e w3 ⟨rfl, hn3⟩
  have e1 := nx_cell hn3 hs2 d1
  have e2 := nx_cell hn3 hs2 d2
  have e3 := nx_cell hn3 hs2 d3
  have e4 := nx_cell hn3 hs2 d4
  have hs3 := Nat.lt_of_lt_of_le hs2 hn3.sz
  go_wp2_with fail
  refine (HND.out to_ _ ((hn1.trans hx2).trans hn3)).mono ?_
  rintro e w4 ⟨rfl, hn4⟩
  have f1 := nx_cell hn4 hs3 e1
  have f2 := nx_cell hn4 hs3 e2
  have f3 := nx_cell hn4 hs3 e3
  have f4 := nx_cell hn4 hs3 e4
  go_wp2_with (go_at_call 84; refine (w_Out _ _ _ _).mono ?_; rintro e w' ⟨rfl, rfl⟩)
  refine (HKF.out _ (((hn1.trans hx2).trans hn3).trans hn4)).mono ?_
  rintro e w5 ⟨rfl, hn5⟩
  have hx5 := (((hx2.trans hn3).trans hn4).trans hn5)
  have g2 := nx_cell hx5 (Nat.lt_of_lt_of_le hgw hn1.sz) B2
  go_wp2_with fail
  rw [rounds_succ]
  go_wp2_with fail
  refine wp_loop_rounds 1 ?_
  rw [rounds_succ]
  go_wp2_with fail
  go_ret
  exact ⟨rfl, (hna.trans hn1).trans hx5⟩
end Go.Proofs.YtbjbeddjaajdaaaGreatDoor
/- road.TimeOn at an example. -/
namespace Go.Proofs.YtbjbeddjaajdaaaGreatDoor
open Go.RowKit

def sA : ByteArray := ⟨#[97]⟩
def exNodes : List Node := [⟨sX, 0, 0⟩, ⟨sY, 0, 0⟩]
def exKnots : List Knot := [⟨0, 100⟩, ⟨1000, 600⟩]
theorem ex_time : timeI exKnots 500 = 350 := by decide
theorem ex_knots : knotsF exKnots = 0 := by decide
theorem ex_key : keyB sA = true ∧ keyB sX = true ∧ keyB sY = true := by decide
theorem ex_le : strLe sY sX = false := by unfold strLe; rw [Lib.toList_data, Lib.toList_data]; decide
theorem ex_nodes : nodesF exNodes = 0 := by
  unfold nodesF exNodes
  rw [if_neg (by decide)]
  have h1 : nodeF none ⟨sX, 0, 0⟩ = 0 := by unfold nodeF; rw [ex_key.2.1]; decide
  have h2 : nodeF (some ⟨sX, 0, 0⟩) ⟨sY, 0, 0⟩ = 0 := by unfold nodeF; rw [ex_key.2.2]; simp only [ex_le]; decide
  simp only [chk, h1, h2, if_pos]
theorem ex_sort : SortN exNodes := by
  unfold SortN exNodes ltS
  simp [sX, sY]
  decide
theorem ex_at : nodeI exNodes sX = 0 ∧ nodeI exNodes sY = 1 := by decide
theorem ex_ne : (sX.toList == sY.toList) = false := by rw [Lib.toList_data, Lib.toList_data]; decide
theorem ex_small : SmallN exNodes := by
  intro s hs
  simp [exNodes] at hs
  rcases hs with rfl | rfl <;> decide
theorem el_Node : ElemOf Tryz.prog 26 76 3 32 := ElemOf.mk' (z := .agg #[.string ByteArray.empty, .int .i64 0, .int .i64 0]) Tryz.underlying26 (by kernel_rfl) rfl

set_option maxRecDepth 100000 in
set_option maxHeartbeats 1000000 in
theorem w_CompXY (g c : Nat) (w : World) (h0 : w.cell? ⟨g, 0, none⟩ = some (.string sX)) (h1 : w.cell? ⟨g, 1, none⟩ = some (.string sY)) :
    Calls Tryz.prog 121 #[.slice (some ⟨g, 0, none⟩) 2 c] w fun e w' => e = .returned (.slice (some ⟨g, 0, none⟩) 2 c) ∧ Nx w w' := by
  have hne : (sY.toList == sX.toList) = false := by rw [Lib.toList_data, Lib.toList_data]; decide
  go_enter Tryz.func121, Tryz.ntmps121
  go_wp2_with fail
  refine wp_loop_rounds 2 ?_
  rw [rounds_succ]
  go_wp2_with fail
  go_quiet (fail)
  go_wp2_with fail
  rw [rounds_succ]
  go_wp2_with fail
  go_ret
  exact ⟨rfl, (Nx.refl _).drewN _⟩

set_option maxRecDepth 100000 in
set_option maxHeartbeats 2000000 in
theorem w_TimeOnEx (lo : Nat) (B : Option Addr) (cb : Nat) (w : World) (hK : Rd w lo B 2 encKnot exKnots) :
    Calls Tryz.prog 67 #[.agg #[.string sA, .string sX, .string sY, .int .i64 5, .slice B 2 cb], .int .i64 500] w fun e w' => e = .returned (.tuple #[.int .i64 350, .int .i64 0]) ∧ Nx w w' := by
  have hm5 : momB 500 = true := by decide
  obtain ⟨wa, hwa⟩ : ∃ wa, wa = w.alloc (.cells #[.string sA, .string sX, .string sY, .int .i64 5, .slice B 2 cb] 37) := ⟨_, rfl⟩
  have hna : Nx w wa := hwa ▸ (Nx.refl w).alloc _
  have hgw : w.heap.size < wa.heap.size := by rw [hwa]; simp
  have b0 : wa.cell? ⟨w.heap.size, 0, none⟩ = some (.string sA) := by rw [hwa]; go_simp
  have b1 : wa.cell? ⟨w.heap.size, 1, none⟩ = some (.string sX) := by rw [hwa]; go_simp
  have b2 : wa.cell? ⟨w.heap.size, 2, none⟩ = some (.string sY) := by rw [hwa]; go_simp
  have b3 : wa.cell? ⟨w.heap.size, 3, none⟩ = some (.int .i64 5) := by rw [hwa]; go_simp
  have b4 : wa.cell? ⟨w.heap.size, 4, none⟩ = some (.slice B 2 cb) := by rw [hwa]; go_simp
  have HK := hide (fun W (hx : Nx wa W) => (hK.nx hna).nx hx)
  clear hK
  go_enter Tryz.func67, Tryz.ntmps67
  go_wp2_with fail
  rw [← hwa]
  obtain ⟨wb, hwb⟩ : ∃ wb, wb = wa.alloc (.cells #[.string sX, .string sY] 9) := ⟨_, rfl⟩
  rw [← hwb]
  have hsa : wa.heap.size = w.heap.size + 1 := by rw [hwa]; simp
  have hnb : Nx wa wb := hwb ▸ (Nx.refl wa).alloc _
  have hgb : w.heap.size + 1 < wb.heap.size := by rw [hwb]; simp; omega
  have k0 : wb.cell? ⟨w.heap.size + 1, 0, none⟩ = some (.string sX) := by rw [hwb]; exact World.cell?_alloc_at (hn := hsa.symm) ..
  have k1 : wb.cell? ⟨w.heap.size + 1, 1, none⟩ = some (.string sY) := by rw [hwb]; exact World.cell?_alloc_at (hn := hsa.symm) ..
  have HWA := hide hwa
  have HWB := hide hwb
  clear hwa hwb hsa
  obtain ⟨g1, hg1⟩ : ∃ g1, g1 = w.heap.size + 1 := ⟨_, rfl⟩
  rw [← hg1] at hgb k0 k1 ⊢
  clear hg1
  obtain ⟨g0, hg0⟩ : ∃ g0, g0 = w.heap.size := ⟨_, rfl⟩
  rw [← hg0] at hgw b0 b1 b2 b3 b4 ⊢
  clear hg0
  refine (w_SortXY _ _ _ k0 k1).mono ?_
  rintro e w1 ⟨rfl, hn1⟩
  have k2 := nx_cell hn1 hgb k0
  have k3 := nx_cell hn1 hgb k1
  have hgc := Nat.lt_of_lt_of_le hgb hn1.sz
  go_wp2_with fail
  refine (w_CompXY _ _ _ k2 k3).mono ?_
  rintro e w2 ⟨rfl, hn2⟩
  have k4 := nx_cell hn2 hgc k2
  have k5 := nx_cell hn2 hgc k3
  have hgd := Nat.lt_of_lt_of_le hgc hn2.sz
  have hx2 : Nx wa w2 := (hnb.trans hn1).trans hn2
  have hown0 : (w2.alloc (.cells #[.string sX, .int .i64 0, .int .i64 0] 76)).ownsRow w2.heap.size 76 3 (.slice none 0 0) ([] : List Node).length (([] : List Node).flatMap encNode) := World.ownsRow_nil _ _ _ _
  have HO0 := hide hown0
  clear hown0 k0 k1 k2 k3
  go_wp2_with fail
  refine wp_loop_rounds 3 ?_
  rw [rounds_succ]
  go_wp2_with (at_builtin; refine wpApp rfl _ _ _ rfl el_Node encNode encNode_len encNode_one (by omega) (by omega) w2.heap.size _ [] rfl HO0.out _ ⟨sX, 0, 0⟩ _ rfl (hnew rfl) rfl (by simp) (by simp) ?_; intro v3 w3 hown3 hg3)
  have hx3 : Nx w2 w3 := ((Nx.refl w2).alloc _).grown hg3 (own_blk_lt HO0.out)
  have k6 := nx_cell hx3 hgd k4
  have k7 := nx_cell hx3 hgd k5
  have HO3 := hide hown3
  clear hown3
  rw [rounds_succ]
  go_wp2_with (at_builtin; refine wpApp rfl _ _ _ rfl el_Node encNode encNode_len encNode_one (by omega) (by omega) w2.heap.size _ ([] ++ [⟨sX, 0, 0⟩]) rfl (HO3.out.alloc _) _ ⟨sY, 0, 0⟩ _ rfl (hnew rfl) rfl (by simp) (by have := hx3.sz; simp; omega) ?_; intro v4 w4 hown4 hg4)
  have hx4 : Nx w2 w4 := (hx3.alloc _).grown hg4 (own_blk_lt HO3.out)
  obtain ⟨A4, c4, ev, hR4, _⟩ := Rd.of_own encNode_len rfl hown4
  have ha4 : Nx wa w4 := hx2.trans hx4
  have d0 := nx_cell ha4 hgw b0
  have d1 := nx_cell ha4 hgw b1
  have d2 := nx_cell ha4 hgw b2
  have d3 := nx_cell ha4 hgw b3
  have d4 := nx_cell ha4 hgw b4
  have HR4 := hide hR4
  obtain rfl := ev
  clear hown4 hR4 k4 k5 k6 k7
  rw [rounds_succ]
  go_wp2_with fail
  have hx5 := (Nx.refl w4).alloc (.cells #[.string sA, .string sX, .string sY, .int .i64 5, .slice B 2 cb] 37)
  refine (w_CheckRoads1 w2.heap.size lo w4.heap.size 1 cb A4 B c4 exNodes exKnots sA sX sY 5 _ (HR4.out.nx hx5) ex_small (by decide) ex_nodes ex_sort (hnew rfl) (HK.out _ (ha4.trans hx5)) (by decide) ex_knots ex_key.1 (by decide) (by rw [ex_at.1]; decide) (by rw [ex_at.2]; decide) ex_ne (by decide)).mono ?_
  rintro e w5 ⟨rfl, hn5⟩
  have ha5 : Nx wa w5 := (ha4.trans hx5).trans hn5
  have e4 := nx_cell ha5 hgw b4
  go_wp2_with (first
    | (go_at_call 104; refine (w_Moment _ _).mono ?_; rintro e w' ⟨rfl, rfl⟩)
    | (go_at_call 122; refine (w_TimeD g0 lo B cb exKnots 500 _ e4 (Nat.lt_of_lt_of_le hgw ha5.sz) (HK.out _ ha5) (knotsF_chk ex_knots) (by omega)).mono ?_; rintro e w6 ⟨rfl, hn6⟩))
  go_ret2
  exact ⟨by rw [ex_time]; rfl, (hna.trans ha5).trans hn6⟩
end Go.Proofs.YtbjbeddjaajdaaaGreatDoor
/- An event for example. -/
namespace Go.Proofs.YtbjbeddjaajdaaaGreatDoor
open Go.RowKit

def sS : ByteArray := ⟨#[115]⟩
def sR : ByteArray := ⟨#[114]⟩
def exEv : Array Value := #[.string sS, .int .i64 1, .int .i64 0, .int .i64 1, .string sR, .string ⟨#[]⟩, .string ⟨#[]⟩, .int .i64 5, .int .i64 9, .string ⟨#[]⟩, .int .i64 0]
def bookB : ByteArray := ⟨#[98, 111, 111, 107]⟩
end Go.Proofs.YtbjbeddjaajdaaaGreatDoor
/- Maps: the keys. -/
namespace Go.Proofs.YtbjbeddjaajdaaaGreatDoor
open Go.RowKit Go.Maps

theorem tySize : Tryz.prog.types.size = 374 := by kernel_rfl
theorem laidOut : laidOutB Tryz.prog = true := by kernel_rfl
theorem law_cell : Keyed Tryz.prog 163 := Keyed.of_law (deep_law_laid laidOut (m := 5) (by omega) (k := 163) (by rw [tySize]; decide) (by kernel_rfl) (by kernel_rfl))
theorem kt_cell : Tryz.prog.keyType 163 = true := by kernel_rfl
theorem cells_cell : Tryz.prog.cellsOf 163 = 2 := by kernel_rfl
theorem cells_int : Tryz.prog.cellsOf 3 = 1 := by kernel_rfl

theorem lits_int (d : Nat) (x : Int) (hx : (Lit.int .i64 x).wf = true) : Tryz.prog.keyLits (d + 1) 3 [.int .i64 x] = some [.int .i64 x] := by
  unfold Program.keyLits; rw [Tryz.underlying3]; simp [hx]
theorem lits_cell (d : Nat) (x y : Int) (hx : (Lit.int .i64 x).wf = true) (hy : (Lit.int .i64 y).wf = true) : Tryz.prog.keyLits (d + 2) 163 [.int .i64 x, .int .i64 y] = some [.int .i64 x, .int .i64 y] := by
  unfold Program.keyLits; rw [Tryz.underlying163]; simp [cells_cell, cells_int, lits_int _ _ hx, lits_int _ _ hy]
set_option maxRecDepth 10000 in
theorem lits_int_inv {d : Nat} {c : Value} {ls : List Lit} (h : Tryz.prog.keyLits (d + 1) 3 [c] = some ls) : ∃ x, c = .int .i64 x ∧ (Lit.int .i64 x).wf = true := by
  unfold Program.keyLits at h
  rw [Tryz.underlying3] at h
  cases c <;> simp at h
  obtain ⟨⟨rfl, hw⟩, _⟩ := h
  exact ⟨_, rfl, hw⟩
set_option maxRecDepth 10000 in
theorem lits_cell_inv {d : Nat} {a b : Value} {ls : List Lit} (h : Tryz.prog.keyLits (d + 2) 163 [a, b] = some ls) : ∃ x y, a = .int .i64 x ∧ b = .int .i64 y ∧ (Lit.int .i64 x).wf = true ∧ (Lit.int .i64 y).wf = true := by
  unfold Program.keyLits at h
  rw [Tryz.underlying163] at h
  simp [cells_cell, cells_int] at h
  cases h1 : Tryz.prog.keyLits (d + 1) 3 [a] with
  | none => simp [h1] at h
  | some l1 =>
    cases h2 : Tryz.prog.keyLits (d + 1) 3 [b] with
    | none => simp [h1, h2] at h
    | some l2 =>
      obtain ⟨x, rfl, hx⟩ := lits_int_inv h1
      obtain ⟨y, rfl, hy⟩ := lits_int_inv h2
      exact ⟨x, y, rfl, rfl, hx, hy⟩
end Go.Proofs.YtbjbeddjaajdaaaGreatDoor
/- Events: the maps that follow them; the keys. -/
namespace Go.Proofs.YtbjbeddjaajdaaaGreatDoor
open Go.RowKit Go.Maps

theorem law_strE : Keyed Tryz.prog 9 := string_keyed Tryz.underlying9
theorem law_intE : Keyed Tryz.prog 3 := int_keyed Tryz.underlying3
theorem law_name : Keyed Tryz.prog 272 := Keyed.of_law (deep_law_laid laidOut (m := 5) (by omega) (k := 272) (by rw [tySize]; decide) (by kernel_rfl) (by kernel_rfl))
theorem kt_name : Tryz.prog.keyType 272 = true := by kernel_rfl
theorem cells_name : Tryz.prog.cellsOf 272 = 2 := by kernel_rfl
theorem cells_str : Tryz.prog.cellsOf 9 = 1 := by kernel_rfl
theorem lits_str (d : Nat) (s : ByteArray) (hs : s.size ≤ maxLen) : Tryz.prog.keyLits (d + 1) 9 [.string s] = some [.string s.data.toList] := by
  unfold Program.keyLits; rw [Tryz.underlying9]; simp [hs]
theorem lits_name (d : Nat) (s : ByteArray) (n : Int) (hs : s.size ≤ maxLen) (hn : (Lit.int .i64 n).wf = true) : Tryz.prog.keyLits (d + 2) 272 [.string s, .int .i64 n] = some [.string s.data.toList, .int .i64 n] := by
  unfold Program.keyLits; rw [Tryz.underlying272]; simp [cells_name, cells_str, cells_int, lits_str _ _ hs, lits_int _ _ hn]
/-- The name of an event. -/
structure EvName where
  source : ByteArray
  no : Int
deriving DecidableEq
def ekName (k : EvName) : Value := .agg #[.string k.source, .int .i64 k.no]
theorem ekName_inj (a b : EvName) (h : ekName a = ekName b) : a = b := by
  cases a; cases b; simp [ekName] at h; simp [h]
def domName (k : EvName) : Prop := k.source.size ≤ maxLen ∧ (Lit.int .i64 k.no).wf = true
theorem key_name (k : EvName) (h : domName k) : ∃ l, keyOf Tryz.prog 272 (ekName k) = some l := by
  refine ⟨.string (keyBytes [.string k.source.data.toList, .int .i64 k.no]), ?_⟩
  unfold keyOf ekName
  rw [Tryz.underlying272, kt_name, tySize]
  have e := lits_name 373 k.source k.no h.1 h.2
  simp [Value.formed, Tryz.underlying272, cells_name, Value.cells, e]
theorem zeroIntE (w : World) : (zeroValue 3).run Tryz.prog w = .ok (.int .i64 0) w := by kernel_rfl
theorem zeroBoolE (w : World) : (zeroValue 4).run Tryz.prog w = .ok (.bool false) w := by kernel_rfl
theorem zeroPtrE (w : World) : (zeroValue 210).run Tryz.prog w = .ok (.pointer none) w := by kernel_rfl
abbrev intE : ElemR (plainElem Tryz.prog 3) (Value.int .i64) (fun z => .lit (.int .i64 z)) (fun z => (Lit.int .i64 z).wf = true) := elemInt Tryz.underlying3
abbrev boolE : ElemR (plainElem Tryz.prog 4) Value.bool (fun z => .lit (.bool z)) (fun _ => True) := elemBool Tryz.underlying4
/-- A map from strings to numbers. -/
abbrev MpSI (w : World) (b n : Nat) (f : ByteArray → Option Int) : Prop := MgI Tryz.prog 9 Value.string domS (plainElem Tryz.prog 3) (fun z : Int => (.lit (.int .i64 z) : DataW Unit)) w b n f
/-- .. to variables. -/
abbrev MpSP (w : World) (b n : Nat) (f : ByteArray → Option (Option Nat)) : Prop := MgI Tryz.prog 9 Value.string domS ptrElem ptrD w b n f
def domI (z : Int) : Prop := (Lit.int .i64 z).wf = true
theorem key_int {z : Int} (h : domI z) : keyOf Tryz.prog 3 (.int .i64 z) = some (.int .i64 z) := keyOf_int_mk Tryz.underlying3 h
abbrev MpII (w : World) (b n : Nat) (f : Int → Option Int) : Prop := MgI Tryz.prog 3 (Value.int .i64) domI (plainElem Tryz.prog 3) (fun z : Int => (.lit (.int .i64 z) : DataW Unit)) w b n f
abbrev MpIB (w : World) (b n : Nat) (f : Int → Option Bool) : Prop := MgI Tryz.prog 3 (Value.int .i64) domI (plainElem Tryz.prog 4) (fun z : Bool => (.lit (.bool z) : DataW Unit)) w b n f
abbrev MpNI (w : World) (b n : Nat) (f : EvName → Option Int) : Prop := MgI Tryz.prog 272 ekName domName (plainElem Tryz.prog 3) (fun z : Int => (.lit (.int .i64 z) : DataW Unit)) w b n f
end Go.Proofs.YtbjbeddjaajdaaaGreatDoor
/- One event: the program's check of events. -/
namespace Go.Proofs.YtbjbeddjaajdaaaGreatDoor
open Go.RowKit Go.Maps

/-- The event by itself is right. -/
def EvRight : Prop := ∀ W : World, Calls Tryz.prog 221 #[.agg exEv] W fun e w' => e = .returned (.int .i64 0) ∧ Nx W w'
set_option maxRecDepth 100000 in
set_option maxHeartbeats 4000000 in
theorem w_CheckEventsEx (hEF : EvRight) (g c : Nat) (w : World) (hg : w.heap[g]? = some (.cells exEv 145 (0, 0))) :
    Calls Tryz.prog 183 #[.slice (some ⟨g, 0, none⟩) 1 c] w fun e w' => e = .returned (.int .i64 0) ∧ Nx w w' := by
  have hgl : g < w.heap.size := (Array.getElem?_eq_some_iff.1 hg).1
  have a0 := cell_of_row w g 0 _ _ _ hg
  have a1 := cell_of_row w g 1 _ _ _ hg
  have a2 := cell_of_row w g 2 _ _ _ hg
  have a3 := cell_of_row w g 3 _ _ _ hg
  have a4 := cell_of_row w g 4 _ _ _ hg
  have a5 := cell_of_row w g 5 _ _ _ hg
  have a6 := cell_of_row w g 6 _ _ _ hg
  have a7 := cell_of_row w g 7 _ _ _ hg
  have a8 := cell_of_row w g 8 _ _ _ hg
  have a9 := cell_of_row w g 9 _ _ _ hg
  have a10 := cell_of_row w g 10 _ _ _ hg
  simp [exEv] at a0 a1 a2 a3 a4 a5 a6 a7 a8 a9 a10
  have hmm := @run_makeMap Tryz.prog
  have HEF := hide hEF
  unfold EvRight exEv at HEF
  clear hEF
  clear hg
  go_enter Tryz.func183, Tryz.ntmps183
  go_wp2_with fail
  clear hmm
  have hM0 : MpSI (w.alloc (.map #[] 0)) w.heap.size 0 (fun _ => none) := MgI.made w
  have HM0 := hide hM0
  clear hM0
  refine wp_loop_rounds 2 ?_
  rw [rounds_succ]
  go_wp2_with fail
  refine (HEF.out _).mono ?_
  rintro e w1 ⟨rfl, hn1⟩
  have hx1 : Nx (w.alloc (.map #[] 0)) w1 := ((Nx.refl _).alloc _).trans hn1
  have HM1 := hide (HM0.out.nx hx1)
  have hs1 : w.heap.size + 1 < w1.heap.size := by have := hn1.sz; simp at this; omega
  have d0 : w1.cell? ⟨w.heap.size + 1, 0, none⟩ = some (.string sS) := nx_cell hn1 (by simp) (show ((w.alloc (.map #[] 0)).alloc (.cells #[.string sS, .int .i64 1, .int .i64 0, .int .i64 1, .string sR, .string ⟨#[]⟩, .string ⟨#[]⟩, .int .i64 5, .int .i64 9, .string ⟨#[]⟩, .int .i64 0] 145)).cell? ⟨w.heap.size + 1, 0, none⟩ = some (.string sS) by go_simp)
  have d1 : w1.cell? ⟨w.heap.size + 1, 1, none⟩ = some (.int .i64 1) := nx_cell hn1 (by simp) (show ((w.alloc (.map #[] 0)).alloc (.cells #[.string sS, .int .i64 1, .int .i64 0, .int .i64 1, .string sR, .string ⟨#[]⟩, .string ⟨#[]⟩, .int .i64 5, .int .i64 9, .string ⟨#[]⟩, .int .i64 0] 145)).cell? ⟨w.heap.size + 1, 1, none⟩ = some (.int .i64 1) by go_simp)
  clear a0 a1 a2 a3 a4 a5 a6 a7 a8 a9 a10 HM0 HEF
  go_wp2_with fail
  go_quiet (fail)
  have hds : domS sS := by unfold domS; decide
  have hM2 := HM1.out.nx ((Nx.refl w1).drewN nq)
  go_wp2_with (first
    | (at_lookup; refine wpMgLook _ rfl _ _ _ rfl intE law_strE Tryz.underlying219 (by decide) (zeroIntE _) w.heap.size 0 _ rfl hM2 sS rfl hds _ (keyS_mk Tryz.underlying9 hds) ?_)
    | (at_mapUpdate; refine wpMgPut _ rfl _ _ _ _ rfl intE law_strE strV_inj Tryz.underlying219 w.heap.size 0 _ rfl hM2 (by decide) sS rfl hds _ (keyS_mk Tryz.underlying9 hds) 1 rfl (by decide) ?_; intro w2 hM3 hg2))
  obtain ⟨D3, ho3, _⟩ := hM3
  have hsz := ho3.size_le
  rw [rounds_succ]
  go_wp2_with (at_len; refine wpList_len_own _ rfl _ _ rfl 9 3 Tryz.underlying219 _ w.heap.size _ D3 rfl ho3 ?_)
  go_ret
  exact ⟨rfl, Nx.of_gr ((Gr.of_nx ((((Nx.refl w).alloc _).trans hx1).drewN _)).trans hg2) (Nat.le_refl _)⟩

theorem w_momentFaultEx (hEF : EvRight) (g c : Nat) (w : World) (hg : w.heap[g]? = some (.cells exEv 145 (0, 0))) :
    Calls Tryz.prog 131 #[.slice (some ⟨g, 0, none⟩) 1 c, .int .i64 3] w fun e w' => e = .returned (.int .i64 0) ∧ Nx w w' := by
  have HC := hide (w_CheckEventsEx hEF g c w hg)
  have hm3 : momB 3 = true := by decide
  clear hg
  go_enter Tryz.func131, Tryz.ntmps131
  go_wp2_with (first
    | (go_at_call 183; refine HC.out.mono ?_; rintro e w1 ⟨rfl, hn1⟩)
    | (go_at_call 104; refine (w_Moment _ _).mono ?_; rintro e w' ⟨rfl, rfl⟩))
  go_ret
  exact ⟨rfl, hn1⟩
end Go.Proofs.YtbjbeddjaajdaaaGreatDoor
