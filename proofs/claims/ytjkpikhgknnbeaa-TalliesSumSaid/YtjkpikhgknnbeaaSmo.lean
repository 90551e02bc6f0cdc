/- Smooth, both ways. -/
import Derived.Test.YtjkpikhgknnbeaaSum2
namespace Go.Proofs.Ytjkpikhgknnbeaa
open Go.RowKit Go.Sort Go.Shelf Go.Maps

/-- What one addition adds. -/
def cp (x y h v : Int) : List (Spot × Int) := if isPtB x y then [(⟨x, y, h⟩, v)] else []
theorem cp_mem {x y h v : Int} {p : Spot × Int} (hp : p ∈ cp x y h v) : p = (⟨x, y, h⟩, v) ∧ isPtB x y = true := by
  unfold cp at hp
  split at hp
  · simp at hp; exact ⟨hp, by assumption⟩
  · cases hp
theorem cp_len (x y h v : Int) : (cp x y h v).length ≤ 1 := by unfold cp; split <;> simp
/-- All that is added is small, and on the map. -/
def okPs (ps : List (Spot × Int)) : Prop := (∀ p ∈ ps, 0 ≤ p.2 ∧ p.2 ≤ 1000000000000) ∧ ∀ p ∈ ps, dom64 p.1
theorem okPs.bd {ps : List (Spot × Int)} (h : okPs ps) (hl : ps.length ≤ 1000) (k : Spot) : 0 ≤ accF ps k ∧ accF ps k ≤ 1000000000000000 := by
  have := accF_bd 1000000000000 ps h.1 k
  omega
theorem okPs.app {a b : List (Spot × Int)} (h : okPs a) (k : okPs b) : okPs (a ++ b) :=
  ⟨fun p hp => (List.mem_append.1 hp).elim (h.1 p) (k.1 p), fun p hp => (List.mem_append.1 hp).elim (h.2 p) (k.2 p)⟩
theorem okPs.cp {x y h v : Int} (hh : 0 ≤ h ∧ h ≤ 167) (hv : 0 ≤ v ∧ v ≤ 1000000000000) : okPs (cp x y h v) := by
  refine ⟨fun p hp => ?_, fun p hp => ?_⟩
  · obtain ⟨rfl, _⟩ := cp_mem hp; exact hv
  · obtain ⟨rfl, hi⟩ := cp_mem hp
    have := isPtB_true.1 hi
    exact ⟨wf_i64.2 (by show _ ≤ x ∧ x ≤ _; omega), wf_i64.2 (by show _ ≤ y ∧ y ≤ _; omega), wf_i64.2 (by show _ ≤ h ∧ h ≤ _; omega)⟩

set_option maxRecDepth 100000 in
set_option maxHeartbeats 2000000 in
theorem w_add (x y h v : Int) (bx bm n : Nat) (ps : List (Spot × Int)) (w : World) (hc : w.cell? ⟨bx, 0, none⟩ = some (.map (some bm))) (hne : bx ≠ bm) (hM : MpP w bm n (accF ps)) (hn : n ≤ 100000) (hps : okPs ps) (hpl : ps.length ≤ 1000) (hh : 0 ≤ h ∧ h ≤ 167) (hv : 0 ≤ v ∧ v ≤ 1000000000000) :
    Calls Try.prog 79 #[.int .i64 x, .int .i64 y, .int .i64 h, .int .i64 v, .pointer (some ⟨bx, 0, none⟩)] w fun e w' => e = .returned (.tuple #[]) ∧ MpP w' bm (n + 1) (accF (ps ++ cp x y h v)) ∧ Gr bm w w' := by
  cases hp : isPtB x y
  · have hcp : cp x y h v = [] := by unfold cp; rw [hp]; rfl
    rw [hcp, List.append_nil]
    clear hcp
    have HM := hide hM
    clear hM
    go_enter Try.func79, Try.ntmps79
    go_wp2_with (go_at_call 51; refine (w_isPoint _ _ _).mono ?_; rintro e w' ⟨rfl, rfl⟩)
    go_end0
    exact ⟨rfl, HM.out.mono (by omega), Gr.refl _ _⟩
  · have hcp : cp x y h v = [(⟨x, y, h⟩, v)] := by unfold cp; rw [hp]; rfl
    have hpt := isPtB_true.1 hp
    have hdom : dom64 ⟨x, y, h⟩ := ⟨wf_i64.2 (by show _ ≤ x ∧ x ≤ _; omega), wf_i64.2 (by show _ ≤ y ∧ y ≤ _; omega), wf_i64.2 (by show _ ≤ h ∧ h ≤ _; omega)⟩
    obtain ⟨kl, hkey⟩ := key_place _ _ _ hdom.1 hdom.2.1 hdom.2.2
    have HS := hide (accF_snoc ps ⟨x, y, h⟩ v)
    have hb := hps.bd hpl ⟨x, y, h⟩
    rw [hcp]
    clear hcp
    have hM2 := hM.nx (Nx.refl w).drew
    have hlk : (Instr.lookup 90 (.map (some bm)) (.agg #[.int .i64 x, .int .i64 y, .int .i64 h]) false).run Try.prog w.drew = .ok (.int .i64 (accF ps ⟨x, y, h⟩)) w.drew := (hM2.look law_place Try.underlying90 Try.underlying3 (zeroInt _) hdom hkey).1
    obtain ⟨v0, st, x2, hE, hgE, hl2, hst⟩ := hM2.entry klaw_place ekSpot_inj Try.underlying90 Try.underlying3 zeroInt (by unfold maxLen; omega) hdom hkey
    obtain ⟨x3, hSt, hM3, hg3⟩ := hst (accF ps ⟨x, y, h⟩ + v) (wf_i64.2 (by omega))
    rw [← HS.out] at hM3
    have hE' : (Instr.mapEntry 90 (.map (some bm)) (.agg #[.int .i64 x, .int .i64 y, .int .i64 h])).run Try.prog w.drew = .ok (.tuple #[v0, .int .i64 st]) x2 := hE
    have hlk2 : (Instr.lookup 90 (.map (some bm)) (.agg #[.int .i64 x, .int .i64 y, .int .i64 h]) false).run Try.prog x2 = .ok (.int .i64 (accF ps ⟨x, y, h⟩)) x2 := hl2
    clear hl2 hE hst hM hM2
    have HM3 := hide hM3
    clear hM3
    generalize accF ps ⟨x, y, h⟩ = vv at *
    have hSt' : (Instr.entryStore 90 (.map (some bm)) (.int .i64 st) (.int .i64 (IntKind.i64.wrap (vv + v)))).run Try.prog x2 = .ok () x3 := by rw [IntWalk.i64_in _ (by omega)]; exact hSt
    clear hSt
    have hne' : some bx ≠ some bm := by intro e; injection e with e; exact hne e
    have d0 : w.drew.cell? ⟨bx, 0, none⟩ = some (.map (some bm)) := hc
    have E0 := hide (hgE.cell d0 hne')
    have F0 := hide (hg3.cell d0 hne')
    clear d0
    go_enter Try.func79, Try.ntmps79
    go_wp2_with (go_at_call 51; refine (w_isPoint _ _ _).mono ?_; rintro e w' ⟨rfl, rfl⟩)
    go_region_held3 (fun w' => w'.cell? ⟨bx, 0, none⟩ = some (.map (some bm)))
      (first | go_keep | exact E0.out | exact F0.out)
      (first | fail)
    all_goals go_wp2
    all_goals go_end0
    all_goals exact ⟨rfl, HM3.out, (Gr.refl bm w).drew.trans hg3⟩

/-- What one tally adds: as the program has it, as the reference has it. -/
def conP (self side : Int) (t : Tally) : List (Spot × Int) :=
  cp t.x t.y t.hour (self * t.many) ++ cp (t.x - 1) t.y t.hour (side * t.many) ++ cp (t.x + 1) t.y t.hour (side * t.many) ++ cp t.x (t.y - 1) t.hour (side * t.many) ++ cp t.x (t.y + 1) t.hour (side * t.many)
theorem con_ok {self side : Int} (h1 : 0 ≤ self ∧ self ≤ 1000) (h2 : 0 ≤ side ∧ side ≤ 1000) {t : Tally} (ht : okTally t) : okPs (conP self side t) := by
  have hm := ht.2.2
  have b1 : 0 ≤ self * t.many ∧ self * t.many ≤ 1000000000000 := ⟨Int.mul_nonneg h1.1 (by omega), Int.le_trans (Int.mul_le_mul h1.2 hm.2 (by omega) (by omega)) (by omega)⟩
  have b2 : 0 ≤ side * t.many ∧ side * t.many ≤ 1000000000000 := ⟨Int.mul_nonneg h2.1 (by omega), Int.le_trans (Int.mul_le_mul h2.2 hm.2 (by omega) (by omega)) (by omega)⟩
  exact ((((okPs.cp ht.2.1 b1).app (okPs.cp ht.2.1 b2)).app (okPs.cp ht.2.1 b2)).app (okPs.cp ht.2.1 b2)).app (okPs.cp ht.2.1 b2)
theorem con_len (self side : Int) (t : Tally) : (conP self side t).length ≤ 5 := by
  unfold conP
  simp only [List.length_append]
  have := cp_len t.x t.y t.hour (self * t.many)
  have := cp_len (t.x - 1) t.y t.hour (side * t.many)
  have := cp_len (t.x + 1) t.y t.hour (side * t.many)
  have := cp_len t.x (t.y - 1) t.hour (side * t.many)
  have := cp_len t.x (t.y + 1) t.hour (side * t.many)
  omega
theorem cons_ok {self side : Int} (h1 : 0 ≤ self ∧ self ≤ 1000) (h2 : 0 ≤ side ∧ side ≤ 1000) : ∀ {l : List Tally}, (∀ t ∈ l, okTally t) → okPs (l.flatMap (conP self side)) ∧ (l.flatMap (conP self side)).length ≤ 5 * l.length
  | [], _ => ⟨⟨by simp, by simp⟩, by simp⟩
  | t :: l, h => by
    have ih := cons_ok h1 h2 (l := l) (fun c hc => h c (List.mem_cons_of_mem _ hc))
    have := con_len self side t
    rw [List.flatMap_cons]
    exact ⟨(con_ok h1 h2 (h t (by simp))).app ih.1, by rw [List.length_append, List.length_cons]; omega⟩
theorem flat_take (self side : Int) (l : List Tally) (k : Nat) (hk : k < l.length) : (l.take (k + 1)).flatMap (conP self side) = (l.take k).flatMap (conP self side) ++ conP self side l[k] := by
  rw [List.take_succ_eq_append_getElem hk, List.flatMap_append]; simp
end Go.Proofs.Ytjkpikhgknnbeaa
