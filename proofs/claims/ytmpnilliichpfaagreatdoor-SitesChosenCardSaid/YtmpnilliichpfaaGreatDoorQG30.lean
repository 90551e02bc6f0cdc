/- Plain: what the law SitesChosen weighs. -/
import Derived.Test.YtmpnilliichpfaaGreatDoorQChoP
import Derived.Test.YtmpnilliichpfaaGreatDoorQG22
import Derived.Test.YtmpnilliichpfaaGreatDoorQG14
import Derived.Test.YtmpnilliichpfaaGreatDoorQShelfJ
import Derived.Test.YtmpnilliichpfaaGreatDoorQG1
import Derived.Test.YtmpnilliichpfaaGreatDoorQG32
import Derived.Deep.RegionWith
import Derived.Deep.AppendLies
import Derived.Test.YtmpnilliichpfaaGreatDoorQG11
import Derived.Laws.StructEq
import Derived.WalkKit
namespace Go.Proofs.YtmpnilliichpfaaGreatDoor
open Go.RowKit

theorem tryL_sub (cov : List ByteArray → Int) (many : Int) (S : List ByteArray) (N : Nat) : ∀ (r so : List ByteArray) (acc : List ByteArray × Int), (∀ s ∈ r, s ∈ S) → (∀ s ∈ so, s ∈ S) → so.length + r.length ≤ N → ((∀ s ∈ acc.1, s ∈ S) ∧ acc.1.length ≤ N) → ((∀ s ∈ (tryL cov many r so acc).1, s ∈ S) ∧ (tryL cov many r so acc).1.length ≤ N)
  | [], so, acc, _, _, _, h => h
  | s :: r, so, acc, hr, hso, hl, h => by
    have hso2 : ∀ x ∈ so ++ [s], x ∈ S := fun x hx => (List.mem_append.1 hx).elim (hso x) (fun h => by rw [List.mem_singleton.1 h]; exact hr s (by simp))
    have hr2 : ∀ x ∈ r, x ∈ S := fun x hx => hr x (List.mem_cons_of_mem _ hx)
    rw [List.length_cons] at hl
    have hl2 : (so ++ [s]).length = so.length + 1 := by simp
    unfold tryL
    refine tryL_sub cov many S N r so _ hr2 hso (by omega) ?_
    split
    · unfold updC
      split
      · exact ⟨hso2, by rw [show ((so ++ [s], cov (so ++ [s])) : List ByteArray × Int).1 = so ++ [s] from rfl]; omega⟩
      · exact h
    · exact tryL_sub cov many S N r (so ++ [s]) acc hr2 hso2 (by omega) h
theorem chooseP_sub (ns : List Node) (rs : List Arc) (bs : List Ban) (sites : List ByteArray) (many : Int) (ws : List Wgt) (ad wi : Int) : (∀ s ∈ (chooseP ns rs bs sites many ws ad wi).1, s ∈ sites) ∧ (chooseP ns rs bs sites many ws ad wi).1.length ≤ sites.length := by
  unfold chooseP
  split
  · unfold chooseR tryG
    split
    · unfold updC
      split
      · exact ⟨fun s h => absurd h (by simp), Nat.zero_le _⟩
      · exact ⟨fun s h => absurd h (by simp), Nat.zero_le _⟩
    · exact tryL_sub _ many sites sites.length sites [] ([], -1) (fun s h => h) (fun s h => absurd h (by simp)) (by simp) ⟨fun s h => absurd h (by simp), Nat.zero_le _⟩
  · exact ⟨fun s h => absurd h (by simp), Nat.zero_le _⟩
section
variable {ns : List Node} {rs : List Arc} {bs : List Ban} {l sites : List ByteArray} {ws : List Wgt} {ad wi many : Int}
theorem cover_or (h : roadsF ns rs bs = 0) (hl : l.length ≤ 200) : orI [askF ns l 200, restF ns ws ad wi] = coverF ns rs bs l ws ad wi := by
  unfold coverF
  rw [if_pos h]
  unfold askF
  rw [if_neg (by omega)]
  cases h1 : missB ns l
  · rw [if_neg (show ¬ (false = true) by simp), if_neg (show ¬ (false = true) by simp)]
    rw [orI, if_pos rfl, orI]
    by_cases h2 : restF ns ws ad wi = 0
    · rw [if_pos h2, h2]; rfl
    · rw [if_neg h2]
  · rw [if_pos rfl, if_pos rfl]; rfl
theorem choose_or (h : roadsF ns rs bs = 0) : orI [sitesF ns sites, if outB many 0 (sites.length : Int) then 1 else 0, restF ns ws ad wi] = chooseF ns rs bs sites many ws ad wi := by
  unfold chooseF
  rw [if_pos h]
  by_cases h1 : sitesF ns sites = 0
  · rw [if_pos h1, orI, if_pos h1]
    cases h2 : outB many 0 (sites.length : Int)
    · rw [if_neg (by simp), if_neg (by simp), orI, if_pos rfl, orI]
      by_cases h3 : restF ns ws ad wi = 0
      · rw [if_pos h3, h3]; rfl
      · rw [if_neg h3]
    · rw [if_pos rfl, if_pos rfl]; rfl
  · rw [if_neg h1, orI, if_neg h1]
theorem coverF_ok (h : coverF ns rs bs l ws ad wi = 0) : roadsF ns rs bs = 0 ∧ (∀ s ∈ l, 0 ≤ nodeI ns s) ∧ restF ns ws ad wi = 0 := by
  unfold coverF at h
  split at h
  · rename_i h1
    split at h
    · exact absurd h (by decide)
    · rename_i h2
      exact ⟨h1, miss_all (by cases hq : missB ns l with | false => rfl | true => exact absurd hq h2), h⟩
  · rename_i h1
    exact absurd h h1
theorem chooseF_ok (h : chooseF ns rs bs sites many ws ad wi = 0) : roadsF ns rs bs = 0 ∧ sitesF ns sites = 0 ∧ restF ns ws ad wi = 0 := by
  unfold chooseF at h
  split at h
  · rename_i h1
    split at h
    · rename_i h2
      split at h
      · exact absurd h (by decide)
      · exact ⟨h1, h2, h⟩
    · rename_i h2; exact absurd h h2
  · rename_i h1; exact absurd h h1
theorem many_cases {a b n E : Int} (h : orI [a, if outB many 0 n then 1 else 0, b] = E) : ∃ z : Int, orI [a, z, b] = E ∧ ((decide (many < 0) = true ∧ z = 1) ∨ (decide (many < 0) = false ∧ decide (many > n) = true ∧ z = 1) ∨ (decide (many < 0) = false ∧ decide (many > n) = false ∧ z = 0)) := by
  refine ⟨_, h, ?_⟩
  unfold outB
  by_cases h1 : many < 0
  · left; simp [h1]
  · right
    by_cases h2 : n < many
    · left; simp [h1, h2]
    · right; simp [h1, h2]
end
end Go.Proofs.YtmpnilliichpfaaGreatDoor
/- What is wrong with sites: the reference. -/
namespace Go.Proofs.YtmpnilliichpfaaGreatDoor
open Go.RowKit

set_option maxRecDepth 100000 in
set_option maxHeartbeats 2000000 in
theorem w_SitesFault (lo : Nat) (A B C : Option Addr) (n1 n2 c1 c2 c3 : Nat) (ns : List Node) (lo2 : Nat) (D : Option Addr) (cd : Nat) (l : List ByteArray) (w : World) (hR : Rd w lo A 3 encNode ns) (hl : ns.length ≤ 65536) (hD : Rd w lo2 D 1 encS l) (hdl : l.length ≤ 65536) :
    Calls Tryz.prog 27 #[.agg #[.slice A ns.length c1, .slice B n1 c2, .slice C n2 c3], .slice D l.length cd] w fun e w' => e = .returned (.int .i64 (sitesF ns l)) ∧ Nx w w' := by
  obtain ⟨wa, hwa⟩ : ∃ wa, wa = w.alloc (.cells #[.slice A ns.length c1, .slice B n1 c2, .slice C n2 c3] 30) := ⟨_, rfl⟩
  have hna : Nx w wa := hwa ▸ (Nx.refl w).alloc _
  have hgw : w.heap.size < wa.heap.size := by rw [hwa]; simp
  have b0 : wa.cell? ⟨w.heap.size, 0, none⟩ = some (.slice A ns.length c1) := by rw [hwa]; go_simp
  have b1 : wa.cell? ⟨w.heap.size, 1, none⟩ = some (.slice B n1 c2) := by rw [hwa]; go_simp
  have b2 : wa.cell? ⟨w.heap.size, 2, none⟩ = some (.slice C n2 c3) := by rw [hwa]; go_simp
  have HBX := hide (fun W (hg : Nx wa W) => (⟨nx_cell hg hgw b0, nx_cell hg hgw b1, nx_cell hg hgw b2⟩ : W.cell? ⟨w.heap.size, 0, none⟩ = some (.slice A ns.length c1) ∧ W.cell? ⟨w.heap.size, 1, none⟩ = some (.slice B n1 c2) ∧ W.cell? ⟨w.heap.size, 2, none⟩ = some (.slice C n2 c3)))
  have HNA := hide (fun s W (hg : Nx wa W) => w_NodeAt lo A B C n1 n2 c1 c2 c3 ns s W (hR.nx (hna.trans hg)) hl)
  have HD := hide (hD.nx hna)
  have HWA := hide hwa
  have HN0 := hide hna
  clear hR hD b0 b1 b2 hgw hwa hna
  generalize hn : l.length = n at *
  have HN := hide hn
  clear hn
  generalize ns.length = nn at *
  by_cases hbig : 14 < n
  · go_enter Tryz.func27, Tryz.ntmps27
    go_wp2_with fail
    go_ret
    exact ⟨ret_int (by unfold sitesF; rw [if_pos (by rw [HN.out]; exact hbig)]), by rw [← HWA.out]; exact HN0.out⟩
  · have HF := hide (show sitesF ns l = chk (siteF ns) none l by unfold sitesF; rw [if_neg (by rw [HN.out]; exact hbig)])
    go_enter Tryz.func27, Tryz.ntmps27
    go_upto_region 3 with fail
    rw [← HWA.out]
    clear HWA
    generalize w.heap.size = g at *
    go_wp2_with fail
    go_loopw [12] (fun i wr => ∃ k : Nat, k ≤ n ∧ i = .int .i64 k ∧ Nx wa wr ∧ chk (siteF ns) none l = chk (siteF ns) (prevOf l k) (l.drop k)) (fun i _ => n - (intOf i).toNat)
    case atStart => exact ⟨0, Nat.zero_le _, rfl, Nx.refl _, rfl⟩
    case round =>
      obtain ⟨k, hk, rfl, hbw, hq⟩ := hrel
      have HQ := hide hq
      clear hq
      by_cases hlt : k < n
      · have hlt' : k < l.length := by have := HN.out; omega
        obtain ⟨b, off, rfl, _, hb, hbr, hc⟩ := HD.out.open_ hbw (by omega)
        have c0 : wr.cell? ⟨b, off + k, none⟩ = some (.string l[k]) := by have := hc k hlt' 0 _ rfl; simpa using this
        have HC := hide hc
        clear hc
        have HDR := hide (chk_drop (siteF ns) l k hlt')
        have HA := hide (HNA.out l[k])
        obtain ⟨z0, z1, z2⟩ := HBX.out wr hbw
        by_cases hn0 : nodeI ns l[k] < 0
        · have HV := hide (show siteF ns (prevOf l k) l[k] = 8 from if_pos hn0)
          have t0 : decide (nodeI ns l[k] < 0) = true := decide_eq_true hn0
          clear hn0
          go_wp2_with (go_at_call 81; refine (HA.out _ hbw).mono ?_; rintro e w2 ⟨rfl, hn2⟩)
          go_ret
          exact ⟨ret_int (by rw [HF.out, HQ.out, HDR.out, HV.out]; rfl), (HN0.out.trans hbw).trans hn2⟩
        · have t0 : decide (nodeI ns l[k] < 0) = false := decide_eq_false hn0
          have HV0 := hide (show siteF ns (prevOf l k) l[k] = if aftS (prevOf l k) l[k] then 7 else 0 from if_neg hn0)
          clear hn0
          by_cases hk0 : 0 < k
          · have q0 : decide ((0 : Int) < (k : Int)) = true := by simpa using hk0
            have q1 : IntKind.i64.wrap ((k : Int) - 1) = (k : Int) - 1 := IntWalk.i64_in _ (by omega)
            have q2 : (1 : Int) ≤ (k : Int) := by omega
            have q3 : ((k : Int) - 1).toNat = k - 1 := by omega
            have q4 : (k : Int) - 1 < (n : Int) := by omega
            have HC4 := hide (show wr.cell? ⟨b, off + (k - 1), none⟩ = some (.string (l[k - 1]'(by omega))) by have := HC.out (k - 1) (by omega) 0 _ rfl; simpa using this)
            have HV1 := hide (show aftS (prevOf l k) l[k] = strLe l[k] (l[k - 1]'(by omega)) by rw [prevOf_pos l k hk0 (by omega)]; rfl)
            generalize (l[k - 1]'(by omega)) = p0 at *
            cases ho : strLe l[k] p0
            · have t1 : (Op.bytesLess l[k].toList p0.toList || l[k].toList == p0.toList) = false := ho
              rw [ho] at HV1
              clear ho HC
              go_wp2_with (go_at_call 81; refine (HA.out _ hbw).mono ?_; rintro e w2 ⟨rfl, hn2⟩; have m2 := nx_cell hn2 hbr HC4.out)
              go_roundw
              case rel => exact ⟨k + 1, by omega, by go_num, hbw.trans hn2, by rw [HQ.out, HDR.out, HV0.out, HV1.out]; rfl⟩
              case measure => simp [intOf]; omega
            · have t1 : (Op.bytesLess l[k].toList p0.toList || l[k].toList == p0.toList) = true := ho
              rw [ho] at HV1
              clear ho HC
              go_wp2_with (go_at_call 81; refine (HA.out _ hbw).mono ?_; rintro e w2 ⟨rfl, hn2⟩; have m2 := nx_cell hn2 hbr HC4.out)
              go_ret
              exact ⟨ret_int (by rw [HF.out, HQ.out, HDR.out, HV0.out, HV1.out]; rfl), (HN0.out.trans hbw).trans hn2⟩
          · have HV1 := hide (show aftS (prevOf l k) l[k] = false by have e : k = 0 := (by omega); subst e; rw [prevOf_zero]; rfl)
            have q0 : decide ((0 : Int) < (k : Int)) = false := by simpa using hk0
            clear HC
            go_wp2_with (go_at_call 81; refine (HA.out _ hbw).mono ?_; rintro e w2 ⟨rfl, hn2⟩)
            go_roundw
            case rel => exact ⟨k + 1, by omega, by go_num, hbw.trans hn2, by rw [HQ.out, HDR.out, HV0.out, HV1.out]; rfl⟩
            case measure => simp [intOf]; omega
      · go_wp2_with fail
        go_ret
        exact ⟨ret_int (by rw [HF.out, HQ.out, List.drop_of_length_le (by have := HN.out; omega)]; rfl), HN0.out.trans hbw⟩
end Go.Proofs.YtmpnilliichpfaaGreatDoor
/- strings.Join of strings with a space. -/
namespace Go.Proofs.YtmpnilliichpfaaGreatDoor
open Go.RowKit Go.Proofs Go.Shelf

theorem join_ex : Builder.Extra Tryz.prog Tryz.joinA_ren where
  sizeBuilder := by kernel_rfl
  liesBuilder := by kernel_rfl
  t5 := Tryz.underlying5
  a5 := Tryz.isAgg5
  z5 := Tryz.sizeOf5
  v5 := Tryz.zeroValue5
  infoByte := by kernel_rfl
  cellsByte := by kernel_rfl
  sizeByte := by kernel_rfl
  neB5 := by decide
def joinS (l : List ByteArray) : ByteArray := ⟨(Lib.join (l.map (·.data.toList)) [32]).toArray⟩
theorem lens_le : ∀ (l : List ByteArray), (∀ s ∈ l, s.size ≤ 1000000) → Lib.lens (l.map (·.data.toList)) ≤ l.length * 1000000
  | [], _ => by simp [Lib.lens]
  | s :: l, h => by
    have h1 := lens_le l (fun x hx => h x (List.mem_cons_of_mem _ hx))
    have h2 := h s (by simp)
    have h3 : s.data.toList.length = s.size := by rw [Array.length_toList]; rfl
    rw [List.map_cons, List.length_cons]
    simp only [Lib.lens, List.map_cons, List.sum_cons] at h1 ⊢
    omega
theorem join_len (l : List ByteArray) (h : ∀ s ∈ l, s.size ≤ 1000000) : (Lib.join (l.map (·.data.toList)) [32]).length ≤ l.length * 1000001 := by
  cases l with
  | nil => simp [Lib.join, List.intercalate]
  | cons x r =>
    have h1 := lens_le (x :: r) h
    have h2 : (Lib.join ((x :: r).map (·.data.toList)) [32]).length = 1 * (r.map (·.data.toList)).length + Lib.lens ((x :: r).map (·.data.toList)) := Lib.join_length _ _ _
    rw [h2, List.length_map]
    have h3 : (x :: r).length = r.length + 1 := List.length_cons
    rw [h3] at h1 ⊢
    omega
theorem w_JoinS (lo : Nat) (A : Option Addr) (c : Nat) (l : List ByteArray) (w : World) (hR : Rd w lo A 1 encS l) (hc : l.length ≤ c) (hl : l.length ≤ 1000) (hs : ∀ s ∈ l, s.size ≤ 1000000) :
    Calls Tryz.prog 30 #[.slice A l.length c, .string ⟨#[32]⟩] w fun e w' => e = .returned (.string (joinS l)) ∧ Nx w w' := by
  rcases Nat.eq_zero_or_pos l.length with h0 | h0
  · obtain rfl : l = [] := List.eq_nil_of_length_eq_zero h0
    refine (Any.strings_Join_none Tryz.joinA join_ex A c ⟨#[32]⟩ w).mono ?_
    rintro e w' ⟨rfl, rfl⟩
    exact ⟨rfl, Nx.refl _⟩
  · obtain ⟨b, off, rfl, _, hb, hbc⟩ := hR h0
    refine (Any.strings_Join Tryz.joinA join_ex b off c l ⟨#[32]⟩ w (fun j x hx => ?_) hb (by omega) hc ?_).mono ?_
    · have := hbc j x hx 0 _ rfl
      simpa using this
    · have := join_len l hs
      have h2 : l.length * 1000001 ≤ 1000 * 1000001 := Nat.mul_le_mul_right _ hl
      show (Lib.join (l.map (·.data.toList)) [32]).length ≤ 140737488355328
      omega
    · rintro e w' ⟨rfl, hn⟩
      exact ⟨rfl, hn⟩
end Go.Proofs.YtmpnilliichpfaaGreatDoor
/- Roads in the making, once more: the box lies behind the rows. -/
namespace Go.Proofs.YtmpnilliichpfaaGreatDoor
open Go.RowKit

theorem own_neU {w : World} {base : Nat} {e t : TypeId} {K n : Nat} {v : Value} {xs : List Value} {G : Nat} {cs : Array Value} (h : w.ownsRow base e K v n xs) (hb : w.heap[G]? = some (.cells cs t (0, 0))) (hne : t ≠ e) : v.ownBlock ≠ some G := by
  rcases h.2 with ⟨rfl, _⟩ | ⟨g, cap, cur, rfl, _, hg, _⟩
  · intro e; cases e
  · intro e
    injection e with e
    subst e
    rw [hb] at hg
    injection hg with hg
    injection hg with _ h2 _
    exact hne h2
section
variable {w w' : World} {base : Nat} {vN vA vB : Value} {ns : List Node} {rs : List Arc} {bs : List Ban}
/-- A block of another type has been written. -/
theorem OwnR.off {g : Nat} {cs : Array Value} {t : TypeId} (h : OwnR w base vN vA vB ns rs bs) (hb : w.heap[g]? = some (.cells cs t (0, 0))) (h1 : t ≠ 39) (h2 : t ≠ 63) (h3 : t ≠ 114) (h4 : t ≠ 112) (hg : w.grownBy w' (some g)) : OwnR w' base vN vA vB ns rs bs :=
  ⟨h.rowN.kept hg (.inr (own_neU h.rowN hb h1)), h.rowA.kept hg (.inr (own_neU h.rowA hb h2)), h.rowB.kept hg (.inr (own_neU h.rowB hb h3)), fun a ha => (h.each a ha).kept hg (.inr (own_neU (h.each a ha) hb h4)), h.smN, h.smA⟩
end
/-- The stream's roads, once they are made: they lie in box g3. -/
structure RQ (w0 : World) (s g3 : Nat) (w : World) (vN vA vB : Value) (ns : List Node) (rs : List Arc) (bs : List Ban) (K : Nat) : Prop where
  own : OwnR w (w0.heap.size + 1) vN vA vB ns rs bs
  box : w.heap[g3]? = some (.cells #[vN, vA, vB] 30 (0, 0))
  res : ∃ cs, w.heap[w0.heap.size]? = some (.cells cs 30 (0, 0)) ∧ cs.size = 3
  gr_ : Gr s w0 w
  str : Str w s K
  slt : s < w0.heap.size
  g3gt : w0.heap.size < g3
section
variable {w0 w w' : World} {s g3 K K' : Nat} {vN vA vB : Value} {ns : List Node} {rs : List Arc} {bs : List Ban}
theorem RQ.gr (h : RQ w0 s g3 w vN vA vB ns rs bs K) (hn : Gr s w w') (hS : Str w' s K') : RQ w0 s g3 w' vN vA vB ns rs bs K' := by
  have hs := h.slt
  have h3 := h.g3gt
  have hl : ∀ g o, w.heap[g]? = some o → g ≠ s → w'.heap[g]? = some o := fun g o hg hne => (World.grownBy.block (row := some s) hn g (Array.getElem?_eq_some_iff.1 hg).1 (by simp; omega)).trans hg
  obtain ⟨cs, h1, h2⟩ := h.res
  exact ⟨h.own.gr hn (by omega), hl _ _ h.box (by omega), ⟨cs, hl _ _ h1 (by omega), h2⟩, h.gr_.trans hn, hS, hs, h3⟩
theorem RQ.nx (h : RQ w0 s g3 w vN vA vB ns rs bs K) (hn : Nx w w') : RQ w0 s g3 w' vN vA vB ns rs bs K := h.gr (Gr.of_nx hn) (h.str.nx hn)
theorem RQ.more (h : RQ w0 s g3 w vN vA vB ns rs bs K) (hk : K ≤ K') : RQ w0 s g3 w vN vA vB ns rs bs K' := { h with str := h.str.more hk }
theorem RQ.sz (h : RQ w0 s g3 w vN vA vB ns rs bs K) : g3 < w.heap.size := (Array.getElem?_eq_some_iff.1 h.box).1
theorem RQ.cellN (h : RQ w0 s g3 w vN vA vB ns rs bs K) : w.cell? ⟨g3, 0, none⟩ = some vN := cell_of_row w _ 0 _ _ _ h.box
theorem RQ.cellA (h : RQ w0 s g3 w vN vA vB ns rs bs K) : w.cell? ⟨g3, 1, none⟩ = some vA := cell_of_row w _ 1 _ _ _ h.box
theorem RQ.cellB (h : RQ w0 s g3 w vN vA vB ns rs bs K) : w.cell? ⟨g3, 2, none⟩ = some vB := cell_of_row w _ 2 _ _ _ h.box
/-- A row has been written: the box is as it was. -/
theorem RQ.row {v : Value} {base n K2 : Nat} {e : TypeId} {xs : List Value} (h : RQ w0 s g3 w vN vA vB ns rs bs K) (ho : w.ownsRow base e K2 v n xs) (hne : 30 ≠ e) (hb : w0.heap.size + 1 ≤ base) (hg : w.grownBy w' v.ownBlock) {vN' vA' vB' : Value} {ns' : List Node} {rs' : List Arc} {bs' : List Ban} (ho' : OwnR w' (w0.heap.size + 1) vN' vA' vB' ns' rs' bs') :
    w'.heap[g3]? = some (.cells #[vN, vA, vB] 30 (0, 0)) ∧ (∃ cs, w'.heap[w0.heap.size]? = some (.cells cs 30 (0, 0)) ∧ cs.size = 3) ∧ Gr s w0 w' ∧ Str w' s K ∧ OwnR w' (w0.heap.size + 1) vN' vA' vB' ns' rs' bs' := by
  have hs := h.slt
  have hbl := own_blk_lt ho
  obtain ⟨cs, h1, h2⟩ := h.res
  exact ⟨(World.grownBy.block hg _ h.sz (fun e => own_neU ho h.box hne e.symm)).trans h.box,
    ⟨cs, (World.grownBy.block hg _ (Array.getElem?_eq_some_iff.1 h1).1 (fun e => own_neU ho h1 hne e.symm)).trans h1, h2⟩,
    h.gr_.grown hg (fun k hk => .inr (by have := hbl k hk; omega)), h.str.row hg (fun k hk => by have := hbl k hk; omega), ho'⟩
/-- .. and then the box's field. -/
theorem RQ.set {v v' : Value} {base n K2 j : Nat} {e : TypeId} {xs : List Value} (h : RQ w0 s g3 w vN vA vB ns rs bs K) (ho : w.ownsRow base e K2 v n xs) (hne : 30 ≠ e) (hb : w0.heap.size + 1 ≤ base) (hg : w.grownBy w' v.ownBlock) {vN' vA' vB' : Value} {ns' : List Node} {rs' : List Arc} {bs' : List Ban} (ho' : OwnR w' (w0.heap.size + 1) vN' vA' vB' ns' rs' bs')
    (he : (#[vN, vA, vB] : Array Value).setIfInBounds j v' = #[vN', vA', vB']) : RQ w0 s g3 (w'.setCell ⟨g3, j, none⟩ v') vN' vA' vB' ns' rs' bs' K := by
  have hs := h.slt
  have h3 := h.g3gt
  obtain ⟨h1, ⟨cs, h2, h2'⟩, h4, h5, h6⟩ := h.row ho hne hb hg ho'
  have hset : Gr g3 w' (w'.setCell ⟨g3, j, none⟩ v') := (Gr.refl g3 w').setS (p := ⟨g3, j, none⟩) (.inl rfl) v'
  refine ⟨h6.off h1 (by decide) (by decide) (by decide) (by decide) hset, ?_, ⟨cs, (World.grownBy.block (row := some g3) hset _ (Array.getElem?_eq_some_iff.1 h2).1 (by simp; omega)).trans h2, h2'⟩, ?_, ?_, hs, h3⟩
  · rw [← he]; exact heap_set h1
  · exact h4.setS (p := ⟨g3, j, none⟩) (.inr (by show w0.heap.size ≤ g3; omega)) v'
  · exact h5.row hset (fun k hk => by injection hk with hk; omega)
end
/-- Region r, wherever it stands. -/
def findReg (r : Nat) : Code → Option Code
  | .region n o b => bif Nat.beq n r then some (.region n o b) else none
  | .seq a b => match findReg r a with | some c => some c | none => findReg r b
  | .cond _ a b => match findReg r a with | some c => some c | none => findReg r b
  | .scope c => findReg r c
  | .block _ c => findReg r c
  | .loop c => findReg r c
  | _ => none
noncomputable def regR (r : Nat) : Code := (findReg r (Tryz.f11.body.getD .skip)).getD .skip
end Go.Proofs.YtmpnilliichpfaaGreatDoor
/- Bans the other way round. -/
namespace Go.Proofs.YtmpnilliichpfaaGreatDoor
open Go.RowKit

theorem ban_set {w : World} {base g n cap : Nat} {xs : List Ban} (h : w.ownsRow base 114 2 (.slice (some ⟨g, 0, none⟩) n cap) n (xs.flatMap encBan)) (hn : xs.length = n) (o : Nat) (ho : o < n * 2) (u : ByteArray) :
    ∃ ys : List Ban, ys.length = n ∧ (w.setCell ⟨g, o, none⟩ (.string u)).ownsRow base 114 2 (.slice (some ⟨g, 0, none⟩) n cap) n (ys.flatMap encBan) := by
  have hi : o / 2 < xs.length := by omega
  rcases (by omega : o % 2 = 0 ∨ o % 2 = 1) with h0 | h0
  · exact ⟨_, by rw [List.length_set]; exact hn, own_set encBan_len hn h (o / 2) hi 0 (by omega) (.string u) ⟨u, xs[o / 2].to_⟩ rfl o (by omega)⟩
  · exact ⟨_, by rw [List.length_set]; exact hn, own_set encBan_len hn h (o / 2) hi 1 (by omega) (.string u) ⟨xs[o / 2].from_, u⟩ rfl o (by omega)⟩
set_option maxRecDepth 100000 in
set_option maxHeartbeats 4000000 in
theorem w_RevB (base : Nat) (v : Value) (bs : List Ban) (w : World) (hown : w.ownsRow base 114 2 v bs.length (bs.flatMap encBan)) (hl : bs.length ≤ 65536) :
    Calls Tryz.prog 65 #[v] w fun e w' => e = .returned (.tuple #[]) ∧ ∃ bs' : List Ban, bs'.length = bs.length ∧ w'.ownsRow base 114 2 v bs'.length (bs'.flatMap encBan) ∧ w.grownBy w' v.ownBlock := by
  by_cases h0 : bs.length = 0
  · have hb : bs = [] := List.eq_nil_of_length_eq_zero h0
    subst hb
    have HO := hide hown
    obtain ⟨A, c, rfl, _, _⟩ := Rd.of_own encBan_len rfl hown
    clear hown
    go_enter Tryz.func65, Tryz.ntmps65
    go_wp2_with fail
    refine wp_loop_rounds 1 ?_
    rw [rounds_succ]
    go_wp2_with fail
    go_end0
    exact ⟨rfl, [], rfl, HO.out, World.grownBy.refl _ _⟩
  · obtain ⟨g, cap, rfl⟩ : ∃ g cap, v = .slice (some ⟨g, 0, none⟩) bs.length cap := by
      rcases hown.2 with ⟨_, h⟩ | ⟨g, cap, cur, e, _⟩
      · exact absurd h h0
      · exact ⟨g, cap, e⟩
    generalize hn : bs.length = n at *
    have HO := hide hown
    have HN := hide hn
    clear hown hn
    go_enter Tryz.func65, Tryz.ntmps65
    have n1 : IntKind.i64.wrap ((n : Int) - 1) = ((n - 1 : Nat) : Int) := by rw [IntWalk.i64_in _ (by omega)]; omega
    go_wp2_with fail
    go_loopw [2, 3] (fun vi vj wr => ∃ (i j : Nat) (zs : List Ban), vi = .int .i64 i ∧ vj = .int .i64 j ∧ i + j = n - 1 ∧ zs.length = n ∧ wr.ownsRow base 114 2 (.slice (some ⟨g, 0, none⟩) n cap) n (zs.flatMap encBan) ∧ Gr g w wr) (fun vi vj _ => (intOf vj).toNat - (intOf vi).toNat)
    case atStart => exact ⟨0, n - 1, bs, rfl, rfl, by omega, HN.out, HO.out, Gr.refl _ _⟩
    case round =>
      obtain ⟨i, j, zs, rfl, rfl, hij, hzl, hown, hgr⟩ := hrel
      by_cases hlt : i < j
      · have hi : i < zs.length := by omega
        have hj : j < zs.length := by omega
        have c0 : wr.cell? ⟨g, i * 2, none⟩ = some (.string zs[i].from_) := by have := own_cell encBan_len hzl hown i hi 0 _ rfl; simpa using this
        have c1 : wr.cell? ⟨g, i * 2 + 1, none⟩ = some (.string zs[i].to_) := own_cell encBan_len hzl hown i hi 1 _ rfl
        have c2 : wr.cell? ⟨g, j * 2, none⟩ = some (.string zs[j].from_) := by have := own_cell encBan_len hzl hown j hj 0 _ rfl; simpa using this
        have c3 : wr.cell? ⟨g, j * 2 + 1, none⟩ = some (.string zs[j].to_) := own_cell encBan_len hzl hown j hj 1 _ rfl
        have f0 := hown.frozenAt (i * 2)
        have f1 := hown.frozenAt (i * 2 + 1)
        have f2 := hown.frozenAt (j * 2)
        have f3 := hown.frozenAt (j * 2 + 1)
        have HOW := hide hown
        have hi2 : (i : Int) < (n : Int) := by omega
        have hj2 : (j : Int) < (n : Int) := by omega
        have hi0 : (0 : Int) ≤ (i : Int) := by omega
        have hj0 : (0 : Int) ≤ (j : Int) := by omega
        generalize zs[i] = x at *
        generalize zs[j] = y at *
        clear hown
        go_wp2_with fail
        go_region_with (fail)
        all_goals
          go_wp2_with fail
          first
            | (obtain ⟨z1, hz1, o1⟩ := ban_set HOW.out hzl (i * 2) (by omega) y.from_
               obtain ⟨z2, hz2, o2⟩ := ban_set o1 hz1 (i * 2 + 1) (by omega) y.to_
               obtain ⟨z3, hz3, o3⟩ := ban_set o2 hz2 (j * 2) (by omega) x.from_
               obtain ⟨z4, hz4, o4⟩ := ban_set o3 hz3 (j * 2 + 1) (by omega) x.to_
               go_roundw
               case rel => exact ⟨i + 1, j - 1, z4, by go_num, by (congr 1; omega), by omega, hz4, o4, ((((hgr.setS (p := ⟨g, i * 2, none⟩) (.inl rfl) _).setS (p := ⟨g, i * 2 + 1, none⟩) (.inl rfl) _).setS (p := ⟨g, j * 2, none⟩) (.inl rfl) _).setS (p := ⟨g, j * 2 + 1, none⟩) (.inl rfl) _).drew⟩
               case measure => simp [intOf]; omega)
            | (obtain ⟨z1, hz1, o1⟩ := ban_set HOW.out hzl (j * 2) (by omega) x.from_
               obtain ⟨z2, hz2, o2⟩ := ban_set o1 hz1 (j * 2 + 1) (by omega) x.to_
               obtain ⟨z3, hz3, o3⟩ := ban_set o2 hz2 (i * 2) (by omega) y.from_
               obtain ⟨z4, hz4, o4⟩ := ban_set o3 hz3 (i * 2 + 1) (by omega) y.to_
               go_roundw
               case rel => exact ⟨i + 1, j - 1, z4, by go_num, by (congr 1; omega), by omega, hz4, o4, ((((hgr.setS (p := ⟨g, j * 2, none⟩) (.inl rfl) _).setS (p := ⟨g, j * 2 + 1, none⟩) (.inl rfl) _).setS (p := ⟨g, i * 2, none⟩) (.inl rfl) _).setS (p := ⟨g, i * 2 + 1, none⟩) (.inl rfl) _).drew⟩
               case measure => simp [intOf]; omega)
      · go_wp2_with fail
        go_end0
        exact ⟨rfl, zs, by omega, by rw [hzl]; exact hown, hgr⟩
end Go.Proofs.YtmpnilliichpfaaGreatDoor
/- cmp.Or of three. -/
namespace Go.Proofs.YtmpnilliichpfaaGreatDoor
open Go.RowKit
theorem w_Or3 (a b d : Int) (g c : Nat) (w : World) (hg : w.heap[g]? = some (.cells #[.int .i64 a, .int .i64 b, .int .i64 d] 42 (0, 0))) :
    Calls Tryz.prog 22 #[.slice (some ⟨g, 0, none⟩) 3 c] w fun e w' => e = .returned (.int .i64 (orI [a, b, d])) ∧ w = w' := by
  have hR : Rd w 0 (some ⟨g, 0, none⟩) 1 encI [a, b, d] := Rd.lit hg (Nat.zero_le _) (fun _ => rfl) rfl
  exact w_OrE 0 _ c [a, b, d] w hR (by simp)
end Go.Proofs.YtmpnilliichpfaaGreatDoor
/- jitlaw1.counted answers true. -/
namespace Go.Proofs.YtmpnilliichpfaaGreatDoor
open Go.RowKit

theorem gd_CellC : Tryz.prog.eqGuardType Tryz.prog.depth 137 = false := by kernel_rfl
theorem sin_CellC (d : Nat) (x y a b : Int) (w : World) : (Op.equalIn (d + 2) 137 (.agg #[.int .i64 x, .int .i64 y]) (.agg #[.int .i64 a, .int .i64 b])).run Tryz.prog w = .ok (x == a && y == b) w := by
  have u3 := Tryz.underlying3
  have a3 := Tryz.isAgg3
  have z3 := Tryz.sizeOf3
  have hS : Tryz.prog.underlying 137 = some (.struct (Tryz.prog.fieldsOf 137)) := by kernel_rfl
  have hp : Tryz.prog.stoodInHeld 137 = false := by kernel_rfl
  rw [run_equalIn_agg w (d + 1) 137 _ _ hS hp]
  simp only [Program.fieldsOf, Tryz.underlying137]
  go_simp
  by_cases h1 : x = a <;> by_cases h2 : y = b <;> simp [h1, h2]
theorem neq_CellC (x y a b : Int) (w : World) : (binOp .neq 137 (.agg #[.int .i64 x, .int .i64 y]) (.agg #[.int .i64 a, .int .i64 b])).run Tryz.prog w = .ok (.bool (!(x == a && y == b))) w := by
  rw [run_neq_struct, show (10000 : Nat) = 9998 + 2 from rfl, sin_CellC]; rfl
theorem eql_CellC (x y a b : Int) (w : World) : (binOp .eql 137 (.agg #[.int .i64 x, .int .i64 y]) (.agg #[.int .i64 a, .int .i64 b])).run Tryz.prog w = .ok (.bool (x == a && y == b)) w := by
  rw [run_eql_struct, show (10000 : Nat) = 9998 + 2 from rfl, sin_CellC]; rfl
theorem w_CellOfY (x y size : Int) (w : World) (h1 : isPtB x y = true) (h2 : outB size 1 10000 = false) :
    Calls Tryz.prog 84 #[.int .i64 x, .int .i64 y, .int .i64 size] w fun e w' => e = .returned (.tuple #[.agg #[.int .i64 (x / size), .int .i64 (y / size)], .int .i64 0]) ∧ Nx w w' := by
  have g1 := isPtB_true.1 h1
  have g2 := outB_false.1 h2
  go_enter Tryz.func84, Tryz.ntmps84
  go_wp2_with (first | (go_at_call 151; refine (w_isPoint _ _ _).mono ?_; rintro e w' ⟨rfl, rfl⟩) | (go_at_call 76; refine (w_Out _ _ _ _).mono ?_; rintro e w' ⟨rfl, rfl⟩) | (go_at_call 152; refine (w_Down _ _ _ (by omega) (by omega)).mono ?_; rintro e w' ⟨rfl, rfl⟩))
  exact bodyPost_ret (v := .tuple #[.agg #[.int .i64 (x / size), .int .i64 (y / size)], .int .i64 0]) (by simp [results, Tryz.results84, go_sem]) rfl ⟨rfl, (Nx.refl _).alloc _⟩

attribute [local go_sem ↓] neq_CellC eql_CellC
attribute [local go_sem] gd_CellC
theorem w_counted (w : World) : Calls Tryz.prog 21 #[] w fun e w' => e = .returned (.bool true) ∧ Nx w w' := by
  go_enter Tryz.func21, Tryz.ntmps21
  go_wp2_with (go_at_call 84; refine (w_CellOfY (-1) 250 100 _ (by decide) (by decide)).mono ?_; rintro e w1 ⟨rfl, hn1⟩)
  go_ret
  exact ⟨rfl, hn1.alloc _⟩
end Go.Proofs.YtmpnilliichpfaaGreatDoor
/- The rest of a function's code from a region on. Of no program. -/
namespace Go.Proofs.YtmpnilliichpfaaGreatDoor
open Go

/-- The first region's number. -/
def firstReg : Code → Option Nat
  | .region n _ _ => some n
  | .seq a _ => firstReg a
  | .scope c => firstReg c
  | .block _ c => firstReg c
  | .loop c => firstReg c
  | _ => none
def isReg (r : Nat) (c : Code) : Bool := match firstReg c with | some n => Nat.beq n r | none => false
/-- What follows from the statement on that begins with region r. -/
def fromReg (r : Nat) : Code → Code
  | .seq a b => bif isReg r a then .seq a b else fromReg r b
  | .scope c => fromReg r c
  | .block _ c => fromReg r c
  | c => c
end Go.Proofs.YtmpnilliichpfaaGreatDoor
