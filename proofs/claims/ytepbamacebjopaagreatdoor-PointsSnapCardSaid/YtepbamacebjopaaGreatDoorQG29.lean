/- Contracts of Snap, Needed, Without for right roads, each in one; points compared. -/
import Derived.Test.YtepbamacebjopaaGreatDoorQG15
import Derived.Test.YtepbamacebjopaaGreatDoorQG25
import Derived.Test.YtepbamacebjopaaGreatDoorQG28
import Derived.Laws.StructEq
import Derived.Test.YtepbamacebjopaaGreatDoorQG18
import Derived.Test.YtepbamacebjopaaGreatDoorQCheckR
import Derived.Deep.RegionHeldLaw
import Derived.Deep.Onto
import Derived.Deep.DeepMust
import Derived.Deep.DeepCutAuto
import Derived.Test.YtepbamacebjopaaGreatDoorQShelfZ
import Derived.Test.YtepbamacebjopaaGreatDoorQG0
import Derived.StillTailTactics
import Derived.Shelf.Slices.Cells
import Derived.Lib.LazyBuf
import Derived.Test.YtepbamacebjopaaGreatDoorQShelfG
import Derived.Sort.OwnSorted
import Derived.Sort.EveryDepth
namespace Go.Proofs.YtepbamacebjopaaGreatDoor
open Go.RowKit Go.Sort

theorem sin_Frac2 (d : Nat) (x y : Int) (w : World) : (Op.equalIn (d + 2) 41 (.agg #[.int .i64 x, .int .i64 y]) (.agg #[.int .i64 x, .int .i64 y])).run Tryz.prog w = .ok true w := by
  have u3 := Tryz.underlying3
  have a3 := Tryz.isAgg3
  have z3 := Tryz.sizeOf3
  have hS : Tryz.prog.underlying 41 = some (.struct (Tryz.prog.fieldsOf 41)) := by kernel_rfl
  have hp : Tryz.prog.stoodInHeld 41 = false := by kernel_rfl
  rw [run_equalIn_agg w (d + 1) 41 _ _ hS hp]
  simp only [Program.fieldsOf, Tryz.underlying41]
  go_simp
  try simp
theorem sin_Spot2 (d : Nat) (k : ByteArray) (a b c e : Int) (w : World) : (Op.equalIn (d + 3) 43 (.agg #[.string k, .int .i64 a, .int .i64 b, .int .i64 c, .int .i64 e]) (.agg #[.string k, .int .i64 a, .int .i64 b, .int .i64 c, .int .i64 e])).run Tryz.prog w = .ok true w := by
  have u9 := Tryz.underlying9
  have a9 := Tryz.isAgg9
  have z9 := Tryz.sizeOf9
  have a4 := Tryz.isAgg41
  have z4 := Tryz.sizeOf41
  have hC1 := fun w => sin_Frac2 d a b w
  have hC2 := fun w => sin_Frac2 d c e w
  have hS : Tryz.prog.underlying 43 = some (.struct (Tryz.prog.fieldsOf 43)) := by kernel_rfl
  have hp : Tryz.prog.stoodInHeld 43 = false := by kernel_rfl
  rw [run_equalIn_agg w (d + 2) 43 _ _ hS hp]
  simp only [Program.fieldsOf, Tryz.underlying43]
  go_simp
  try simp
theorem neq_Spot2 (k : ByteArray) (a b c e : Int) (w : World) : (binOp .neq 43 (.agg #[.string k, .int .i64 a, .int .i64 b, .int .i64 c, .int .i64 e]) (.agg #[.string k, .int .i64 a, .int .i64 b, .int .i64 c, .int .i64 e])).run Tryz.prog w = .ok (.bool false) w := by
  rw [run_neq_struct, show (10000 : Nat) = 9997 + 3 from rfl, sin_Spot2]; rfl
theorem ltS_of_strLe {q s : ByteArray} (h : strLe s q = false) : ltS q s := by
  unfold strLe at h
  rw [Bool.or_eq_false_iff, Proofs.bytesLess_eq, Lib.toList_data, Lib.toList_data] at h
  have h1 : ¬ s.data.toList < q.data.toList := of_decide_eq_false h.1
  have h2 : ¬ s.data.toList = q.data.toList := by
    have := h.2
    rwa [beq_eq_false_iff_ne] at this
  unfold ltS
  exact Std.lt_of_le_of_ne (List.not_lt.1 h1) (fun e => h2 e.symm)
theorem wds_sort {rs : List Arc} : ∀ (l : List ByteArray) (p : Option ByteArray), chk (wdtF rs) p l = 0 → l.Pairwise ltS
  | [], _, _ => List.Pairwise.nil
  | s :: l, p, h => by
    rw [chk] at h
    split at h
    · have ih := wds_sort l (some s) h
      refine List.pairwise_cons.2 ⟨?_, ih⟩
      cases l with
      | nil => intro x hx; exact absurd hx (by simp)
      | cons y l =>
        rw [chk] at h
        split at h
        · rename_i h2
          have hy : ltS s y := by
            unfold wdtF at h2
            split at h2
            · exact absurd h2 (by decide)
            · split at h2
              · exact absurd h2 (by decide)
              · rename_i h3
                exact ltS_of_strLe (by simpa [aftS] using h3)
          intro x hx
          rcases List.mem_cons.1 hx with e | e
          · rw [e]; exact hy
          · exact ltS_trans2 hy ((List.pairwise_cons.1 ih).1 x e)
        · rename_i h2
          exact absurd h h2
    · rename_i h2
      exact absurd h h2
section
variable (lo : Nat) (A B C : Option Addr) (ca cb cc : Nat) (ns : List Node) (rs : List Arc) (bs : List Ban) (w : World)
    (hN : Rd w lo A 3 encNode ns) (hA : RdArcs w lo B rs) (hB : Rd w lo C 2 encBan bs) (hnl : ns.length ≤ 400) (hal : rs.length ≤ 400) (hbl : bs.length ≤ 400) (hS : SmallN ns) (hF : roadsF ns rs bs = 0)
include hN hA hB hnl hal hbl hS hF
theorem w_SnapU (x y : Int) : Calls Tryz.prog 9 #[.agg #[.slice A ns.length ca, .slice B rs.length cb, .slice C bs.length cc], .int .i64 x, .int .i64 y] w fun e w' => ∃ (S : SpotV) (b : Bool), e = .returned (.tuple #[spotAgg S, .bool b, .int .i64 (ptF x y)]) ∧ (ptF x y = 0 → S = snapV ns rs x y ∧ b = decide (0 < rs.length)) ∧ (ptF x y ≠ 0 → S = default ∧ b = false) ∧ Nx w w' := by
  by_cases hp : ptF x y = 0
  · have hpt : isPtB x y = true := by
      cases h : isPtB x y with
      | true => rfl
      | false => unfold ptF argF at hp; rw [h] at hp; exact absurd hp (by decide)
    refine (w_SnapYes lo A B C ca cb cc ns rs bs x y w hN hA hB hnl hal hbl hS hF hpt).mono ?_
    rintro e w' ⟨rfl, hn⟩
    exact ⟨_, _, by rw [hp], fun _ => ⟨rfl, rfl⟩, fun h => absurd hp h, hn⟩
  · refine (w_SnapNo lo A B C ca cb cc ns rs bs x y (ptF x y) w hN hA hB hnl hal hbl hS (by rw [if_pos hF]) hp).mono ?_
    rintro e w' ⟨rfl, hn⟩
    exact ⟨_, _, rfl, fun h => absurd h hp, fun _ => ⟨rfl, rfl⟩, hn⟩
theorem w_NeedU (f t : ByteArray) : Calls Tryz.prog 11 #[.agg #[.slice A ns.length ca, .slice B rs.length cb, .slice C bs.length cc], .string f, .string t] w fun e w' => ∃ (Z : Option Addr) (c : Nat) (L : List ByteArray) (F : Int), e = .returned (.tuple #[.slice Z L.length c, .int .i64 F]) ∧ Rd w' 0 Z 1 encS L ∧ L.length ≤ rs.length ∧ Nx w w' ∧
    ((¬ (0 ≤ nodeI ns f ∧ 0 ≤ nodeI ns t) ∧ F = 8 ∧ L = []) ∨ ((0 ≤ nodeI ns f ∧ 0 ≤ nodeI ns t) ∧ ((arrG (gphOf ns rs bs) (nodeN ns f) (nodeN ns t) 0 < 345686400000 ∧ F = 0 ∧ L = needR ns rs bs (nodeN ns f) (nodeN ns t) rs) ∨ (345686400000 ≤ arrG (gphOf ns rs bs) (nodeN ns f) (nodeN ns t) 0 ∧ F = 8 ∧ L = [])))) := by
  by_cases hft : 0 ≤ nodeI ns f ∧ 0 ≤ nodeI ns t
  · obtain ⟨i, hi, ei, _⟩ := node_found hft.1
    obtain ⟨j, hj, ej, _⟩ := node_found hft.2
    have hi2 : nodeN ns f = i := by unfold nodeN; rw [ei]; rfl
    have hj2 : nodeN ns t = j := by unfold nodeN; rw [ej]; rfl
    rw [hi2, hj2]
    refine (w_NeededS lo A B C ca cb cc ns rs bs f t i j w hN hA hB hnl hal hbl hS hF ei ej hi).mono ?_
    rintro e w' ⟨Z, c, L, F, rfl, hR, hl, hn, hcase, hs⟩
    have hac := all_conn (bs := bs) (roads_ok hF).2.1 hal hi hj
    unfold endT at hac
    refine ⟨Z, c, L, F, rfl, hR, hl, hn, .inr ⟨hft, ?_⟩⟩
    rcases hcase with ⟨e1, e2, e3⟩ | ⟨e1, e2, e3, e4⟩ | ⟨e1, e2, e3, e4⟩
    · exact .inl ⟨hac.2 (.inl e1), e2, (need_same hF hal hi hj hs (.inl ⟨e1, e3⟩)).symm⟩
    · exact .inr ⟨Int.not_lt.1 (fun h => (hac.1 h).elim e1 e2), e3, e4⟩
    · exact .inl ⟨hac.2 (.inr e2), e3, (need_same hF hal hi hj hs (.inr ⟨e1, e4⟩)).symm⟩
  · have hE : endsF ns rs bs f t 0 = 8 := by
      unfold endsF
      rw [if_pos hF, if_pos (by omega)]
    refine (w_NeededBad lo A B C ca cb cc ns rs bs f t w hN hA hB hnl hal hbl hS (by rw [hE]; decide)).mono ?_
    rintro e w' ⟨rfl, hn⟩
    exact ⟨none, 0, [], 8, by rw [hE]; rfl, Rd.nil, Nat.zero_le _, hn, .inl ⟨hft, rfl, rfl⟩⟩
theorem w_WithU (lo2 : Nat) (D : Option Addr) (cd : Nat) (l : List ByteArray) (hD : Rd w lo2 D 1 encS l) (hl : l.length ≤ 400) : Calls Tryz.prog 12 #[.agg #[.slice A ns.length ca, .slice B rs.length cb, .slice C bs.length cc], .slice D l.length cd] w fun e w' => ∃ (O0 O1 O2 : Option Addr) (c0 c1 c2 : Nat) (ns1 : List Node) (rs1 : List Arc) (bs1 : List Ban), e = .returned (.tuple #[.agg #[.slice O0 ns1.length c0, .slice O1 rs1.length c1, .slice O2 bs1.length c2], .int .i64 (wdsF rs l)]) ∧ (Rd w' 0 O0 3 encNode ns1 ∧ RdArcs w' 0 O1 rs1 ∧ Rd w' 0 O2 2 encBan bs1) ∧ Nx w w' ∧
    ((wdsF rs l = 0 ∧ ns1 = ns ∧ rs1.map coreA = (lessA rs (memS l)).map coreA ∧ bs1 = lessB bs (memS l)) ∨ (wdsF rs l ≠ 0 ∧ O0 = none ∧ O1 = none ∧ O2 = none ∧ c0 = 0 ∧ c1 = 0 ∧ c2 = 0 ∧ ns1 = [] ∧ rs1 = [] ∧ bs1 = [])) := by
  by_cases hW : wdsF rs l = 0
  · have hch : chk (wdtF rs) none l = 0 := by unfold wdsF at hW; rwa [if_neg (by omega)] at hW
    have hls : ∀ s ∈ l, 0 ≤ arcI rs s := chk_all (F := wdtF rs) (Q := fun s => 0 ≤ arcI rs s) (fun p x hx => by
      unfold wdtF at hx
      split at hx
      · exact absurd hx (by decide)
      · omega) l none hch
    have hso : l.Pairwise ltS := wds_sort l none hch
    refine (w_Without lo A B C ca cb cc ns rs bs lo2 D cd l w hN hA hB hnl hal hbl hS hF hD hl hls hso).mono ?_
    rintro e w' ⟨vN, vA, vB, rs', rfl, hown, hcore, hn⟩
    obtain ⟨B0, B1, B2, k0, k1, k2, e1, e2, e3, hRN, hRA, hRB⟩ := hown.rd
    subst e1 e2 e3
    refine ⟨B0, B1, B2, k0, k1, k2, ns, rs', lessB bs (memS l), by rw [hW], ⟨hRN.low (Nat.zero_le _), ⟨hRA.1.low (Nat.zero_le _), fun a ha => ⟨(hRA.2 a ha).1.low (Nat.zero_le _), (hRA.2 a ha).2⟩⟩, hRB.low (Nat.zero_le _)⟩, hn, .inl ⟨hW, rfl, hcore, rfl⟩⟩
  · refine (w_WithoutBad lo A B C ca cb cc ns rs bs lo2 D cd l (wdsF rs l) w hN hA hB hnl hal hbl hS hD hl (by rw [if_pos hF]) hW).mono ?_
    rintro e w' ⟨rfl, hn⟩
    exact ⟨none, none, none, 0, 0, 0, [], [], [], rfl, ⟨Rd.nil, ⟨Rd.nil, fun a ha => absurd ha (by simp)⟩, Rd.nil⟩, hn, .inr ⟨hW, rfl, rfl, rfl, rfl, rfl, rfl, rfl, rfl, rfl⟩⟩
end
end Go.Proofs.YtepbamacebjopaaGreatDoor
/- Which nodes one comes to: the reference's 'comes' (gen_calls.py com.src). -/
namespace Go.Proofs.YtepbamacebjopaaGreatDoor
open Go.RowKit Go.Sort

theorem el_CM : ElemOf Tryz.prog 34 9 1 16 := ElemOf.mk' (z := .string ByteArray.empty) Tryz.underlying34 (by kernel_rfl) rfl
set_option maxRecDepth 100000 in
set_option maxHeartbeats 8000000 in
theorem w_comes (lo : Nat) (A B C : Option Addr) (n1 n2 ca cb cc : Nat) (rs : List Arc) (s0 : ByteArray) (w : World) (hA : Rd w lo B 5 encArc rs) (hal : rs.length ≤ 400) :
    Calls Tryz.prog 64 #[.agg #[.slice A n1 ca, .slice B rs.length cb, .slice C n2 cc], .string s0] w fun e w' => ∃ (v : Value) (L : List ByteArray), e = .returned v ∧ w'.ownsRow w.heap.size 9 1 v L.length (L.flatMap encS) ∧ L.Nodup ∧ (∀ x, x ∈ L ↔ ReachE (edgesB false rs) s0 x) ∧ L.length ≤ rs.length + 1 ∧ Nx w w' := by
  obtain ⟨wb, hwb⟩ : ∃ wb, wb = w.alloc (.cells #[.slice A n1 ca, .slice B rs.length cb, .slice C n2 cc] 30) := ⟨_, rfl⟩
  have hnb : Nx w wb := hwb ▸ (Nx.refl w).alloc _
  have hsz : wb.heap.size = w.heap.size + 1 := by rw [hwb]; simp
  have b1 : wb.cell? ⟨w.heap.size, 1, none⟩ = some (.slice B rs.length cb) := by rw [hwb]; go_simp
  obtain ⟨wa, hwa⟩ : ∃ wa, wa = wb.alloc (.cells #[.string s0] 9) := ⟨_, rfl⟩
  have hlit : wa.ownsRow wb.heap.size 9 1 (.slice (some ⟨w.heap.size + 1, 0, none⟩) 1 1) [s0].length ([s0].flatMap encS) := own_lit (xs := [s0]) (n := 1) (m := 1) encS_len (by rw [hwa]; exact hnew (by omega)) (by omega) rfl rfl (by omega) (by decide)
  obtain ⟨E, hE⟩ : ∃ E, E = edgesB false rs := ⟨_, rfl⟩
  have hEl : E.length = rs.length := by rw [hE]; exact edges_len false rs
  have HEA := hide (fun k (hk : k < rs.length) => (show ∃ h : k < E.length, E[k] = (rs[k].from_, rs[k].to_) by subst hE; exact ⟨by rw [edges_len]; exact hk, edges_at hk⟩))
  have hfirst : Com E s0 [s0] 0 0 := Com.first E s0
  rw [← hE]
  have HRW := hide (fun W (hx : Nx wb W) => (⟨nx_cell hx (by omega) b1, hA.nx (hnb.trans hx)⟩ : W.cell? ⟨w.heap.size, 1, none⟩ = some (.slice B rs.length cb) ∧ Rd W lo B 5 encArc rs))
  have HNB := hide hnb
  have HNA := hide (show Nx wb wa from hwa ▸ (Nx.refl wb).alloc _)
  have HWA := hide (hwb ▸ hwa)
  have HLIT := hide hlit
  have HF := hide hfirst
  have HSZ := hide hsz
  clear hnb hwa hwb hlit hfirst hE hA b1 hsz
  obtain ⟨m, hm⟩ : ∃ m, m = rs.length := ⟨_, rfl⟩
  rw [← hm] at hEl HRW hal HWA ⊢
  have HEL := hide hEl
  have HM := hide hm
  clear hEl hm
  go_enter Tryz.func64, Tryz.ntmps64
  go_upto_region 2 with fail
  rw [← HWA.out]
  go_wp2_with fail
  go_loopw [5, 6] (fun v u wr => ∃ (vs : List ByteArray) (i : Nat), u = .int .i64 i ∧ i ≤ vs.length ∧ wr.ownsRow wb.heap.size 9 1 v vs.length (vs.flatMap encS) ∧ Com E s0 vs i 0 ∧ Nx wb wr) (fun _ u _ => 500 - (intOf u).toNat)
  case atStart => exact ⟨[s0], 0, rfl, Nat.zero_le _, HLIT.out, HF.out, HNA.out⟩
  case round =>
    obtain ⟨vs, i, rfl, hi, hown, hC, hbw⟩ := hrel
    have hle : vs.length ≤ 401 := by have := hC.len; have := HEL.out; omega
    by_cases hlt : i < vs.length
    · obtain ⟨D, cd, rfl, hRd, _⟩ := Rd.of_own encS_len rfl hown
      have HO := hide hown
      have HCM := hide hC
      have HBW := hide hbw
      have c1 := (HRW.out wr hbw).1
      clear hRd hown hC hbw
      go_wp2_with fail
      clear c1
      go_loopw [5, 20] (fun v u wr => ∃ (us : List ByteArray) (k : Nat), u = .int .i64 k ∧ k ≤ m ∧ i < us.length ∧ wr.ownsRow wb.heap.size 9 1 v us.length (us.flatMap encS) ∧ Com E s0 us i k ∧ Nx wb wr) (fun _ u _ => m - (intOf u).toNat)
      case atStart => exact ⟨vs, 0, rfl, Nat.zero_le _, hlt, HO.out, HCM.out, HBW.out⟩
      case round =>
        clear HO HCM HBW hle hlt
        obtain ⟨us, k, rfl, hk, hiu, hown, hC, hbw⟩ := hrel
        have hle : us.length ≤ 401 := by have := hC.len; have := HEL.out; omega
        by_cases hkm : k < m
        · have hk' : k < rs.length := by have := HM.out; omega
          obtain ⟨D2, cd2, rfl, hRd, _⟩ := Rd.of_own encS_len rfl hown
          obtain ⟨db, doff, hD, _, hdb, _, hdc⟩ := hRd.open_ (Nx.refl wr) (by omega)
          have hgd : us.getD i default = us[i] := by rw [List.getD_eq_getElem?_getD, List.getElem?_eq_getElem hiu]; rfl
          have d0 : wr.cell? ⟨db, doff + i, none⟩ = some (.string (us.getD i default)) := by rw [hgd]; simpa using hdc i hiu 0 _ rfl
          have HRD := hide (hRd.low (Nat.zero_le _))
          have HO := hide hown
          have HCM := hide hC
          have HBW := hide hbw
          obtain ⟨rb, ro, hB, _, hrb, _, hc⟩ := (HRW.out wr hbw).2.open_ (Nx.refl wr) (by omega)
          have r0 : wr.cell? ⟨rb, ro + k * 5, none⟩ = some (.string rs[k].key) := hc k hk' 0 _ rfl
          have r1 : wr.cell? ⟨rb, ro + k * 5 + 1, none⟩ = some (.string rs[k].from_) := hc k hk' 1 _ rfl
          have r2 : wr.cell? ⟨rb, ro + k * 5 + 2, none⟩ = some (.string rs[k].to_) := hc k hk' 2 _ rfl
          have r3 : wr.cell? ⟨rb, ro + k * 5 + 3, none⟩ = some (.int .i64 rs[k].long) := hc k hk' 3 _ rfl
          have r4 : wr.cell? ⟨rb, ro + k * 5 + 4, none⟩ = some (.slice rs[k].ka rs[k].knots.length rs[k].kc) := hc k hk' 4 _ rfl
          obtain ⟨hkE, hEk⟩ := HEA.out k hk'
          have HEK := hide hEk
          clear hc hdc hgd hRd hown hC hbw hEk
          generalize rs[k] = a at *
          obtain ⟨y, hy⟩ : ∃ y, y = us.getD i default := ⟨_, rfl⟩
          rw [← hy] at d0
          have HY := hide hy
          subst hD hB
          obtain ⟨ar, har⟩ : ∃ ar, ar = wr.heap.size := ⟨_, rfl⟩
          obtain ⟨wq, hwq⟩ : ∃ wq, wq = wr.alloc (.cells #[.string a.key, .string a.from_, .string a.to_, .int .i64 a.long, .slice a.ka a.knots.length a.kc] 37) := ⟨_, rfl⟩
          have hnq : Nx wr wq := hwq ▸ (Nx.refl wr).alloc _
          have hsq : ar < wq.heap.size := by rw [hwq, har]; simp
          have a1 : wq.cell? ⟨ar, 1, none⟩ = some (.string a.from_) := by rw [hwq, har]; go_simp
          have a2 : wq.cell? ⟨ar, 2, none⟩ = some (.string a.to_) := by rw [hwq, har]; go_simp
          have HS := hide (fun W (hx : Nx wq W) => (⟨nx_cell hx hsq a1, nx_cell hx hsq a2, nx_cell (hnq.trans hx) hdb d0⟩ : W.cell? ⟨ar, 1, none⟩ = some (.string a.from_) ∧ W.cell? ⟨ar, 2, none⟩ = some (.string a.to_) ∧ W.cell? ⟨db, doff + i, none⟩ = some (.string y)))
          have HNQ := hide hnq
          have HWQ := hide hwq
          have HARQ := hide har
          have hkm2 : (k : Int) < (m : Int) := by omega
          have hk0 : (0 : Int) ≤ (k : Int) := by omega
          clear hy hnq hwq har hsq a1 a2 d0 hdb
          go_upto_region 8 with fail
          rw [← HWQ.out, ← HARQ.out]
          clear r0 r1 r2 r3 r4 HWQ HARQ
          obtain ⟨n, hn⟩ : ∃ n, n = us.length := ⟨_, rfl⟩
          rw [← hn] at hiu hle ⊢
          have HN := hide hn
          clear hn
          have i1 : (0 : Int) ≤ (i : Int) := by omega
          have i2 : (i : Int) < (n : Int) := by omega
          have hx : Nx wq wq.drew := (Nx.refl wq).drew
          have HCT := hide (fun W (hx : Nx wq W) => w_ContS2 0 (some ⟨db, doff, none⟩) cd2 us a.to_ W (HRD.out.nx (HNQ.out.trans hx)) (by have := HN.out; omega))
          rw [← HN.out] at HCT
          by_cases hfr : a.from_ = y
          · have tq : (a.from_.toList == y.toList) = true := by rw [eqS_iff]; exact decide_eq_true hfr
            have HFR := hide hfr
            clear hfr
            refine wp_region_held_drew (S := fun W => W.cell? ⟨ar, 1, none⟩ = some (.string a.from_) ∧ W.cell? ⟨ar, 2, none⟩ = some (.string a.to_) ∧ W.cell? ⟨db, doff + i, none⟩ = some (.string y)) (by kernel_rfl) (HS.out _ hx) (fun hHeld => ?_)
            generalize wq.drew = wd at *
            refine wpAnyH_take (i := 0) (oi := ⟨some 24, _, _, _, _, _⟩) (v := ?_) rfl (by kernel_rfl) (by kernel_rfl) (by kernel_rfl) (fun _ _ _ h => h) (Or.inl ⟨by rfl, ?_⟩) (by assumption) ?_
            rotate_left 1
            · intro w hSw
              (try dsimp only at hSw)
              go_simp
              try with_reducible rfl
            try simp only [Act.put, List.setIfInBounds_toArray, List.set_cons_zero, List.set_cons_succ]
            refine wpAnyH_take (i := 1) (oi := ⟨some 25, _, _, _, _, _⟩) (v := ?_) rfl (by kernel_rfl) (by kernel_rfl) (by kernel_rfl) (fun _ _ _ h => h) (Or.inl ⟨by rfl, ?_⟩) (by assumption) ?_
            rotate_left 1
            · intro w hSw
              (try dsimp only at hSw)
              go_simp
              try with_reducible rfl
            try simp only [Act.put, List.setIfInBounds_toArray, List.set_cons_zero, List.set_cons_succ]
            refine wpAnyH_take (i := 2) (oi := ⟨some 26, _, _, _, _, _⟩) (v := ?_) rfl (by kernel_rfl) (by kernel_rfl) (by kernel_rfl) (fun _ _ _ h => h) (Or.inl ⟨by rfl, ?_⟩) (by assumption) ?_
            rotate_left 1
            · intro w hSw
              (try dsimp only at hSw)
              go_simp
              try with_reducible rfl
            try simp only [Act.put, List.setIfInBounds_toArray, List.set_cons_zero, List.set_cons_succ]
            refine wpAnyH_take (i := 3) (oi := ⟨some 27, _, _, _, _, _⟩) (v := ?_) rfl (by kernel_rfl) (by kernel_rfl) (by kernel_rfl) (fun _ _ _ h => h) (Or.inl ⟨by rfl, ?_⟩) (by assumption) ?_
            rotate_left 1
            · intro w hSw
              (try dsimp only at hSw)
              go_simp
              try with_reducible rfl
            try simp only [Act.put, List.setIfInBounds_toArray, List.set_cons_zero, List.set_cons_succ]
            refine wpAnyH_take (i := 4) (oi := ⟨some 28, _, _, _, _, _⟩) (v := ?_) rfl (by kernel_rfl) (by kernel_rfl) (by kernel_rfl) (fun _ _ _ h => h) (Or.inl ⟨by rfl, ?_⟩) (by assumption) ?_
            rotate_left 1
            · intro w hSw
              (try dsimp only at hSw)
              go_simp
              try with_reducible rfl
            try simp only [Act.put, List.setIfInBounds_toArray, List.set_cons_zero, List.set_cons_succ]
            refine wpAnyH_take (i := 5) (oi := ⟨some 29, _, _, _, _, _⟩) (v := ?_) rfl (by kernel_rfl) (by kernel_rfl) (by kernel_rfl) (fun _ _ _ h => h) (Or.inl ⟨by rfl, ?_⟩) (by assumption) ?_
            rotate_left 1
            · intro w hSw
              (try dsimp only at hSw)
              go_simp
              try with_reducible rfl
            try simp only [Act.put, List.setIfInBounds_toArray, List.set_cons_zero, List.set_cons_succ]
            refine wpAnyH_take (i := 6) (oi := ⟨some 30, _, _, _, _, _⟩) (v := ?_) rfl (by kernel_rfl) (by kernel_rfl) (by kernel_rfl) (fun _ _ _ h => h) (Or.inl ⟨by rfl, ?_⟩) (by assumption) ?_
            rotate_left 1
            · intro w hSw
              (try dsimp only at hSw)
              go_simp
              try with_reducible rfl
            try simp only [Act.put, List.setIfInBounds_toArray, List.set_cons_zero, List.set_cons_succ]
            refine wpAnyH_take (i := 7) (oi := ⟨some 31, _, _, _, _, _⟩) (v := ?_) rfl (by kernel_rfl) (by kernel_rfl) (by kernel_rfl) (fun _ _ _ h => h) (Or.inl ⟨by rfl, ?_⟩) (by assumption) ?_
            rotate_left 1
            · intro w hSw
              (try dsimp only at hSw)
              go_simp
              try with_reducible rfl
            try simp only [Act.put, List.setIfInBounds_toArray, List.set_cons_zero, List.set_cons_succ]
            refine wpAnyH_take (i := 8) (oi := ⟨some 32, _, _, _, _, _⟩) (v := ?_) rfl (by kernel_rfl) (by kernel_rfl) (by kernel_rfl) (fun _ _ _ h => h) (Or.inl ⟨by rfl, ?_⟩) (by assumption) ?_
            rotate_left 1
            · intro w hSw
              (try dsimp only at hSw)
              go_simp
              try with_reducible rfl
            try simp only [Act.put, List.setIfInBounds_toArray, List.set_cons_zero, List.set_cons_succ]
            refine wpAnyH_take (i := 9) (oi := ⟨some 33, _, _, _, _, _⟩) (v := ?_) rfl (by kernel_rfl) (by kernel_rfl) (by kernel_rfl) (fun _ _ _ h => h) (Or.inl ⟨by rfl, ?_⟩) (by assumption) ?_
            rotate_left 1
            · intro w hSw
              (try dsimp only at hSw)
              go_simp
              try with_reducible rfl
            try simp only [Act.put, List.setIfInBounds_toArray, List.set_cons_zero, List.set_cons_succ]
            refine wpAnyH_take (i := 10) (oi := ⟨some 34, _, _, _, _, _⟩) (v := ?_) rfl (by kernel_rfl) (by kernel_rfl) (by kernel_rfl) (fun _ _ _ h => h) (Or.inl ⟨by rfl, ?_⟩) (by assumption) ?_
            rotate_left 1
            · intro w hSw
              (try dsimp only at hSw)
              go_simp
              try with_reducible rfl
            try simp only [Act.put, List.setIfInBounds_toArray, List.set_cons_zero, List.set_cons_succ]
            cases hms : memS us a.to_
            · rw [hms] at HCT
              refine wpAnyH_ready (rs := [11]) (by kernel_rfl) (by simp) ?_
              refine AllReadyH.cons rfl (fun K hK => ?_) AllReadyH.nil
              go_simp
              go_at_call 62
              refine (HCT.out _ hx).mono ?_
              rintro e w5 ⟨rfl, hn5⟩
              replace hx := hx.trans hn5
              go_simp
              refine hK.out _ _ (HS.out _ hx) (fun hHeld => ?_)
              clear hK K
              try simp only [Act.put, List.setIfInBounds_toArray, List.set_cons_zero, List.set_cons_succ]
              refine wpAnyH_take (i := 12) (oi := ⟨some 36, _, _, _, _, _⟩) (v := ?_) rfl (by kernel_rfl) (by kernel_rfl) (by kernel_rfl) (fun _ _ _ h => h) (Or.inl ⟨by rfl, ?_⟩) (by assumption) ?_
              rotate_left 1
              · intro w hSw
                (try dsimp only at hSw)
                go_simp
                try with_reducible rfl
              try simp only [Act.put, List.setIfInBounds_toArray, List.set_cons_zero, List.set_cons_succ]
              refine wpAnyH_take (i := 13) (oi := ⟨some 37, _, _, _, _, _⟩) (v := ?_) rfl (by kernel_rfl) (by kernel_rfl) (by kernel_rfl) (fun _ _ _ h => h) (Or.inl ⟨by rfl, ?_⟩) (by assumption) ?_
              rotate_left 1
              · intro w hSw
                (try dsimp only at hSw)
                go_simp
                try with_reducible rfl
              try simp only [Act.put, List.setIfInBounds_toArray, List.set_cons_zero, List.set_cons_succ]
              refine wpAnyH_done (by kernel_rfl) ?_ _
              have hout : a.to_ ∉ us := fun hm => by rw [memS_iff.2 hm] at hms; cases hms
              have HOUT := hide hout
              have HO5 := hide (own_nx HO.out (HNQ.out.trans hx))
              have hbw5 := HBW.out.trans (HNQ.out.trans hx)
              have a2 := (HS.out _ hx).2.1
              have hbs5 : wb.heap.size ≤ w5.heap.size := hbw5.sz
              rw [← HN.out] at HO5
              clear hHeld tq hms hout hx
              go_wp2_with (at_builtin; go_must (refine wpApp2 rfl _ _ _ rfl el_CM encS encS_len encS_one (by omega) (by omega) wb.heap.size _ us rfl (HN.out ▸ HO5.out.alloc _) _ a.to_ _ rfl (hnew rfl) rfl (by have := HN.out; omega) (by simp; omega) ?_); intro v9 w9 hown9 hg9 _; (have HO9 := hide hown9); (have HG9 := hide hg9); clear hown9 hg9)
              go_roundw
              case rel =>
                refine ⟨us ++ [a.to_], k + 1, by go_num, by omega, by rw [List.length_append]; have := HN.out; omega, HO9.out, ?_, (hbw5.alloc _).grown HG9.out (fun x hx => own_blk_lt HO5.out x hx)⟩
                have h1 := HCM.out.add hkE (by have := HN.out; omega) (by rw [HEK.out, ← HY.out]; exact HFR.out) (by rw [HEK.out]; exact HOUT.out)
                rw [HEK.out] at h1
                exact h1
              case measure => simp [intOf]; omega
            · rw [hms] at HCT
              refine wpAnyH_ready (rs := [11]) (by kernel_rfl) (by simp) ?_
              refine AllReadyH.cons rfl (fun K hK => ?_) AllReadyH.nil
              go_simp
              go_at_call 62
              refine (HCT.out _ hx).mono ?_
              rintro e w5 ⟨rfl, hn5⟩
              replace hx := hx.trans hn5
              go_simp
              refine hK.out _ _ (HS.out _ hx) (fun hHeld => ?_)
              clear hK K
              try simp only [Act.put, List.setIfInBounds_toArray, List.set_cons_zero, List.set_cons_succ]
              refine wpAnyH_take (i := 12) (oi := ⟨some 36, _, _, _, _, _⟩) (v := ?_) rfl (by kernel_rfl) (by kernel_rfl) (by kernel_rfl) (fun _ _ _ h => h) (Or.inl ⟨by rfl, ?_⟩) (by assumption) ?_
              rotate_left 1
              · intro w hSw
                (try dsimp only at hSw)
                go_simp
                try with_reducible rfl
              try simp only [Act.put, List.setIfInBounds_toArray, List.set_cons_zero, List.set_cons_succ]
              refine wpAnyH_take (i := 13) (oi := ⟨some 37, _, _, _, _, _⟩) (v := ?_) rfl (by kernel_rfl) (by kernel_rfl) (by kernel_rfl) (fun _ _ _ h => h) (Or.inl ⟨by rfl, ?_⟩) (by assumption) ?_
              rotate_left 1
              · intro w hSw
                (try dsimp only at hSw)
                go_simp
                try with_reducible rfl
              try simp only [Act.put, List.setIfInBounds_toArray, List.set_cons_zero, List.set_cons_succ]
              refine wpAnyH_done (by kernel_rfl) ?_ _
              have HIN := hide (memS_iff.1 hms)
              have HO5 := hide (own_nx HO.out (HNQ.out.trans hx))
              have hbw5 := HBW.out.trans (HNQ.out.trans hx)
              clear hHeld tq hms hx
              go_wp2_with fail
              go_roundw
              case rel => exact ⟨us, k + 1, by go_num, by omega, by have := HN.out; omega, HN.out ▸ HO5.out, HCM.out.skip hkE (.inr (by rw [HEK.out]; exact HIN.out)), hbw5⟩
              case measure => simp [intOf]; omega
          · have tq : (a.from_.toList == y.toList) = false := by rw [eqS_iff]; exact decide_eq_false hfr
            have HFR := hide hfr
            clear hfr
            refine wp_region_held_drew (S := fun W => W.cell? ⟨ar, 1, none⟩ = some (.string a.from_) ∧ W.cell? ⟨ar, 2, none⟩ = some (.string a.to_) ∧ W.cell? ⟨db, doff + i, none⟩ = some (.string y)) (by kernel_rfl) (HS.out _ hx) (fun hHeld => ?_)
            generalize wq.drew = wd at *
            refine wpAnyH_take (i := 0) (oi := ⟨some 24, _, _, _, _, _⟩) (v := ?_) rfl (by kernel_rfl) (by kernel_rfl) (by kernel_rfl) (fun _ _ _ h => h) (Or.inl ⟨by rfl, ?_⟩) (by assumption) ?_
            rotate_left 1
            · intro w hSw
              (try dsimp only at hSw)
              go_simp
              try with_reducible rfl
            try simp only [Act.put, List.setIfInBounds_toArray, List.set_cons_zero, List.set_cons_succ]
            refine wpAnyH_take (i := 1) (oi := ⟨some 25, _, _, _, _, _⟩) (v := ?_) rfl (by kernel_rfl) (by kernel_rfl) (by kernel_rfl) (fun _ _ _ h => h) (Or.inl ⟨by rfl, ?_⟩) (by assumption) ?_
            rotate_left 1
            · intro w hSw
              (try dsimp only at hSw)
              go_simp
              try with_reducible rfl
            try simp only [Act.put, List.setIfInBounds_toArray, List.set_cons_zero, List.set_cons_succ]
            refine wpAnyH_take (i := 2) (oi := ⟨some 26, _, _, _, _, _⟩) (v := ?_) rfl (by kernel_rfl) (by kernel_rfl) (by kernel_rfl) (fun _ _ _ h => h) (Or.inl ⟨by rfl, ?_⟩) (by assumption) ?_
            rotate_left 1
            · intro w hSw
              (try dsimp only at hSw)
              go_simp
              try with_reducible rfl
            try simp only [Act.put, List.setIfInBounds_toArray, List.set_cons_zero, List.set_cons_succ]
            refine wpAnyH_take (i := 3) (oi := ⟨some 27, _, _, _, _, _⟩) (v := ?_) rfl (by kernel_rfl) (by kernel_rfl) (by kernel_rfl) (fun _ _ _ h => h) (Or.inl ⟨by rfl, ?_⟩) (by assumption) ?_
            rotate_left 1
            · intro w hSw
              (try dsimp only at hSw)
              go_simp
              try with_reducible rfl
            try simp only [Act.put, List.setIfInBounds_toArray, List.set_cons_zero, List.set_cons_succ]
            refine wpAnyH_take (i := 4) (oi := ⟨some 28, _, _, _, _, _⟩) (v := ?_) rfl (by kernel_rfl) (by kernel_rfl) (by kernel_rfl) (fun _ _ _ h => h) (Or.inl ⟨by rfl, ?_⟩) (by assumption) ?_
            rotate_left 1
            · intro w hSw
              (try dsimp only at hSw)
              go_simp
              try with_reducible rfl
            try simp only [Act.put, List.setIfInBounds_toArray, List.set_cons_zero, List.set_cons_succ]
            refine wpAnyH_take (i := 5) (oi := ⟨some 29, _, _, _, _, _⟩) (v := ?_) rfl (by kernel_rfl) (by kernel_rfl) (by kernel_rfl) (fun _ _ _ h => h) (Or.inl ⟨by rfl, ?_⟩) (by assumption) ?_
            rotate_left 1
            · intro w hSw
              (try dsimp only at hSw)
              go_simp
              try with_reducible rfl
            try simp only [Act.put, List.setIfInBounds_toArray, List.set_cons_zero, List.set_cons_succ]
            refine wpAnyH_take (i := 6) (oi := ⟨some 30, _, _, _, _, _⟩) (v := ?_) rfl (by kernel_rfl) (by kernel_rfl) (by kernel_rfl) (fun _ _ _ h => h) (Or.inl ⟨by rfl, ?_⟩) (by assumption) ?_
            rotate_left 1
            · intro w hSw
              (try dsimp only at hSw)
              go_simp
              try with_reducible rfl
            try simp only [Act.put, List.setIfInBounds_toArray, List.set_cons_zero, List.set_cons_succ]
            refine wpAnyH_take (i := 7) (oi := ⟨some 31, _, _, _, _, _⟩) (v := ?_) rfl (by kernel_rfl) (by kernel_rfl) (by kernel_rfl) (fun _ _ _ h => h) (Or.inl ⟨by rfl, ?_⟩) (by assumption) ?_
            rotate_left 1
            · intro w hSw
              (try dsimp only at hSw)
              go_simp
              try with_reducible rfl
            try simp only [Act.put, List.setIfInBounds_toArray, List.set_cons_zero, List.set_cons_succ]
            refine wpAnyH_take (i := 8) (oi := ⟨some 32, _, _, _, _, _⟩) (v := undef) rfl (by kernel_rfl) (by kernel_rfl) (by kernel_rfl) (fun _ _ _ h => h) (Or.inr ⟨by rfl, rfl⟩) (by assumption) ?_
            try simp only [Act.put, List.setIfInBounds_toArray, List.set_cons_zero, List.set_cons_succ]
            refine wpAnyH_take (i := 9) (oi := ⟨some 33, _, _, _, _, _⟩) (v := undef) rfl (by kernel_rfl) (by kernel_rfl) (by kernel_rfl) (fun _ _ _ h => h) (Or.inr ⟨by rfl, rfl⟩) (by assumption) ?_
            try simp only [Act.put, List.setIfInBounds_toArray, List.set_cons_zero, List.set_cons_succ]
            refine wpAnyH_take (i := 10) (oi := ⟨some 34, _, _, _, _, _⟩) (v := undef) rfl (by kernel_rfl) (by kernel_rfl) (by kernel_rfl) (fun _ _ _ h => h) (Or.inr ⟨by rfl, rfl⟩) (by assumption) ?_
            try simp only [Act.put, List.setIfInBounds_toArray, List.set_cons_zero, List.set_cons_succ]
            refine wpAnyH_take (i := 11) (oi := ⟨some 35, _, _, _, _, _⟩) (v := undef) rfl (by kernel_rfl) (by kernel_rfl) (by kernel_rfl) (fun _ _ _ h => h) (Or.inr ⟨by rfl, rfl⟩) (by assumption) ?_
            try simp only [Act.put, List.setIfInBounds_toArray, List.set_cons_zero, List.set_cons_succ]
            refine wpAnyH_take (i := 12) (oi := ⟨some 36, _, _, _, _, _⟩) (v := undef) rfl (by kernel_rfl) (by kernel_rfl) (by kernel_rfl) (fun _ _ _ h => h) (Or.inr ⟨by rfl, rfl⟩) (by assumption) ?_
            try simp only [Act.put, List.setIfInBounds_toArray, List.set_cons_zero, List.set_cons_succ]
            refine wpAnyH_take (i := 13) (oi := ⟨some 37, _, _, _, _, _⟩) (v := ?_) rfl (by kernel_rfl) (by kernel_rfl) (by kernel_rfl) (fun _ _ _ h => h) (Or.inl ⟨by rfl, ?_⟩) (by assumption) ?_
            rotate_left 1
            · intro w hSw
              (try dsimp only at hSw)
              go_simp
              try with_reducible rfl
            try simp only [Act.put, List.setIfInBounds_toArray, List.set_cons_zero, List.set_cons_succ]
            refine wpAnyH_done (by kernel_rfl) ?_ _
            have HO5 := hide (own_nx HO.out (HNQ.out.trans hx))
            have hbw5 := HBW.out.trans (HNQ.out.trans hx)
            clear hHeld tq hx
            go_wp2_with fail
            go_roundw
            case rel => exact ⟨us, k + 1, by go_num, by omega, by have := HN.out; omega, HN.out ▸ HO5.out, HCM.out.skip hkE (.inl (by rw [HEK.out, ← HY.out]; exact HFR.out)), hbw5⟩
            case measure => simp [intOf]; omega
        · obtain rfl : m = k := by omega
          have HO := hide hown
          have HCM := hide hC
          have HBW := hide hbw
          have hiu2 : i ≤ 400 := by omega
          clear hown hC hbw
          go_wp2_with fail
          go_roundw
          case rel => exact ⟨us, i + 1, by go_num, hiu, HO.out, Com.next (HEL.out ▸ HCM.out) hiu, HBW.out⟩
          case measure => simp [intOf]; omega
    · obtain rfl : i = vs.length := by omega
      obtain ⟨D, cd, rfl, hRd, _⟩ := Rd.of_own encS_len rfl hown
      have HO := hide hown
      have HCM := hide hC
      have HBW := hide hbw
      clear hRd hown hC hbw
      go_wp2_with fail
      go_ret
      exact ⟨_, vs, rfl, HO.out.mono (by have := HSZ.out; omega), HCM.out.nodup, HCM.out.done, by have := HCM.out.len; have := HEL.out; omega, HNB.out.trans HBW.out⟩
end Go.Proofs.YtepbamacebjopaaGreatDoor
/- slices.Compact of strings on a row of one's own (cut out of XCross). -/
namespace Go.Proofs.YtepbamacebjopaaGreatDoor
open Go.RowKit Go.Proofs Go.Shelf

theorem strs_map (L : List ByteArray) : Lib.strsOf (fun i => L.getD i ByteArray.empty) L.length = L.map (fun s => s.data.toList) := by
  unfold Lib.strsOf
  apply List.ext_getElem?
  intro i
  rw [List.getElem?_map, List.getElem?_map]
  by_cases hi : i < L.length
  · rw [List.getElem?_range hi, List.getElem?_eq_getElem hi]
    simp [List.getD_eq_getElem?_getD, List.getElem?_eq_getElem hi]
  · rw [List.getElem?_eq_none (by simp; omega), List.getElem?_eq_none (by omega)]
    rfl
theorem encStr_back (s : ByteArray) : Go.Proofs.encStr s.data.toList = .string s := by
  obtain ⟨⟨l⟩⟩ := s
  rfl
theorem w_CompactS {base g cap : Nat} (L : List ByteArray) (w : World) (h : w.ownsRow base 9 1 (.slice (some ⟨g, 0, none⟩) L.length cap) L.length (L.flatMap encS)) (hl : L.length ≤ 65536) :
    Calls Tryz.prog 98 #[.slice (some ⟨g, 0, none⟩) L.length cap] w fun e w' => e = .returned (.slice (some ⟨g, 0, none⟩) (Lib.compact L).length cap) ∧ Rd w' base (some ⟨g, 0, none⟩) 1 encS (Lib.compact L) ∧ ∀ w0, Nx w0 w → w0.heap.size ≤ base → Nx w0 w' := by
  have hcap : L.length ≤ cap := by
    rcases h.2 with ⟨h0, _⟩ | ⟨g', cap', cur, hv, _, _, hnc, _⟩
    · cases h0
    · cases hv; exact hnc
  have hlt := h.lt g rfl
  have hcell : ∀ i, i < L.length → w.cell? ⟨g, 0 + i, none⟩ = some (.string (L.getD i ByteArray.empty)) := fun i hi => by
    have := own_cell encS_len rfl h i hi 0 _ rfl
    rw [List.getD_eq_getElem?_getD, List.getElem?_eq_getElem hi, Nat.zero_add]
    simpa using this
  have hcon := Any.slices_Compact_string_cells Tryz.compactStr g 0 L.length cap (fun i => L.getD i ByteArray.empty) w (by omega) hcap hcell (fun j _ => by rw [Nat.zero_add]; exact h.frozenAt j)
  rw [strs_map, compact_map (fun s : ByteArray => s.data.toList) (fun a b e => data_inj e), List.length_map] at hcon
  change Calls Tryz.prog 98 _ _ _ at hcon
  have hle := Lib.compact_length_le L
  refine hcon.mono ?_
  rintro e w' ⟨rfl, q, rfl⟩
  refine ⟨rfl, fun hp => ⟨g, 0, rfl, hlt.1, by simpa using hlt.2, fun i x hx j u hu => ?_⟩, fun w0 hn0 hb0 => ?_⟩
  · have hi : i < (Lib.compact L).length := (List.getElem?_eq_some_iff.1 hx).1
    have hj : j = 0 := by have := (List.getElem?_eq_some_iff.1 hu).1; simp [encS] at this; omega
    subst hj
    have hu2 : u = .string x := by simp [encS] at hu; exact hu.symm
    subst hu2
    have e0 := World.cell?_setCells_in g (((Lib.compact L).map (fun s : ByteArray => s.data.toList) ++ List.replicate (L.length - (Lib.compact L).length) []).map Go.Proofs.encStr) 0 (w.drewN q) (fun t ht => by
      have := hcell t (by simp at ht; omega)
      show (w.cell? ⟨g, 0 + t, none⟩).isSome = true
      rw [this]; rfl) i (by simp; omega)
    rw [Nat.zero_add] at e0 ⊢
    simp only [Nat.mul_one, Nat.add_zero]
    rw [e0, List.getElem_map, List.getElem_append_left (by simpa using hi), List.getElem_map, encStr_back]
    have := (List.getElem?_eq_some_iff.1 hx).2
    rw [this]
  · exact below_setCells (by omega) _ _ _ (hn0.drewN q)

end Go.Proofs.YtepbamacebjopaaGreatDoor
/- slices.Sort of strings on a row of one's own; strings in order, each once. -/
namespace Go.Proofs.YtepbamacebjopaaGreatDoor
open Go.RowKit Go.Proofs Go.Shelf Go.Sort

def leS (x y : ByteArray) : Prop := x.data.toList ≤ y.data.toList
def bsOf (l : List UInt8) : ByteArray := ⟨⟨l⟩⟩
theorem bsOf_data (x : ByteArray) : bsOf x.data.toList = x := by obtain ⟨⟨l⟩⟩ := x; rfl
theorem enc_bs (ts : List (List UInt8)) : ts.map encStr = (ts.map bsOf).flatMap encS := by
  induction ts with
  | nil => rfl
  | cons x l ih => rw [List.map_cons, ih]; rfl
theorem flat_strs (L : List ByteArray) : L.flatMap encS = (L.map (fun s : ByteArray => s.data.toList)).map encStr := by
  induction L with
  | nil => rfl
  | cons x l ih => rw [List.flatMap_cons, ih, List.map_cons, List.map_cons, encStr_back]; rfl
theorem mem_compactG {α : Type} [Inhabited α] [DecidableEq α] (zs : List α) (x : α) : x ∈ Lib.compact zs ↔ x ∈ zs := by
  have hx : ∀ j (h : j < zs.length), zs.toArray[j]! = zs[j] := fun j hj => by simp [hj]
  unfold Lib.compact Lib.compactUpTo
  constructor
  · intro h
    obtain ⟨j, hj, e⟩ := List.mem_map.1 h
    have hl := List.mem_range.1 (List.mem_filter.1 hj).1
    rw [← e, hx j hl]
    exact List.getElem_mem hl
  · intro h
    obtain ⟨j, hj, e⟩ := List.mem_iff_getElem.1 h
    suffices hh : ∀ j, j < zs.length → zs.toArray[j]! ∈ List.map (fun k => zs.toArray[k]!) (List.filter (Lib.keeps zs.toArray) (List.range zs.length)) by
      have := hh j hj
      rw [hx j hj, e] at this
      exact this
    intro j
    induction j with
    | zero =>
      intro hj
      exact List.mem_map.2 ⟨0, List.mem_filter.2 ⟨List.mem_range.2 hj, by simp [Lib.keeps]⟩, rfl⟩
    | succ j ih =>
      intro hj
      by_cases hk : zs.toArray[j + 1]! ≠ zs.toArray[j]!
      · exact List.mem_map.2 ⟨j + 1, List.mem_filter.2 ⟨List.mem_range.2 hj, Lib.keeps_pos (by simpa using hk)⟩, rfl⟩
      · have e : zs.toArray[j + 1]! = zs.toArray[j]! := Classical.not_not.1 hk
        rw [e]
        exact ih (by omega)
theorem le_lt {x y z : ByteArray} (h : leS x y) (k : ltS y z) : ltS x z := by
  unfold leS at h
  unfold ltS at *
  exact List.lt_of_le_of_lt h k
/-- Of a sorted list each once: strictly sorted. -/
theorem compact_strict {M : List ByteArray} (h : M.Pairwise leS) : (Lib.compact M).Pairwise ltS := by
  have hx : ∀ j (hj : j < M.length), M.toArray[j]! = M[j] := fun j hj => by simp [hj]
  unfold Lib.compact Lib.compactUpTo
  rw [List.pairwise_map]
  refine List.Pairwise.imp_of_mem ?_ (List.Pairwise.filter _ (List.pairwise_lt_range (n := M.length)))
  intro i j hi hj hij
  obtain ⟨hj1, hj2⟩ := List.mem_filter.1 hj
  have hjl := List.mem_range.1 hj1
  have hil : i < M.length := by omega
  have hne : M.toArray[j]! ≠ M.toArray[j - 1]! := by
    unfold Lib.keeps at hj2
    have := of_decide_eq_true hj2
    rcases this with e | e
    · omega
    · exact e
  rw [hx j hjl, hx (j - 1) (by omega)] at hne
  rw [hx i hil, hx j hjl]
  have hp := List.pairwise_iff_getElem.1 h
  have h1 : leS M[i] M[j - 1] := by
    by_cases e : i = j - 1
    · subst e; exact List.le_refl _
    · exact hp i (j - 1) hil (by omega) (by omega)
  have h2 : leS M[j - 1] M[j] := hp (j - 1) j (by omega) hjl (by omega)
  refine le_lt h1 ?_
  unfold ltS
  unfold leS at h2
  exact Std.lt_of_le_of_ne h2 (fun e => hne (data_inj e).symm)
theorem w_SortS {base g cap : Nat} (L : List ByteArray) (w : World) (h : w.ownsRow base 9 1 (.slice (some ⟨g, 0, none⟩) L.length cap) L.length (L.flatMap encS)) (hl : L.length ≤ 65536) :
    Calls Tryz.prog 97 #[.slice (some ⟨g, 0, none⟩) L.length cap] w fun e w' => e = .returned (.tuple #[]) ∧ ∃ M : List ByteArray, M.length = L.length ∧ (∀ x, x ∈ M ↔ x ∈ L) ∧ M.Pairwise leS ∧ w'.ownsRow base 9 1 (.slice (some ⟨g, 0, none⟩) M.length cap) M.length (M.flatMap encS) ∧ Gr g w w' := by
  obtain ⟨zs, hzs⟩ : ∃ zs, zs = L.map (fun s : ByteArray => s.data.toList) := ⟨_, rfl⟩
  have hzl : zs.length = L.length := by rw [hzs, List.length_map]
  rw [flat_strs, ← hzs] at h
  rcases h.2 with ⟨h0, _⟩ | ⟨g', cap', cur, hv, hg, hb, h1, h2, h3, h4⟩
  · cases h0
  · cases hv
    rw [Nat.mul_one, ← hzl] at h4
    have hcon := calls_of_every_depth fun D => AnyS.slices_Sort_string_alone Tryz.sortStr D g 0 cap zs w (holds_of_block hb h4) (Array.getElem?_eq_some_iff.1 hb).1 (by omega)
    rw [hzl] at hcon
    change Calls Tryz.prog 97 _ _ _ at hcon
    refine hcon.mono ?_
    rintro e w' ⟨rfl, n, os, rfl⟩
    have hml : (zs.mergeSort fun x y => decide (x ≤ y)).length = zs.length := List.length_mergeSort zs
    have hsort : (zs.mergeSort fun x y => decide (x ≤ y)).Pairwise (fun x y => decide (x ≤ y) = true) := List.pairwise_mergeSort (le := fun x y : List UInt8 => decide (x ≤ y)) (fun a b c h1 h2 => decide_eq_true (List.le_trans (of_decide_eq_true h1) (of_decide_eq_true h2))) (fun a b => by
      rcases List.le_total a b with h | h
      · simp [h]
      · simp [h]) zs
    have hmem : ∀ x, x ∈ (zs.mergeSort fun x y => decide (x ≤ y)) ↔ x ∈ zs := fun x => List.mem_mergeSort
    generalize (zs.mergeSort fun x y => decide (x ≤ y)) = ts at *
    refine ⟨rfl, ts.map bsOf, by rw [List.length_map]; omega, fun x => ?_, ?_, ?_, grownBy_sorted _⟩
    · rw [List.mem_map]
      constructor
      · rintro ⟨t, ht, rfl⟩
        have := (hmem t).1 ht
        rw [hzs] at this
        obtain ⟨y, hy, e⟩ := List.mem_map.1 this
        rw [← e, bsOf_data]
        exact hy
      · intro hx
        exact ⟨x.data.toList, (hmem _).2 (by rw [hzs]; exact List.mem_map.2 ⟨x, hx, rfl⟩), bsOf_data x⟩
    · rw [List.pairwise_map]
      exact hsort.imp (fun h => of_decide_eq_true h)
    · have := ownsRow_sorted (n := n) (os := os) (cap := cap) hml hg hb (by omega) h2 h3
      rw [enc_bs, ← hml] at this
      rw [List.length_map]
      exact this
set_option maxRecDepth 100000 in
set_option maxHeartbeats 2000000 in
theorem w_once (lo : Nat) (A : Option Addr) (c : Nat) (L : List ByteArray) (w : World) (hR : Rd w lo A 1 encS L) (hl : L.length ≤ 65536) (hne : 0 < L.length) :
    Calls Tryz.prog 63 #[.slice A L.length c] w fun e w' => ∃ (D : Option Addr) (d : Nat) (M : List ByteArray), e = .returned (.slice D M.length d) ∧ Rd w' w.heap.size D 1 encS M ∧ M.Pairwise ltS ∧ (∀ x, x ∈ M ↔ x ∈ L) ∧ M.length ≤ L.length ∧ Nx w w' := by
  have HC := hide (w_CloneS lo A c L w hR (by omega))
  clear hR
  go_enter Tryz.func63, Tryz.ntmps63
  go_wp2_with fail
  refine HC.out.mono ?_
  rintro e w1 ⟨v, rfl, hown, hn1⟩
  obtain ⟨g, cap, rfl⟩ : ∃ g cap, v = .slice (some ⟨g, 0, none⟩) L.length cap := by
    rcases hown.2 with ⟨_, h0⟩ | ⟨g, cap, cur, hv, _⟩
    · omega
    · exact ⟨g, cap, hv⟩
  have HS := hide (w_SortS L w1 hown hl)
  have hgb : w.heap.size ≤ g := own_blk_lt hown g rfl
  have HN1 := hide hn1
  clear hown hn1 HC
  obtain ⟨n, hn⟩ : ∃ n, n = L.length := ⟨_, rfl⟩
  rw [← hn] at HS ⊢
  have HNN := hide hn
  clear hn
  go_wp2_with fail
  refine HS.out.mono ?_
  rintro e w2 ⟨rfl, M, hM1, hM2, hM3, hown2, hg2⟩
  have HCC := hide (w_CompactS M w2 hown2 (by have := HNN.out; omega))
  rw [hM1] at HCC
  have HM2 := hide hM2
  have HM3 := hide hM3
  have HM1 := hide hM1
  have HN2 := hide (HN1.out.grown (row := some g) hg2 (fun k e => by injection e with e; omega))
  clear hM1 hM2 hM3 hown2 hg2 HS
  go_wp2_with fail
  refine HCC.out.mono ?_
  rintro e w3 ⟨rfl, hR3, hx3⟩
  have HR3 := hide hR3
  have HX3 := hide hx3
  have hle := Lib.compact_length_le M
  have HLE := hide hle
  clear hR3 hx3 hle
  go_wp2_with fail
  go_ret
  exact ⟨_, _, Lib.compact M, rfl, HR3.out, compact_strict HM3.out, fun x => by rw [mem_compactG]; exact HM2.out x, by have := HLE.out; have := HM1.out; have := HNN.out; omega, HX3.out w HN2.out (Nat.le_refl _)⟩
end Go.Proofs.YtepbamacebjopaaGreatDoor
