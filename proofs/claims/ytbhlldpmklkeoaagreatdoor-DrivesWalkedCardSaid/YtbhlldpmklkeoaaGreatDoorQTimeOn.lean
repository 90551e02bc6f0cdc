/- How long an arc takes at a moment: road.TimeOn, in general. -/
import Derived.Test.YtbhlldpmklkeoaaGreatDoorQCheckR
import Derived.Test.YtbhlldpmklkeoaaGreatDoorQRoadT
import Derived.Test.YtbhlldpmklkeoaaGreatDoorQSort2
import Derived.Test.YtbhlldpmklkeoaaGreatDoorQG37
namespace Go.Proofs.YtbhlldpmklkeoaaGreatDoor
open Go.RowKit

/-- The nodes at an arc's ends. -/
def pairN (a b : ByteArray) : List Node := if a = b then [⟨a, 0, 0⟩] else [⟨lo2 a b, 0, 0⟩, ⟨hi2 a b, 0, 0⟩]
def timeOnF (a : Arc) (at_ : Int) : Int := if roadsF (pairN a.from_ a.to_) [a] [] = 0 then momF at_ else roadsF (pairN a.from_ a.to_) [a] []
def timeOnI (a : Arc) (at_ : Int) : Int := if timeOnF a at_ = 0 then timeI a.knots at_ else 0
theorem timeOn_ok {a : Arc} {ns : List Node} (h : roadsF ns [a] [] = 0) : KOk a.knots := by
  unfold roadsF at h
  by_cases h0 : nodesF ns = 0
  · rw [if_pos h0] at h
    by_cases h1 : chk (arcF ns) none [a] = 0
    · have h2 := chk_all (F := arcF ns) (Q := fun x => arcG ns x = 0) (fun p x hx => (arcF_ok hx).2) _ _ h1 a (by simp)
      exact knotsF_chk (arcG_ok h2).2.2.2.2
    · rw [if_neg h1] at h; exact absurd h h1
  · rw [if_neg h0] at h; exact absurd h h0
theorem el_Node : ElemOf Tryz.prog 26 43 3 32 := ElemOf.mk' (z := .agg #[.string ByteArray.empty, .int .i64 0, .int .i64 0]) Tryz.underlying26 (by kernel_rfl) rfl
theorem lo_hi_ne {a b : ByteArray} (h : a ≠ b) : lo2 a b ≠ hi2 a b := by
  unfold lo2 hi2
  cases Op.bytesLess b.toList a.toList with
  | true => exact fun e => h e.symm
  | false => exact h
theorem lo_hi_eq (a : ByteArray) : lo2 a a = a ∧ hi2 a a = a := by
  unfold lo2 hi2
  cases Op.bytesLess a.toList a.toList <;> exact ⟨rfl, rfl⟩
theorem lo_small {a b : ByteArray} (ha : a.size ≤ 1000000) (hb : b.size ≤ 1000000) : (lo2 a b).size ≤ 1000000 ∧ (hi2 a b).size ≤ 1000000 := by
  unfold lo2 hi2
  cases Op.bytesLess b.toList a.toList <;> exact ⟨by assumption, by assumption⟩
/-- The strings thrown together: one where they are equal. -/
theorem w_CompG (g c : Nat) (a b : ByteArray) (w : World) (hg : w.heap[g]? = some (.cells #[.string (lo2 a b), .string (hi2 a b)] 9 (0, 0))) (hc : 2 ≤ c) :
    Calls Tryz.prog 46 #[.slice (some ⟨g, 0, none⟩) 2 c] w fun e w' => e = .returned (.slice (some ⟨g, 0, none⟩) (pairN a b).length c) ∧ Gr g w w' ∧ (∀ i, i < (pairN a b).length → w'.cell? ⟨g, i, none⟩ = some (.string ((pairN a b).getD i default).key)) := by
  by_cases h : a = b
  · subst h
    rw [(lo_hi_eq a).1, (lo_hi_eq a).2] at hg
    refine (w_Comp1 g c a w hg hc).mono ?_
    rintro e w' ⟨rfl, h1, h2⟩
    have e : pairN a a = [⟨a, 0, 0⟩] := by unfold pairN; rw [if_pos rfl]
    rw [e]
    refine ⟨rfl, h1, fun i hi => ?_⟩
    obtain rfl : i = 0 := by simp at hi; exact hi
    exact h2
  · refine (w_Comp2 g c _ _ w hg (lo_hi_ne h)).mono ?_
    rintro e w' ⟨rfl, h1⟩
    have e : pairN a b = [⟨lo2 a b, 0, 0⟩, ⟨hi2 a b, 0, 0⟩] := by unfold pairN; rw [if_neg h]
    rw [e]
    have hl : g < w.heap.size := (Array.getElem?_eq_some_iff.1 hg).1
    refine ⟨rfl, Gr.of_nx h1, fun i hi => ?_⟩
    have hi' : i < 2 := hi
    rcases (by omega : i = 0 ∨ i = 1) with rfl | rfl
    · exact nx_cell h1 hl (cell_of_row w g 0 _ _ _ hg)
    · exact nx_cell h1 hl (cell_of_row w g 1 _ _ _ hg)
theorem pair_zero {a b : ByteArray} : ∀ x ∈ pairN a b, x = ⟨x.key, 0, 0⟩ := by
  unfold pairN
  intro x hx
  split at hx
  · simp at hx; subst hx; rfl
  · simp at hx; rcases hx with rfl | rfl <;> rfl
theorem pair_len (a b : ByteArray) : (pairN a b).length ≤ 2 := by unfold pairN; split <;> simp
theorem pair_small {a b : ByteArray} (ha : a.size ≤ 1000000) (hb : b.size ≤ 1000000) : SmallN (pairN a b) := by
  unfold pairN
  intro x hx
  split at hx
  · simp at hx; subst hx; exact ha
  · simp at hx
    rcases hx with rfl | rfl
    · exact (lo_small ha hb).1
    · exact (lo_small ha hb).2

set_option maxRecDepth 100000 in
set_option maxHeartbeats 4000000 in
theorem w_TimeOn (lo : Nat) (a : Arc) (at_ : Int) (w : World) (hK : Rd w lo a.ka 2 encKnot a.knots) (hkl : a.knots.length ≤ 400) (h1 : a.key.size ≤ 1000000) (h2 : a.from_.size ≤ 1000000) (h3 : a.to_.size ≤ 1000000) :
    Calls Tryz.prog 11 #[.agg #[.string a.key, .string a.from_, .string a.to_, .int .i64 a.long, .slice a.ka a.knots.length a.kc], .int .i64 at_] w fun e w' => e = .returned (.tuple #[.int .i64 (timeOnI a at_), .int .i64 (timeOnF a at_)]) ∧ Nx w w' := by
  have HPS := hide (pair_small h2 h3)
  have HPZ := hide (@pair_zero a.from_ a.to_)
  have HPL := hide (pair_len a.from_ a.to_)
  have HTI := hide (show timeOnI a at_ = if timeOnF a at_ = 0 then timeI a.knots at_ else 0 from rfl)
  have HTF := hide (show timeOnF a at_ = if roadsF (pairN a.from_ a.to_) [a] [] = 0 then momF at_ else roadsF (pairN a.from_ a.to_) [a] [] from rfl)
  have HCG := hide (fun g c W hg hc => w_CompG g c a.from_ a.to_ W hg hc)
  obtain ⟨wa, hwa⟩ : ∃ wa, wa = w.alloc (.cells #[.string a.key, .string a.from_, .string a.to_, .int .i64 a.long, .slice a.ka a.knots.length a.kc] 38) := ⟨_, rfl⟩
  have hna : Nx w wa := hwa ▸ (Nx.refl w).alloc _
  have hgw : w.heap.size < wa.heap.size := by rw [hwa]; simp
  have b0 : wa.cell? ⟨w.heap.size, 0, none⟩ = some (.string a.key) := by rw [hwa]; go_simp
  have b1 : wa.cell? ⟨w.heap.size, 1, none⟩ = some (.string a.from_) := by rw [hwa]; go_simp
  have b2 : wa.cell? ⟨w.heap.size, 2, none⟩ = some (.string a.to_) := by rw [hwa]; go_simp
  have b3 : wa.cell? ⟨w.heap.size, 3, none⟩ = some (.int .i64 a.long) := by rw [hwa]; go_simp
  have b4 : wa.cell? ⟨w.heap.size, 4, none⟩ = some (.slice a.ka a.knots.length a.kc) := by rw [hwa]; go_simp
  have HK := hide (fun W (hx : Nx wa W) => (hK.nx hna).nx hx)
  have HCR := hide (fun (lo1 g ca cn : Nat) (A : Option Addr) W (hx : Nx wa W) (hg : W.heap[g]? = some (.cells #[.string a.key, .string a.from_, .string a.to_, .int .i64 a.long, .slice a.ka a.knots.length a.kc] 38 (0, 0))) (hR : Rd W lo1 A 3 encNode (pairN a.from_ a.to_)) =>
    w_CheckRoads lo1 0 0 A (some ⟨g, 0, none⟩) none cn ca 0 (pairN a.from_ a.to_) [a] [] W hR HPS.out (by have := HPL.out; omega) ⟨Rd.lit hg (Nat.zero_le _) encArc_len rfl, fun x hx2 => by simp at hx2; subst hx2; exact ⟨(HK.out W hx).low (Nat.zero_le _), hkl, h1⟩⟩ (by simp) Rd.nil (by simp))
  clear hK
  generalize timeOnF a at_ = F at *
  generalize timeOnI a at_ = V at *
  generalize hpn : pairN a.from_ a.to_ = ps at *
  generalize hkn : a.knots.length = kn at *
  have HKN := hide hkn
  clear hkn hpn
  go_enter Tryz.func11, Tryz.ntmps11
  go_wp2_with fail
  rw [← hwa]
  obtain ⟨wb, hwb⟩ : ∃ wb, wb = wa.alloc (.cells #[.string a.from_, .string a.to_] 9) := ⟨_, rfl⟩
  rw [← hwb]
  have hsa : wa.heap.size = w.heap.size + 1 := by rw [hwa]; simp
  have hnb : Nx wa wb := hwb ▸ (Nx.refl wa).alloc _
  have hgb : w.heap.size + 1 < wb.heap.size := by rw [hwb]; simp; omega
  have kb : wb.heap[w.heap.size + 1]? = some (.cells #[.string a.from_, .string a.to_] 9 (0, 0)) := by rw [hwb]; exact hnew hsa.symm
  have HWA := hide hwa
  have HWB := hide hwb
  have HSA := hide hsa
  clear hwa hwb hsa
  obtain ⟨g1, hg1⟩ : ∃ g1, g1 = w.heap.size + 1 := ⟨_, rfl⟩
  rw [← hg1] at hgb kb ⊢
  have hag : wa.heap.size ≤ g1 := by have := HSA.out; omega
  clear hg1
  generalize w.heap.size = g0 at *
  refine (w_Sort2 g1 2 a.from_ a.to_ _ kb).mono ?_
  rintro e w1 ⟨rfl, hgr1, kb1⟩
  go_wp2_with fail
  refine (HCG.out g1 2 _ kb1 (by omega)).mono ?_
  rintro e w2 ⟨rfl, hgr2, hcells⟩
  have hx2 : Nx wa w2 := Nx.of_gr (((Gr.of_nx hnb).trans hgr1).trans hgr2) hag
  have hgd : g1 < w2.heap.size := by have h8 := hgr1.sz; have h9 := hgr2.sz; omega
  have HCE := hide hcells
  have hown0 : w2.ownsRow w2.heap.size 43 3 (.slice none 0 0) ([] : List Node).length (([] : List Node).flatMap encNode) := World.ownsRow_nil _ _ _ _
  have HO0 := hide hown0
  clear hown0 kb kb1 hgr1 hgr2 hcells
  generalize hpl : ps.length = pn at *
  have HPN := hide hpl
  clear hpl
  have hpn2 := HPL.out
  go_wp2_with fail
  go_loopw [7, 21] (fun v i wr => ∃ k : Nat, k ≤ pn ∧ i = .int .i64 k ∧ wr.ownsRow w2.heap.size 43 3 v (ps.take k).length ((ps.take k).flatMap encNode) ∧ Nx w2 wr) (fun _ i _ => pn - (intOf i).toNat)
  case atStart => exact ⟨0, Nat.zero_le _, rfl, HO0.out, Nx.refl _⟩
  case round =>
    obtain ⟨k, hk, rfl, hown, hbw⟩ := hrel
    have HOW := hide hown
    clear hown
    by_cases hlt : k < pn
    · have hlt' : k < ps.length := by have := HPN.out; omega
      have kc := nx_cell hbw hgd (HCE.out k hlt)
      rw [List.getD_eq_getElem?_getD, List.getElem?_eq_getElem hlt'] at kc
      replace kc : wr.cell? ⟨g1, k, none⟩ = some (.string ps[k].key) := kc
      have hz := HPZ.out ps[k] (List.getElem_mem hlt')
      have htk := List.take_succ_eq_append_getElem hlt'
      generalize ps[k] = x at *
      have HZ := hide hz
      have HTK := hide htk
      clear hz htk
      have hbs := hbw.sz
      have hkl2 : (ps.take k).length ≤ 10000000 := by rw [List.length_take]; omega
      go_wp2_with (at_builtin; refine wpApp rfl _ _ _ rfl el_Node encNode encNode_len encNode_one (by omega) (by omega) w2.heap.size _ (ps.take k) rfl (HOW.out.alloc _) _ x _ rfl (hnew rfl) (by rw [HZ.out]; rfl) hkl2 (by simp; omega) ?_; intro v3 w3 hown3 hg3)
      go_roundw
      case rel => exact ⟨k + 1, by omega, by go_num, by rw [HTK.out]; exact hown3, (hbw.alloc _).grown hg3 (own_blk_lt HOW.out)⟩
      case measure => simp [intOf]; omega
    · obtain rfl : pn = k := by omega
      have hown := HOW.out
      rw [List.take_of_length_le (by have := HPN.out; omega)] at hown
      obtain ⟨A4, c4, ev, hR4, _⟩ := Rd.of_own encNode_len rfl hown
      have HR4 := hide hR4
      have ha4 : Nx wa wr := hx2.trans hbw
      have d0 := nx_cell ha4 hgw b0
      have d1 := nx_cell ha4 hgw b1
      have d2 := nx_cell ha4 hgw b2
      have d3 := nx_cell ha4 hgw b3
      have d4 := nx_cell ha4 hgw b4
      have HPN2 := HPN.out
      subst ev
      clear hown hR4 hlt HOW HCE
      go_wp2_with fail
      have hx5 := (Nx.refl wr).alloc (.cells #[.string a.key, .string a.from_, .string a.to_, .int .i64 a.long, .slice a.ka kn a.kc] 38)
      refine (HCR.out _ _ 1 c4 A4 _ (ha4.trans hx5) (hnew rfl) (HR4.out.nx hx5)).mono ?_
      rintro e w5 ⟨rfl, hn5⟩
      have ha5 : Nx wa w5 := (ha4.trans hx5).trans hn5
      have e4 := nx_cell ha5 hgw b4
      by_cases hz : roadsF ps [a] [] = 0
      · have HOK := hide (timeOn_ok hz)
        rw [hz]
        have HTF2 := hide (HTF.out.trans (if_pos hz))
        clear hz
        cases hm : momB at_
        · have HF := hide (show F = 1 by rw [HTF2.out]; unfold momF; rw [hm]; rfl)
          go_wp2_with (go_at_call 47; refine (w_Moment _ _).mono ?_; rintro e w' ⟨rfl, rfl⟩)
          go_ret2
          exact ⟨by rw [HTI.out, HF.out]; rfl, hna.trans ha5⟩
        · have HF := hide (show F = 0 by rw [HTF2.out]; unfold momF; rw [hm]; rfl)
          have hb := outB_false.1 (show outB at_ 0 lastMo = false by unfold momB at hm; simpa using hm)
          unfold lastMo at hb
          go_wp2_with (first
            | (go_at_call 47; refine (w_Moment _ _).mono ?_; rintro e w' ⟨rfl, rfl⟩)
            | (go_at_call 48; refine (w_TimeD g0 lo a.ka a.kc a.knots at_ _ (by rw [HKN.out]; exact e4) (Nat.lt_of_lt_of_le hgw ha5.sz) (HK.out _ ha5) HOK.out hb).mono ?_; rintro e w6 ⟨rfl, hn6⟩))
          go_ret2
          exact ⟨by rw [HTI.out, HF.out]; rfl, hna.trans (ha5.trans hn6)⟩
      · have tz : (roadsF ps [a] [] != 0) = true := by simpa using hz
        have HF := hide (HTF.out.trans (if_neg hz))
        have HZ := hide hz
        clear hz
        go_wp2_with fail
        go_ret2
        exact ⟨by rw [HTI.out, HF.out, if_neg HZ.out]; rfl, hna.trans ha5⟩
end Go.Proofs.YtbhlldpmklkeoaaGreatDoor
