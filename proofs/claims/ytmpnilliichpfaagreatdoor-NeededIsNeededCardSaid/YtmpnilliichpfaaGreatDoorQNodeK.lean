/- A node's key: the stream's; the reference's fault. -/
import Derived.Test.YtmpnilliichpfaaGreatDoorQG8
import Derived.Test.YtmpnilliichpfaaGreatDoorQG1
import Derived.Test.YtmpnilliichpfaaGreatDoorQG11
import Derived.Deep.DeepCutAuto
import Derived.Deep.AppendLies
namespace Go.Proofs.YtmpnilliichpfaaGreatDoor
open Go.RowKit

/-- A small string. -/
def StrSm (s k : Nat) (w : World) (e : Ending) (w' : World) : Prop := ∃ t : ByteArray, e = .returned (.string t) ∧ t.size ≤ 1000000 ∧ Gr s w w' ∧ Str w' s k
set_option maxRecDepth 100000 in
set_option maxHeartbeats 2000000 in
theorem w_NodeKey (s k lo : Nat) (A B C : Option Addr) (n1 n2 ca cb cc : Nat) (ns : List Node) (w : World) (hS : Str w s k) (hk : k < 700000) (hR : Rd w lo A 3 encNode ns) (hSm : SmallN ns) (h0 : 0 < ns.length) (hl : ns.length ≤ 400) (hlo : s < lo) :
    Calls Tryz.prog 31 #[.pointer (some ⟨s, 0, none⟩), .agg #[.slice A ns.length ca, .slice B n1 cb, .slice C n2 cc]] w (StrSm s (k + 2) w) := by
  have hsl := hS.lt
  obtain ⟨wa, hwa⟩ : ∃ wa, wa = w.alloc (.cells #[.slice A ns.length ca, .slice B n1 cb, .slice C n2 cc] 30) := ⟨_, rfl⟩
  have hna : Nx w wa := hwa ▸ (Nx.refl w).alloc _
  have hgw : w.heap.size < wa.heap.size := by rw [hwa]; simp
  have b0 : wa.cell? ⟨w.heap.size, 0, none⟩ = some (.slice A ns.length ca) := by rw [hwa]; go_simp
  have hSa := hS.nx hna
  have HR := hide (hR.nx hna)
  have HSM := hide hSm
  clear hR hS hSm
  generalize hn : ns.length = n at *
  have HN := hide hn
  clear hn
  have t0 : ((n : Int) == 0) = false := by rw [beq_eq_false_iff_ne]; omega
  go_enter Tryz.func31, Tryz.ntmps31
  go_wp2_with fail
  rw [← hwa]
  have HWA := hide hwa
  clear hwa
  have hgs : w.heap.size ≠ s := by omega
  generalize w.heap.size = g at *
  refine (w_Flip 25 _ _ _ hSa (by omega) (by omega)).mono ?_
  rintro e w1 ⟨fl, rfl, hg1, hS1⟩
  have hs1 := hS1.lt
  cases fl
  · have b1 : w1.cell? ⟨g, 0, none⟩ = some (.slice A n ca) := World.grownBy.cell hg1 b0 (by simp; omega)
    obtain ⟨b, off, rfl, hlo', hb, _, hc⟩ := HR.out.open_ (Nx.refl wa) (by have := HN.out; omega)
    have HC := hide hc
    clear hc b0
    go_upto_region 3 with fail
    have k1 : (1 : Int) ≤ (n : Int) := by omega
    go_cut [4] (fun v wx => ∃ t : ByteArray, v = .string t ∧ t.size ≤ 1000000 ∧ Gr s w1 wx ∧ Str wx s (k + 2))
    case first =>
      go_region_law
        (first | (go_simp; go_at_call 48; refine (w_Next (n : Int) _ _ _ (hS1.nx (Nx.refl w1).drew) (by omega) (by omega)).mono ?_; rintro e w4 ⟨q, hq1, hq2, rfl, hg4, hS4⟩; (obtain ⟨q, rfl⟩ := Int.eq_ofNat_of_zero_le hq1); (have hgr := hg1.trans ((Gr.refl s w1).drew.trans hg4)); (have b4 : w4.cell? ⟨g, 0, none⟩ = some (.slice (some ⟨b, off, none⟩) n ca) := World.grownBy.cell (row := some s) ((Gr.refl s w1).drew.trans hg4) b1 (by simp; omega)); (have hq3 : (q : Int) < (n : Int) := by omega); (have hqn : q < ns.length := by have := HN.out; omega); (have d4 : w4.cell? ⟨b, off + q * 3, none⟩ = some (.string ns[q].key) := World.grownBy.cell (row := some s) hgr (HC.out q hqn 0 _ rfl) (by simp; omega))))
      all_goals
        go_wp2
        go_meet
        exact ⟨_, rfl, HSM.out _ (List.getElem_mem hqn), (Gr.refl s w1).drew.trans hg4, hS4⟩
    case rest =>
      obtain ⟨t, rfl, ht, hg2, hS2⟩ := hcut
      go_wp2_with fail
      go_ret
      exact ⟨t, rfl, ht, (Gr.of_nx hna).trans (hg1.trans hg2), hS2⟩
  · go_wp2_with fail
    refine (w_Some _ [⟨#[]⟩, ⟨#[122, 122]⟩, ⟨#[65]⟩] _ _ _ _ (hS1.nx ((Nx.refl _).alloc _)) (by omega) (hnew rfl) (by omega) rfl (by simp) (by simp)).mono ?_
    rintro e w2 ⟨r, hr, rfl, hg2, hS2⟩
    go_wp2_with fail
    go_ret
    refine ⟨r, rfl, ?_, (Gr.of_nx hna).trans (hg1.trans (((Gr.refl s w1).alloc _).trans hg2)), hS2⟩
    simp at hr
    rcases hr with h | h | h <;> rw [h] <;> decide
def noneF (ns : List Node) (s : ByteArray) : Int := if nodeI ns s < 0 then 8 else 0
set_option maxHeartbeats 1000000 in
theorem w_NodeFault (lo : Nat) (A B C : Option Addr) (n1 n2 c1 c2 c3 : Nat) (l : List Node) (s : ByteArray) (w : World) (hR : Rd w lo A 3 encNode l) (hl : l.length ≤ 65536) :
    Calls Tryz.prog 43 #[.agg #[.slice A l.length c1, .slice B n1 c2, .slice C n2 c3], .string s] w fun e w' => e = .returned (.int .i64 (noneF l s)) ∧ Nx w w' := by
  have HN := hide (fun W hx => w_NodeAt lo A B C n1 n2 c1 c2 c3 l s W hx hl)
  unfold noneF
  by_cases h : nodeI l s < 0
  · rw [if_pos h]
    have tf : decide (nodeI l s < 0) = true := decide_eq_true h
    clear h
    go_enter Tryz.func43, Tryz.ntmps43
    go_wp2_with (go_at_call 81; refine (HN.out _ (hR.nx ((Nx.refl w).alloc _))).mono ?_; rintro e w2 ⟨rfl, hn2⟩)
    go_ret
    exact ⟨rfl, ((Nx.refl w).alloc _).trans hn2⟩
  · rw [if_neg h]
    have tf : decide (nodeI l s < 0) = false := decide_eq_false h
    clear h
    go_enter Tryz.func43, Tryz.ntmps43
    go_wp2_with (go_at_call 81; refine (HN.out _ (hR.nx ((Nx.refl w).alloc _))).mono ?_; rintro e w2 ⟨rfl, hn2⟩)
    go_ret
    exact ⟨rfl, ((Nx.refl w).alloc _).trans hn2⟩
theorem w_when (b : Bool) (z : Int) (w : World) : Calls Tryz.prog 25 #[.bool b, .int .i64 z] w fun e w' => e = .returned (.int .i64 (if b then z else 0)) ∧ w = w' := by
  cases b
  all_goals
    go_enter Tryz.func25, Tryz.ntmps25
    go_wp2
    go_ret
    exact ⟨rfl, rfl⟩
end Go.Proofs.YtmpnilliichpfaaGreatDoor
