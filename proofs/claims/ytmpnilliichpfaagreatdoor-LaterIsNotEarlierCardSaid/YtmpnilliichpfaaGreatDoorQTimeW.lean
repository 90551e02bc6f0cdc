/- TimeOn at an arc of right roads: the program. -/
import Derived.Test.YtmpnilliichpfaaGreatDoorQG48
namespace Go.Proofs.YtmpnilliichpfaaGreatDoor
open Go.RowKit

theorem node_small {ns : List Node} (h : SmallN ns) {s : ByteArray} (hs : 0 ≤ nodeI ns s) : s.size ≤ 1000000 := by
  obtain ⟨i, hi, _, e⟩ := node_found hs
  rw [← e]
  exact h _ (mem_getD hi)
theorem w_TimeOnR (lo : Nat) (B : Option Addr) (ns : List Node) (rs : List Arc) (bs : List Ban) (k : Nat) (t : Int) (w : World) (hA : RdArcs w lo B rs) (hSm : SmallN ns) (hR : roadsF ns rs bs = 0) (hk : k < rs.length) (hm : momB t = true) :
    Calls Tryz.prog 51 #[.agg #[.string (arcX rs k).key, .string (arcX rs k).from_, .string (arcX rs k).to_, .int .i64 (arcX rs k).long, .slice (arcX rs k).ka (arcX rs k).knots.length (arcX rs k).kc], .int .i64 t] w fun e w' => e = .returned (.tuple #[.int .i64 (timeI (arcX rs k).knots t), .int .i64 0]) ∧ Nx w w' := by
  obtain ⟨h1, h2, h3⟩ := roads_ok hR
  obtain ⟨hK, hL, hS⟩ := hA.2 (arcX rs k) (arcX_mem hk)
  have hr := arc_right h2 hk
  have ht := timeOn_right h1 h2 hk hm
  have hc := w_TimeOn lo (arcX rs k) t w hK (by omega) hS (node_small hSm hr.1) (node_small hSm hr.2.1)
  rw [ht.1, ht.2] at hc
  exact hc
theorem time_in {ns : List Node} {rs : List Arc} (hC : chk (arcF ns) none rs = 0) {k : Nat} (hk : k < rs.length) (t : Int) : 1 ≤ timeI (arcX rs k).knots t ∧ timeI (arcX rs k).knots t ≤ 3600000 := by
  have h2 := time_le (knotsF_chk (arc_right hC hk).2.2.2) t
  have h1 := time_ge (knotsF_chk (arc_right hC hk).2.2.2) t
  exact ⟨by omega, h2⟩
end Go.Proofs.YtmpnilliichpfaaGreatDoor
