/- What RidesPriced leans on: Full and Cheapest for all arguments, what stands fast. -/
import Derived.Test.YtdnmcpojjndjbaaGreatDoorQCheO
import Derived.Test.YtdnmcpojjndjbaaGreatDoorQFullR
import Derived.Test.YtdnmcpojjndjbaaGreatDoorQFullB
import Derived.Test.YtdnmcpojjndjbaaGreatDoorQPriR
import Derived.Test.YtdnmcpojjndjbaaGreatDoorQJouR
import Derived.Test.YtdnmcpojjndjbaaGreatDoorQStJO
import Derived.Test.YtdnmcpojjndjbaaGreatDoorQZonesS
import Derived.Test.YtdnmcpojjndjbaaGreatDoorQG7
import Derived.Test.YtdnmcpojjndjbaaGreatDoorQG1
import Derived.Test.YtdnmcpojjndjbaaGreatDoorQG18
namespace Go.Proofs.YtdnmcpojjndjbaaGreatDoor
open Go.RowKit

theorem RdZones.gr {s : Nat} {w w' : World} {lo : Nat} {A : Option Addr} {zs : List Zone} (h : RdZones w lo A zs) (hn : Gr s w w') (hs : s < lo) : RdZones w' lo A zs :=
  ⟨h.1.gr hn hs, fun x hx => ⟨(h.2 x hx).1.gr hn hs, (h.2 x hx).2⟩⟩
theorem RdZones.low {w : World} {lo lo' : Nat} {A : Option Addr} {zs : List Zone} (h : RdZones w lo A zs) (hl : lo' ≤ lo) : RdZones w lo' A zs :=
  ⟨h.1.low hl, fun x hx => ⟨(h.2 x hx).1.low hl, (h.2 x hx).2⟩⟩
theorem RdPrices.gr {s : Nat} {w w' : World} {lo : Nat} {A : Option Addr} {ps : List Price} (h : RdPrices w lo A ps) (hn : Gr s w w') (hs : s < lo) : RdPrices w' lo A ps := ⟨h.1.gr hn hs, h.2⟩
theorem RdPrices.low {w : World} {lo lo' : Nat} {A : Option Addr} {ps : List Price} (h : RdPrices w lo A ps) (hl : lo' ≤ lo) : RdPrices w lo' A ps := ⟨h.1.low hl, h.2⟩
theorem RdJours.gr {s : Nat} {w w' : World} {lo : Nat} {A : Option Addr} {ts : List Jour} (h : RdJours w lo A ts) (hn : Gr s w w') (hs : s < lo) : RdJours w' lo A ts :=
  ⟨h.1.gr hn hs, fun x hx => ⟨(h.2 x hx).1.gr hn hs, (h.2 x hx).2⟩⟩
theorem RdJours.low {w : World} {lo lo' : Nat} {A : Option Addr} {ts : List Jour} (h : RdJours w lo A ts) (hl : lo' ≤ lo) : RdJours w lo' A ts :=
  ⟨h.1.low hl, fun x hx => ⟨(h.2 x hx).1.low hl, (h.2 x hx).2⟩⟩
theorem w_FullU (A : Option Addr) (c : Nat) (zs : List Zone) (p : Price) (t : Jour) (w : World)
    (hR : RdZones w 0 A zs) (hl : zs.length ≤ 100) (hB : Rd w 0 t.a 1 encS t.nodes) (hS : Small t.nodes) (hl' : t.nodes.length ≤ 2000) (hk : p.key.size ≤ 1000000) (hk1 : t.ride.size ≤ 1000000) (hk2 : t.rider.size ≤ 1000000) :
    Calls Tryz.prog 12 #[.slice A zs.length c, aggP p, aggJ t] w fun e w' => e = .returned (.tuple #[.int .i64 (if faultT zs [p] [t] = 0 then fullI zs p t else 0), .int .i64 (faultT zs [p] [t])]) ∧ Nx w w' := by
  by_cases h : faultT zs [p] [t] = 0
  · rw [if_pos h, h]; exact w_FullO A c zs p t w hR hl hB hS hl' hk hk1 hk2 h
  · rw [if_neg h]; exact w_FullX A c zs p t w hR hl hB hS hl' hk hk1 hk2 _ rfl h
theorem w_CheapU (A B : Option Addr) (c d : Nat) (zs : List Zone) (ps : List Price) (t : Jour) (w : World)
    (hR : RdZones w 0 A zs) (hl : zs.length ≤ 100) (hP : RdPrices w 0 B ps) (hlp : ps.length ≤ 50) (hB : Rd w 0 t.a 1 encS t.nodes) (hS : Small t.nodes) (hl' : t.nodes.length ≤ 2000) (hk1 : t.ride.size ≤ 1000000) (hk2 : t.rider.size ≤ 1000000) (G : Option Price) (hG : G = cheapP (fun p => fullI zs p t) none ps) :
    Calls Tryz.prog 16 #[.slice A zs.length c, .slice B ps.length d, aggJ t] w fun e w' => e = .returned (.tuple #[.string (if faultT zs ps [t] = 0 then bestK G else ByteArray.empty), .int .i64 (if faultT zs ps [t] = 0 then bestN (fun p => fullI zs p t) G else 0), .bool (if faultT zs ps [t] = 0 then G.isSome else false), .int .i64 (faultT zs ps [t])]) ∧ Nx w w' := by
  subst hG
  by_cases h : faultT zs ps [t] = 0
  · rw [if_pos h, if_pos h, if_pos h, h]; exact w_CheapO A B c d zs ps t w hR hl hP hlp hB hS hl' hk1 hk2 h
  · rw [if_neg h, if_neg h, if_neg h]; exact w_CheapX A B c d zs ps t w hR hl hP hlp hB hS hl' hk1 hk2 _ rfl h
theorem w_Or3R (a b d : Int) (g : Nat) (w : World) (hg : w.heap[g]? = some (.cells #[.int .i64 a, .int .i64 b, .int .i64 d] 35 (0, 0))) :
    Calls Tryz.prog 13 #[.slice (some ⟨g, 0, none⟩) 3 3] w fun e w' => e = .returned (.int .i64 (orI [a, b, d])) ∧ w = w' := by
  have hR : Rd w 0 (some ⟨g, 0, none⟩) 1 encI [a, b, d] := Rd.lit hg (Nat.zero_le _) (fun _ => rfl) rfl
  exact w_OrE 0 _ 3 [a, b, d] w hR (by simp)
/-- What stands fast once all is drawn. -/
structure RpB (w wb : World) (D B : Option Addr) (bt ot b8 : Nat) (zs : List Zone) (ps : List Price) (t : Jour) (x : Price) : Prop where
  z : RdZones wb 0 D zs
  zl : zs.length ≤ 100
  p : RdPrices wb 0 B ps
  pl : ps.length ≤ 50
  tr : Rd wb 0 t.a 1 encS t.nodes
  ts : Small t.nodes
  tn : t.nodes.length ≤ 2000
  tk1 : t.ride.size ≤ 1000000
  tk2 : t.rider.size ≤ 1000000
  tb : bt < wb.heap.size
  tc : ∀ j u, (encJ t)[j]? = some u → wb.cell? ⟨bt, ot + j, none⟩ = some u
  one : Rd wb 0 (some ⟨bt, ot, none⟩) 6 encJ [t]
  xk : x.key.size ≤ 1000000
  xb : wb.heap[b8]? = some (.cells (encP x).toArray 30 (0, 0))
  nx : Nx w wb
theorem RpB.then {w wb wc : World} {D B : Option Addr} {bt ot b8 : Nat} {zs : List Zone} {ps : List Price} {t : Jour} {x : Price} (h : RpB w wb D B bt ot b8 zs ps t x) (hn : Nx wb wc) : RpB w wc D B bt ot b8 zs ps t x :=
  ⟨h.z.nx hn, h.zl, h.p.nx hn, h.pl, h.tr.nx hn, h.ts, h.tn, h.tk1, h.tk2, Nat.lt_of_lt_of_le h.tb hn.sz, fun j u hu => nx_cell hn h.tb (h.tc j u hu), h.one.nx hn, h.xk, (hn.block b8 (Array.getElem?_eq_some_iff.1 h.xb).1).trans h.xb, h.nx.trans hn⟩
theorem pri_put {w : World} {g : Nat} {T : TypeId} {a0 a1 a2 a3 a4 a5 a6 a7 a8 a9 : Value} (u0 u1 u2 u3 u4 u5 u6 u7 u8 u9 : Value) (h : w.heap[g]? = some (.cells #[a0, a1, a2, a3, a4, a5, a6, a7, a8, a9] T (0, 0))) :
    ((((((((((w.setCell ⟨g, 0, none⟩ u0).setCell ⟨g, 1, none⟩ u1).setCell ⟨g, 2, none⟩ u2).setCell ⟨g, 3, none⟩ u3).setCell ⟨g, 4, none⟩ u4).setCell ⟨g, 5, none⟩ u5).setCell ⟨g, 6, none⟩ u6).setCell ⟨g, 7, none⟩ u7).setCell ⟨g, 8, none⟩ u8).setCell ⟨g, 9, none⟩ u9).heap[g]? = some (.cells #[u0, u1, u2, u3, u4, u5, u6, u7, u8, u9] T (0, 0)) := by
    have h0 : (w.setCell ⟨g, 0, none⟩ u0).heap[g]? = some (.cells #[u0, a1, a2, a3, a4, a5, a6, a7, a8, a9] T (0, 0)) := heap_set (i := 0) h
    generalize w.setCell ⟨g, 0, none⟩ u0 = w0 at *
    have h1 : (w0.setCell ⟨g, 1, none⟩ u1).heap[g]? = some (.cells #[u0, u1, a2, a3, a4, a5, a6, a7, a8, a9] T (0, 0)) := heap_set (i := 1) h0
    generalize w0.setCell ⟨g, 1, none⟩ u1 = w1 at *
    have h2 : (w1.setCell ⟨g, 2, none⟩ u2).heap[g]? = some (.cells #[u0, u1, u2, a3, a4, a5, a6, a7, a8, a9] T (0, 0)) := heap_set (i := 2) h1
    generalize w1.setCell ⟨g, 2, none⟩ u2 = w2 at *
    have h3 : (w2.setCell ⟨g, 3, none⟩ u3).heap[g]? = some (.cells #[u0, u1, u2, u3, a4, a5, a6, a7, a8, a9] T (0, 0)) := heap_set (i := 3) h2
    generalize w2.setCell ⟨g, 3, none⟩ u3 = w3 at *
    have h4 : (w3.setCell ⟨g, 4, none⟩ u4).heap[g]? = some (.cells #[u0, u1, u2, u3, u4, a5, a6, a7, a8, a9] T (0, 0)) := heap_set (i := 4) h3
    generalize w3.setCell ⟨g, 4, none⟩ u4 = w4 at *
    have h5 : (w4.setCell ⟨g, 5, none⟩ u5).heap[g]? = some (.cells #[u0, u1, u2, u3, u4, u5, a6, a7, a8, a9] T (0, 0)) := heap_set (i := 5) h4
    generalize w4.setCell ⟨g, 5, none⟩ u5 = w5 at *
    have h6 : (w5.setCell ⟨g, 6, none⟩ u6).heap[g]? = some (.cells #[u0, u1, u2, u3, u4, u5, u6, a7, a8, a9] T (0, 0)) := heap_set (i := 6) h5
    generalize w5.setCell ⟨g, 6, none⟩ u6 = w6 at *
    have h7 : (w6.setCell ⟨g, 7, none⟩ u7).heap[g]? = some (.cells #[u0, u1, u2, u3, u4, u5, u6, u7, a8, a9] T (0, 0)) := heap_set (i := 7) h6
    generalize w6.setCell ⟨g, 7, none⟩ u7 = w7 at *
    have h8 : (w7.setCell ⟨g, 8, none⟩ u8).heap[g]? = some (.cells #[u0, u1, u2, u3, u4, u5, u6, u7, u8, a9] T (0, 0)) := heap_set (i := 8) h7
    generalize w7.setCell ⟨g, 8, none⟩ u8 = w8 at *
    exact heap_set (i := 9) h8
end Go.Proofs.YtdnmcpojjndjbaaGreatDoor
