/- Fastest and Latest for all arguments. -/
import Derived.Test.YtklgknepamebdaaGreatDoorQLatest
import Derived.Test.YtklgknepamebdaaGreatDoorQG24
import Derived.Test.YtklgknepamebdaaGreatDoorQG9
import Derived.Test.YtklgknepamebdaaGreatDoorQG2
namespace Go.Proofs.YtklgknepamebdaaGreatDoor
open Go.RowKit

theorem fast_ex (ns : List Node) (rs : List Arc) (bs : List Ban) (f t : ByteArray) (ad : Int) (hal : rs.length ≤ 400) : ∃ x, FastIs ns rs bs f t ad x := by
  by_cases hE : endsF ns rs bs f t ad = 0
  · obtain ⟨o1, o2, o3, o4⟩ := endsF_ok hE
    by_cases h1 : gi (searchG (gphOf ns rs bs) (nodeN ns f) ad).first (nodeN ns t) < 0
    · exact ⟨_, .none hE h1⟩
    · obtain ⟨l, w1, w2, _⟩ := way_of (bs := bs) (roads_ok o1).2.1 hal o2 o3 (momB_true.1 o4).1 (Int.not_lt.1 h1)
      exact ⟨_, .way hE (Int.not_lt.1 h1) l w1 w2⟩
  · exact ⟨_, .bad hE⟩
theorem w_FastAll (lo : Nat) (A B C : Option Addr) (ca cb cc : Nat) (ns : List Node) (rs : List Arc) (bs : List Ban) (f t : ByteArray) (ad : Int) (x : WayA) (hx : FastIs ns rs bs f t ad x) (w : World) (hlo : lo ≤ w.heap.size)
    (hN : Rd w lo A 3 encNode ns) (hA : RdArcs w lo B rs) (hB : Rd w lo C 2 encBan bs) (hnl : ns.length ≤ 400) (hal : rs.length ≤ 400) (hbl : bs.length ≤ 400) (hS : SmallN ns) :
    Calls Tryz.prog 28 #[.agg #[.slice A ns.length ca, .slice B rs.length cb, .slice C bs.length cc], .string f, .string t, .int .i64 ad] w (WayRes w x) := by
  cases hx with
  | bad hE =>
    refine (w_FastBad lo A B C ca cb cc ns rs bs f t ad w hN hA hB hnl hal hbl hS hE).mono ?_
    rintro e w' ⟨rfl, hn⟩
    exact ⟨none, 0, rfl, Rd.nil, hn⟩
  | none hE h1 =>
    obtain ⟨o1, o2, o3, o4⟩ := endsF_ok hE
    refine (w_FastNo lo A B C ca cb cc ns rs bs f t ad (nodeN ns f) (nodeN ns t) w hlo hN hA hB hnl hal hbl hS o1 (newOk_of o1) (by unfold nodeN; omega) (by unfold nodeN; omega) (nodeN_lt o2) (nodeN_lt o3) o4 h1).mono ?_
    rintro e w' ⟨rfl, hn⟩
    exact ⟨none, 0, rfl, Rd.nil, hn⟩
  | way hE h1 l hc hl =>
    obtain ⟨o1, o2, o3, o4⟩ := endsF_ok hE
    refine (w_FastYes lo A B C ca cb cc ns rs bs f t ad (nodeN ns f) (nodeN ns t) w hlo hN hA hB hnl hal hbl hS o1 (newOk_of o1) (by unfold nodeN; omega) (by unfold nodeN; omega) (nodeN_lt o2) (nodeN_lt o3) o4 _ rfl h1 l hc (by omega)).mono ?_
    rintro e w' ⟨Z, c, rfl, hR, hn⟩
    exact ⟨Z, c, rfl, hR, hn⟩
theorem w_LateAll (lo : Nat) (A B C : Option Addr) (ca cb cc : Nat) (ns : List Node) (rs : List Arc) (bs : List Ban) (f t : ByteArray) (by_ : Int) (w : World)
    (hN : Rd w lo A 3 encNode ns) (hA : RdArcs w lo B rs) (hB : Rd w lo C 2 encBan bs) (hnl : ns.length ≤ 400) (hal : rs.length ≤ 400) (hbl : bs.length ≤ 400) (hS : SmallN ns) :
    Calls Tryz.prog 29 #[.agg #[.slice A ns.length ca, .slice B rs.length cb, .slice C bs.length cc], .string f, .string t, .int .i64 by_] w fun e w' => ∃ x, LateIs ns rs bs f t by_ x ∧ WayRes w x e w' := by
  by_cases hE : endsF ns rs bs f t by_ = 0
  · exact w_LatestGood lo A B C ca cb cc ns rs bs f t by_ w hN hA hB hnl hal hbl hS hE (newOk_of (endsF_ok hE).1)
  · refine (w_LatestBad lo A B C ca cb cc ns rs bs f t by_ w hN hA hB hnl hal hbl hS hE).mono ?_
    rintro e w' ⟨rfl, hn⟩
    exact ⟨_, .bad hE, none, 0, rfl, Rd.nil, hn⟩
theorem FastIs.len {ns : List Node} {rs : List Arc} {bs : List Ban} {f t : ByteArray} {ad : Int} {x : WayA} (h : FastIs ns rs bs f t ad x) (hal : rs.length ≤ 400) : x.keys.length ≤ 400 := by
  cases h with
  | bad h => exact Nat.zero_le _
  | none h h1 => exact Nat.zero_le _
  | way h h1 l hc hl => unfold keysOf; rw [List.length_map, List.length_reverse]; omega
/-- Fastest for one and the same arguments in many worlds: what it answers, as the law wants it. -/
theorem fast_pack (lo : Nat) (A B C : Option Addr) (ca cb cc : Nat) (ns : List Node) (rs : List Arc) (bs : List Ban) (f t : ByteArray) (ad : Int) (Q : World → Prop)
    (hQ : ∀ W, Q W → lo ≤ W.heap.size ∧ Rd W lo A 3 encNode ns ∧ RdArcs W lo B rs ∧ Rd W lo C 2 encBan bs) (hnl : ns.length ≤ 400) (hal : rs.length ≤ 400) (hbl : bs.length ≤ 400) (hS : SmallN ns) :
    ∃ (keys : List ByteArray) (n : Nat) (lv ar : Int) (is : Bool), keys.length = n ∧ n ≤ 400 ∧
      (∀ W, Q W → Calls Tryz.prog 28 #[.agg #[.slice A ns.length ca, .slice B rs.length cb, .slice C bs.length cc], .string f, .string t, .int .i64 ad] W fun e w' => ∃ (Z : Option Addr) (c : Nat), e = .returned (.tuple #[.agg #[.slice Z n c, .int .i64 lv, .int .i64 ar], .bool is, .int .i64 (endsF ns rs bs f t ad)]) ∧ Rd w' 0 Z 1 encS keys ∧ Nx W w') ∧
      (endsF ns rs bs f t ad ≠ 0 → is = false ∧ n = 0) ∧
      (endsF ns rs bs f t ad = 0 → is = decide (arrG (gphOf ns rs bs) (nodeN ns f) (nodeN ns t) ad < endT) ∧ (is = true → lv = ad ∧ ar = arrG (gphOf ns rs bs) (nodeN ns f) (nodeN ns t) ad ∧ WayOk ns rs bs f t keys lv ar)) := by
  obtain ⟨x, hx⟩ := fast_ex ns rs bs f t ad hal
  obtain ⟨h1, h2, h3⟩ := hx.law hal
  refine ⟨x.keys, x.keys.length, x.lv, x.ar, x.is, rfl, hx.len hal, fun W hW => ?_, fun h => ⟨(h2 h).1, by rw [(h2 h).2]; rfl⟩, fun h => ⟨(h3 h).1, fun h' => ?_⟩⟩
  · obtain ⟨q0, q1, q2, q3⟩ := hQ W hW
    refine (w_FastAll lo A B C ca cb cc ns rs bs f t ad x hx W q0 q1 q2 q3 hnl hal hbl hS).mono ?_
    rintro e w' ⟨Z, c, rfl, hR, hn⟩
    exact ⟨Z, c, by rw [h1], hR.low (Nat.zero_le _), hn⟩
  · obtain ⟨a1, a2, a3⟩ := (h3 h).2 h'
    exact ⟨a1, a2, a1 ▸ a3⟩
theorem late_pack (lo : Nat) (A B C : Option Addr) (ca cb cc : Nat) (ns : List Node) (rs : List Arc) (bs : List Ban) (f t : ByteArray) (ad : Int) (W : World)
    (hN : Rd W lo A 3 encNode ns) (hA : RdArcs W lo B rs) (hB : Rd W lo C 2 encBan bs) (hnl : ns.length ≤ 400) (hal : rs.length ≤ 400) (hbl : bs.length ≤ 400) (hS : SmallN ns) :
    Calls Tryz.prog 29 #[.agg #[.slice A ns.length ca, .slice B rs.length cb, .slice C bs.length cc], .string f, .string t, .int .i64 ad] W fun e w' => ∃ (keys : List ByteArray) (n : Nat) (lv ar : Int) (is : Bool) (Z : Option Addr) (c : Nat), keys.length = n ∧ e = .returned (.tuple #[.agg #[.slice Z n c, .int .i64 lv, .int .i64 ar], .bool is, .int .i64 (endsF ns rs bs f t ad)]) ∧ Rd w' 0 Z 1 encS keys ∧ Nx W w' ∧
      (endsF ns rs bs f t ad ≠ 0 → is = false ∧ n = 0) ∧
      (endsF ns rs bs f t ad = 0 → ∀ L, LeaveOk (gphOf ns rs bs) (nodeN ns f) (nodeN ns t) ad L → is = decide (0 ≤ L) ∧ (is = true → lv = L ∧ 0 ≤ L ∧ L ≤ ad ∧ ar = arrG (gphOf ns rs bs) (nodeN ns f) (nodeN ns t) L ∧ WayOk ns rs bs f t keys lv ar)) := by
  refine (w_LateAll lo A B C ca cb cc ns rs bs f t ad W hN hA hB hnl hal hbl hS).mono ?_
  rintro e w' ⟨x, hx, Z, c, rfl, hR, hn⟩
  have h1 : x.fault = endsF ns rs bs f t ad := by cases hx <;> first | rfl | (symm; assumption)
  refine ⟨x.keys, x.keys.length, x.lv, x.ar, x.is, Z, c, rfl, by rw [h1], hR.low (Nat.zero_le _), hn, fun h => ?_, fun h L hL => ?_⟩
  · obtain ⟨_, h2, _⟩ := hx.law hal 0 (fun h' => absurd h' h)
    exact ⟨(h2 h).1, by rw [(h2 h).2]; rfl⟩
  · obtain ⟨_, _, h3⟩ := hx.law hal L (fun _ => hL)
    refine ⟨(h3 h).1, fun h' => ?_⟩
    obtain ⟨a1, a2, a3, a4, a5⟩ := (h3 h).2 h'
    exact ⟨a1, a2, a3, a4, a1 ▸ a5⟩
end Go.Proofs.YtklgknepamebdaaGreatDoor
/- slices.Equal of two rows of strings that are the same. -/
namespace Go.Proofs.YtklgknepamebdaaGreatDoor
open Go.RowKit

set_option maxRecDepth 100000 in
set_option maxHeartbeats 1000000 in
theorem w_EqualSS (lo lo' : Nat) (A B : Option Addr) (c d : Nat) (l : List ByteArray) (w : World) (hA : Rd w lo A 1 encS l) (hB : Rd w lo' B 1 encS l) (hl : l.length ≤ 65536) :
    Calls Tryz.prog 35 #[.slice A l.length c, .slice B l.length d] w fun e w' => e = .returned (.bool true) ∧ Nx w w' := by
  generalize hn : l.length = n at *
  have HA := hide hA
  have HB := hide hB
  have HN := hide hn
  clear hA hB hn
  go_enter Tryz.func35, Tryz.ntmps35
  go_wp2
  go_loopw [5, 13] (fun _ i wr => ∃ k : Nat, k ≤ n ∧ i = .int .i64 k ∧ Nx w wr) (fun _ i _ => n - (intOf i).toNat)
  case atStart => exact ⟨0, Nat.zero_le _, rfl, Nx.refl _⟩
  case round =>
    obtain ⟨k, hk, rfl, hbw⟩ := hrel
    by_cases hlt : k < n
    · have hlt' : k < l.length := by have := HN.out; omega
      obtain ⟨b, off, rfl, _, hb, hbr, hc⟩ := HA.out.open_ hbw (by omega)
      obtain ⟨b', off', rfl, _, hb', hbr', hc'⟩ := HB.out.open_ hbw (by omega)
      have c0 : wr.cell? ⟨b, off + k, none⟩ = some (.string l[k]) := by have := hc k hlt' 0 _ rfl; simpa using this
      have d0 : wr.cell? ⟨b', off' + k, none⟩ = some (.string l[k]) := by have := hc' k hlt' 0 _ rfl; simpa using this
      clear hc hc'
      generalize l[k] = s at *
      have te : (s.toList == s.toList) = true := by rw [eqS_iff]; exact decide_eq_true rfl
      have q1 : (0 : Int) ≤ (k : Int) := by omega
      have q2 : (k : Int) < (n : Int) := by omega
      go_wp2_with fail
      go_quiet (fail)
      go_wp2
      go_roundw
      case rel => exact ⟨k + 1, by omega, by go_num, hbw.drewN _⟩
      case measure => simp [intOf]; omega
    · go_wp2
      go_ret
      exact ⟨rfl, hbw⟩
end Go.Proofs.YtklgknepamebdaaGreatDoor
/- cmp.Or of three. -/
namespace Go.Proofs.YtklgknepamebdaaGreatDoor
open Go.RowKit
theorem w_Or3 (a b d : Int) (g c : Nat) (w : World) (hg : w.heap[g]? = some (.cells #[.int .i64 a, .int .i64 b, .int .i64 d] 42 (0, 0))) :
    Calls Tryz.prog 18 #[.slice (some ⟨g, 0, none⟩) 3 c] w fun e w' => e = .returned (.int .i64 (orI [a, b, d])) ∧ w = w' := by
  have hR : Rd w 0 (some ⟨g, 0, none⟩) 1 encI [a, b, d] := Rd.lit hg (Nat.zero_le _) (fun _ => rfl) rfl
  exact w_OrE 0 _ c [a, b, d] w hR (by simp)
end Go.Proofs.YtklgknepamebdaaGreatDoor
