/- slices.Contains of strings; and the plain law of what is needed. -/
import Derived.Test.YtmpnilliichpfaaGreatDoorQH0
import Derived.Test.YtmpnilliichpfaaGreatDoorQH3
import Derived.Test.YtmpnilliichpfaaGreatDoorQWithout
import Derived.Test.YtmpnilliichpfaaGreatDoorQG8
import Derived.Test.YtmpnilliichpfaaGreatDoorQG13
namespace Go.Proofs.YtmpnilliichpfaaGreatDoor
open Go.RowKit

set_option maxRecDepth 100000 in
set_option maxHeartbeats 1000000 in
theorem w_IndexS2 (lo : Nat) (A : Option Addr) (c : Nat) (l : List ByteArray) (t : ByteArray) (w : World) (hR : Rd w lo A 1 encS l) (hl : l.length ≤ 65536) :
    Calls Tryz.prog 134 #[.slice A l.length c, .string t] w fun e w' => e = .returned (.int .i64 (findI (fun x => decide (x = t)) l)) ∧ Nx w w' := by
  generalize hn : l.length = n at *
  have HR := hide hR
  have HN := hide hn
  clear hR hn
  go_enter Tryz.func134, Tryz.ntmps134
  go_wp2
  go_loopw [8] (fun i wr => ∃ k : Nat, k ≤ n ∧ i = .int .i64 k ∧ Nx w wr ∧ findI (fun x => decide (x = t)) l = idxP (fun x => decide (x = t)) (l.drop k) k) (fun i _ => n - (intOf i).toNat)
  case atStart => exact ⟨0, Nat.zero_le _, rfl, Nx.refl _, rfl⟩
  case round =>
    obtain ⟨k, hk, rfl, hbw, hq⟩ := hrel
    have HQ := hide hq
    clear hq
    by_cases hlt : k < n
    · have hlt' : k < l.length := by have := HN.out; omega
      obtain ⟨b, off, eb, _, hb, hbr, hc⟩ := HR.out.open_ hbw (by have := HN.out; omega)
      have c0 : wr.cell? ⟨b, off + k, none⟩ = some (.string l[k]) := by simpa using hc k hlt' 0 _ rfl
      have HD := hide (idxP_drop (fun x => decide (x = t)) l k hlt')
      clear hc
      generalize l[k] = y at *
      subst eb
      by_cases hyt : y = t
      · have tq : (t.toList == y.toList) = true := by rw [eqS_iff]; exact decide_eq_true hyt.symm
        have HY := hide hyt
        clear hyt
        go_wp2
        go_ret
        exact ⟨ret_int (by rw [HQ.out, HD.out, if_pos (decide_eq_true HY.out)]), hbw⟩
      · have tq : (t.toList == y.toList) = false := by rw [eqS_iff]; exact decide_eq_false fun e => hyt e.symm
        have HY := hide hyt
        clear hyt
        go_wp2
        go_roundw
        case rel => exact ⟨k + 1, by omega, by go_num, hbw, by rw [HQ.out, HD.out, if_neg (by simpa using HY.out)]⟩
        case measure => simp [intOf]; omega
    · go_wp2
      go_ret
      exact ⟨ret_int (by rw [HQ.out, List.drop_of_length_le (by have := HN.out; omega)]; rfl), hbw⟩
theorem w_ContS2 (lo : Nat) (A : Option Addr) (c : Nat) (l : List ByteArray) (t : ByteArray) (w : World) (hR : Rd w lo A 1 encS l) (hl : l.length ≤ 65536) :
    Calls Tryz.prog 62 #[.slice A l.length c, .string t] w fun e w' => e = .returned (.bool (memS l t)) ∧ Nx w w' := by
  have HC := hide (w_IndexS2 lo A c l t w hR hl)
  have HA := hide (idxP_any (fun x => decide (x = t)) l 0)
  rw [show idxP (fun x => decide (x = t)) l 0 = findI (fun x => decide (x = t)) l from rfl] at HA
  rw [show l.any (fun x => decide (x = t)) = memS l t from rfl] at HA
  generalize findI (fun x => decide (x = t)) l = r at *
  generalize memS l t = z at *
  clear hR hl
  generalize l.length = n at *
  have h1 := HA.out
  have h2 : decide (r ≥ 0) = z := h1
  go_enter Tryz.func62, Tryz.ntmps62
  go_wp2_with fail
  refine HC.out.mono ?_
  rintro e w2 ⟨rfl, hn2⟩
  go_wp2_with fail
  go_ret
  exact ⟨rfl, hn2⟩
/-- On the roads without an arc one comes there iff it is not needed. -/
theorem need_not {ns : List Node} {rs rs' : List Arc} {bs : List Ban} {a b : Nat} {L : List ByteArray} (hR : roadsF ns rs bs = 0) (hal : rs.length ≤ 400) (ha : a < ns.length) (hb : b < ns.length)
    (h : (a = b ∧ L = []) ∨ (a ≠ b ∧ ∀ s, s ∈ L ↔ ∃ k, k < rs.length ∧ (arcX rs k).key = s ∧ ¬ connP ns rs bs a b k)) {k : Nat} (hk : k < rs.length) (hrs : rs'.map coreA = (lessA rs (memS [(arcX rs k).key])).map coreA) :
    decide (arrG (gphOf ns rs' (lessB bs (memS [(arcX rs k).key]))) a b 0 < endT) = !memS L (arcX rs k).key := by
  have hC := (roads_ok hR).2.1
  rw [(same_core (ns := ns) (bs := lessB bs (memS [(arcX rs k).key])) hrs).2.1]
  have hiff := less_conn (bs := bs) hC hal ha hb hk (g := memS [(arcX rs k).key]) (fun s => by
    unfold memS
    rw [List.any_cons, List.any_nil, Bool.or_false, decide_eq_decide]
    exact ⟨Eq.symm, Eq.symm⟩)
  rw [Bool.eq_iff_iff, decide_eq_true_iff, hiff, Bool.not_eq_true', Bool.eq_false_iff, Ne, memS_iff]
  rcases h with ⟨e, rfl⟩ | ⟨hne, hL⟩
  · exact ⟨fun _ h => absurd h (by simp), fun _ => .inl e⟩
  · rw [hL]
    constructor
    · rintro (h | h)
      · exact absurd h hne
      · rintro ⟨j, hj, e, hn⟩
        have h1 := arc_at (sortA_of hC) hj
        have h2 := arc_at (sortA_of hC) hk
        rw [show (rs.getD j default).key = (rs.getD k default).key from e, h2] at h1
        have : k = j := by omega
        subst this
        exact hn h
    · intro h
      exact .inr (Classical.byContradiction fun hn => h ⟨k, hk, rfl, hn⟩)
end Go.Proofs.YtmpnilliichpfaaGreatDoor
