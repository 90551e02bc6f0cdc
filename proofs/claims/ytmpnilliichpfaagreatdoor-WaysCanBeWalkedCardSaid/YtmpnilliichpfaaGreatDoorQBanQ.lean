/- Is a ban among the bans: the reference. -/
import Derived.Test.YtmpnilliichpfaaGreatDoorQG6
import Derived.Test.YtmpnilliichpfaaGreatDoorQG3
import Derived.Laws.StructEq
import Derived.Deep.DeepCutAuto
namespace Go.Proofs.YtmpnilliichpfaaGreatDoor
open Go.RowKit

theorem gd_Ban : Tryz.prog.eqGuardType Tryz.prog.depth 114 = false := by kernel_rfl
theorem sin_Ban (d : Nat) (x y a b : ByteArray) (w : World) : (Op.equalIn (d + 2) 114 (.agg #[.string x, .string y]) (.agg #[.string a, .string b])).run Tryz.prog w = .ok (x.toList == a.toList && y.toList == b.toList) w := by
  have u3 := Tryz.underlying9
  have a3 := Tryz.isAgg9
  have z3 := Tryz.sizeOf9
  have hS : Tryz.prog.underlying 114 = some (.struct (Tryz.prog.fieldsOf 114)) := by kernel_rfl
  have hp : Tryz.prog.stoodInHeld 114 = false := by kernel_rfl
  rw [run_equalIn_agg w (d + 1) 114 _ _ hS hp]
  simp only [Program.fieldsOf, Tryz.underlying114]
  go_simp
  cases h1 : x.toList == a.toList <;> cases h2 : y.toList == b.toList <;> simp_all
theorem eql_Ban (x y a b : ByteArray) (w : World) : (binOp .eql 114 (.agg #[.string x, .string y]) (.agg #[.string a, .string b])).run Tryz.prog w = .ok (.bool (x.toList == a.toList && y.toList == b.toList)) w := by
  rw [run_eql_struct, show (10000 : Nat) = 9998 + 2 from rfl, sin_Ban]; rfl
attribute [local go_sem ↓] eql_Ban

set_option maxRecDepth 100000 in
set_option maxHeartbeats 2000000 in
theorem w_IdxB (lo : Nat) (A : Option Addr) (c : Nat) (l : List Ban) (f t : ByteArray) (w : World) (hR : Rd w lo A 2 encBan l) (hl : l.length ≤ 65536) :
    Calls Tryz.prog 240 #[.slice A l.length c, .agg #[.string f, .string t]] w fun e w' => ∃ r : Int, e = .returned (.int .i64 r) ∧ decide (0 ≤ r) = bannedB l f t ∧ Nx w w' := by
  obtain ⟨wa, hwa⟩ : ∃ wa, wa = w.alloc (.cells #[.string f, .string t] 114) := ⟨_, rfl⟩
  have hna : Nx w wa := hwa ▸ (Nx.refl w).alloc _
  have hgw : w.heap.size < wa.heap.size := by rw [hwa]; simp
  have x0 : wa.cell? ⟨w.heap.size, 0, none⟩ = some (.string f) := by rw [hwa]; go_simp
  have x1 : wa.cell? ⟨w.heap.size, 1, none⟩ = some (.string t) := by rw [hwa]; go_simp
  have HR := hide (hR.nx hna)
  clear hR
  generalize hn : l.length = n at *
  have HN := hide hn
  clear hn
  go_enter Tryz.func240, Tryz.ntmps240
  go_wp2_with fail
  rw [← hwa]
  have HWA := hide hwa
  clear hwa
  generalize w.heap.size = g at *
  go_loopw [5, 8] (fun _ i wr => ∃ k : Nat, k ≤ n ∧ i = .int .i64 k ∧ Nx wa wr ∧ bannedB (l.take k) f t = false) (fun _ i _ => n - (intOf i).toNat)
  case atStart => exact ⟨0, Nat.zero_le _, rfl, Nx.refl _, rfl⟩
  case round =>
    obtain ⟨k, hk, rfl, hbw, hq⟩ := hrel
    have HQ := hide hq
    clear hq
    by_cases hlt : k < n
    · have hlt' : k < l.length := by have := HN.out; omega
      have y0 := nx_cell hbw hgw x0
      have y1 := nx_cell hbw hgw x1
      obtain ⟨b, off, rfl, _, hb, hbr, hc⟩ := HR.out.open_ hbw (by omega)
      have c0 : wr.cell? ⟨b, off + k * 2, none⟩ = some (.string l[k].from_) := hc k hlt' 0 _ rfl
      have c1 : wr.cell? ⟨b, off + k * 2 + 1, none⟩ = some (.string l[k].to_) := hc k hlt' 1 _ rfl
      have k1 : (k : Int) < (n : Int) := by omega
      have k2 : (0 : Int) ≤ (k : Int) := by omega
      have HT := hide (show bannedB (l.take (k + 1)) f t = (bannedB (l.take k) f t || (decide (l[k].from_ = f) && decide (l[k].to_ = t))) by
        unfold bannedB
        rw [List.take_succ_eq_append_getElem hlt', List.any_append]; simp)
      have HM := hide (show (decide (l[k].from_ = f) && decide (l[k].to_ = t)) = true → bannedB l f t = true from fun h => by
        unfold bannedB
        exact List.any_eq_true.2 ⟨l[k], List.getElem_mem hlt', h⟩)
      clear hc
      generalize l[k] = x at *
      have he : (f.toList == x.from_.toList && t.toList == x.to_.toList) = (decide (x.from_ = f) && decide (x.to_ = t)) := by
        rw [eqS_iff, eqS_iff]
        congr 1
        · exact decide_eq_decide.2 eq_comm
        · exact decide_eq_decide.2 eq_comm
      generalize hbb : (decide (x.from_ = f) && decide (x.to_ = t)) = bb at *
      go_upto_region 4 with fail
      go_quiet (fail)
      cases bb
      · go_wp2_with fail
        go_roundw
        case rel => exact ⟨k + 1, by omega, by go_num, hbw.drewN _, by rw [HT.out, HQ.out]; rfl⟩
        case measure => simp [intOf]; omega
      · go_wp2_with fail
        go_ret
        exact ⟨_, rfl, by rw [HM.out (by trivial)]; simp, hna.trans (hbw.drewN _)⟩
    · go_wp2_with fail
      go_ret
      refine ⟨_, rfl, ?_, hna.trans hbw⟩
      have := HQ.out
      rw [List.take_of_length_le (by have := HN.out; omega)] at this
      rw [this]; rfl
theorem w_ContB (lo : Nat) (A : Option Addr) (c : Nat) (l : List Ban) (f t : ByteArray) (w : World) (hR : Rd w lo A 2 encBan l) (hl : l.length ≤ 65536) :
    Calls Tryz.prog 188 #[.slice A l.length c, .agg #[.string f, .string t]] w fun e w' => e = .returned (.bool (bannedB l f t)) ∧ Nx w w' := by
  have HI := hide (fun W hx => w_IdxB lo A c l f t W hx hl)
  have HR := hide (hR.nx ((Nx.refl w).alloc (.cells #[.string f, .string t] 114)))
  clear hR
  generalize l.length = n at *
  generalize bannedB l f t = z at *
  go_enter Tryz.func188, Tryz.ntmps188
  go_wp2_with (go_at_call 240; refine (HI.out _ HR.out).mono ?_; rintro e w2 ⟨r, rfl, hr, hn2⟩)
  go_ret
  exact ⟨rfl, ((Nx.refl w).alloc _).trans hn2⟩
theorem w_bannedQ (lo : Nat) (A B C : Option Addr) (n1 n2 ca cb cc : Nat) (l : List Ban) (f t : ByteArray) (w : World) (hR : Rd w lo C 2 encBan l) (hl : l.length ≤ 65536) :
    Calls Tryz.prog 129 #[.agg #[.slice A n1 ca, .slice B n2 cb, .slice C l.length cc], .string f, .string t] w fun e w' => e = .returned (.bool (bannedB l f t)) ∧ Nx w w' := by
  have HI := hide (fun W hx => w_ContB lo C cc l f t W hx hl)
  have HR := hide (hR.nx ((Nx.refl w).alloc (.cells #[.slice A n1 ca, .slice B n2 cb, .slice C l.length cc] 30)))
  clear hR
  generalize l.length = n at *
  generalize bannedB l f t = z at *
  go_enter Tryz.func129, Tryz.ntmps129
  go_wp2_with (go_at_call 188; refine (HI.out _ HR.out).mono ?_; rintro e w2 ⟨rfl, hn2⟩)
  go_ret
  exact ⟨rfl, ((Nx.refl w).alloc _).trans hn2⟩
end Go.Proofs.YtmpnilliichpfaaGreatDoor
