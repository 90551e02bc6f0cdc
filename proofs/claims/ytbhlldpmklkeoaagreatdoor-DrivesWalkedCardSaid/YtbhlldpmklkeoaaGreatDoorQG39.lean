/- When one comes out of each of some arcs: the reference. -/
import Derived.Test.YtbhlldpmklkeoaaGreatDoorQAtR
import Derived.Test.YtbhlldpmklkeoaaGreatDoorQG37
import Derived.Test.YtbhlldpmklkeoaaGreatDoorQArcT
import Derived.Deep.RegionHeld3
import Derived.Test.YtbhlldpmklkeoaaGreatDoorQG33
import Derived.Test.YtbhlldpmklkeoaaGreatDoorQG8
import Derived.Test.YtbhlldpmklkeoaaGreatDoorQG12
import Derived.Laws.StructEq
import Derived.Deep.DeepCutAuto
namespace Go.Proofs.YtbhlldpmklkeoaaGreatDoor
open Go.RowKit

def walkU (rs : List Arc) (at_ : Int) (l : List ByteArray) : List Int := match walkO rs at_ l with | some r => at_ :: r | none => []
set_option maxRecDepth 100000 in
set_option maxHeartbeats 8000000 in
theorem w_WalkOf (lo : Nat) (A B C : Option Addr) (nn nb ca cb cc : Nat) (rs : List Arc) (lo2 : Nat) (D : Option Addr) (cd : Nat) (l : List ByteArray) (at_ : Int) (w : World)
    (hA : RdArcs w lo B rs) (hal : rs.length ≤ 400) (hKO : ∀ x ∈ rs, KOk x.knots) (hR : Rd w lo2 D 1 encS l) (hl : l.length ≤ 1000) (hOK : ∀ k ∈ l, 0 ≤ arcI rs k) (hab : 0 ≤ at_ ∧ at_ ≤ 345686399999) :
    Calls Tryz.prog 22 #[.agg #[.slice A nn ca, .slice B rs.length cb, .slice C nb cc], .slice D l.length cd, .int .i64 at_] w fun e w' => ∃ (Z : Option Addr) (cz : Nat), e = .returned (.tuple #[.slice Z (walkU rs at_ l).length cz, .bool (walkO rs at_ l).isSome]) ∧ Rd w' 0 Z 1 encI (walkU rs at_ l) ∧ Nx w w' := by
  obtain ⟨wa, hwa⟩ : ∃ wa, wa = w.alloc (.cells #[.slice A nn ca, .slice B rs.length cb, .slice C nb cc] 30) := ⟨_, rfl⟩
  have hna : Nx w wa := hwa ▸ (Nx.refl w).alloc _
  have hgw : w.heap.size < wa.heap.size := by rw [hwa]; simp
  have b0 : wa.cell? ⟨w.heap.size, 0, none⟩ = some (.slice A nn ca) := by rw [hwa]; go_simp
  have b1 : wa.cell? ⟨w.heap.size, 1, none⟩ = some (.slice B rs.length cb) := by rw [hwa]; go_simp
  have b2 : wa.cell? ⟨w.heap.size, 2, none⟩ = some (.slice C nb cc) := by rw [hwa]; go_simp
  have HAR := hide (fun s W (hx : Nx wa W) => w_ArcAt lo A B C nn nb ca cb cc rs s W ((hA.1.nx hna).nx hx) (by omega))
  have HRA := hide (hA.nx hna)
  have HRL := hide (hR.nx hna)
  have HKO := hide hKO
  have HOK2 := hide hOK
  have HU := hide (show walkU rs at_ l = match walkO rs at_ l with | some r => at_ :: r | none => [] from rfl)
  clear hA hR hKO hOK
  generalize walkU rs at_ l = U at *
  obtain ⟨O, hO⟩ : ∃ O, O = walkO rs at_ l := ⟨_, rfl⟩
  rw [← hO]
  rw [← hO] at HU
  have HO := hide hO
  clear hO
  generalize hn : l.length = n at *
  generalize hm : rs.length = m at *
  have HN := hide hn
  have HM := hide hm
  clear hn hm
  go_enter Tryz.func22, Tryz.ntmps22
  go_wp2_with fail
  rw [← hwa]
  have HWA := hide hwa
  clear hwa
  have HGW := hide (show w.heap.size ≤ wa.heap.size by omega)
  have hsz : wa.heap.size = w.heap.size + 1 := by rw [HWA.out]; simp
  have hown0 : ∀ q, wa.heap.size = q → (wa.alloc (.cells #[.int .i64 at_] 3)).ownsRow wa.heap.size 3 1 (.slice (some ⟨q, 0, none⟩) 1 1) ([at_] : List Int).length (([at_] : List Int).flatMap encI) := fun q e => e ▸ own_lit (xs := [at_]) encI_len (hnew rfl) (Nat.le_refl _) rfl rfl (Nat.le_refl _) (by unfold maxLen; omega)
  have HO0 := hide (hown0 _ hsz)
  clear hown0 hsz
  generalize hgg : w.heap.size = g at *
  have HGG := hide hgg
  clear hgg
  go_loopw [2, 8, 15] (fun va vo i wr => ∃ (k : Nat) (a : Int) (zs : List Int), k ≤ n ∧ va = .int .i64 a ∧ i = .int .i64 k ∧ zs.length ≤ k + 1 ∧ wr.ownsRow wa.heap.size 3 1 vo zs.length (zs.flatMap encI) ∧ Nx wa wr ∧ 0 ≤ a ∧ a ≤ 345686399999 ∧ O.map (at_ :: ·) = (walkO rs a (l.drop k)).map (zs ++ ·)) (fun _ _ i _ => n - (intOf i).toNat)
  case atStart => exact ⟨0, at_, [at_], Nat.zero_le _, rfl, rfl, Nat.le_refl _, HO0.out, (Nx.refl wa).alloc _, hab.1, hab.2, by rw [HO.out]; rfl⟩
  case round =>
    obtain ⟨k, a, zs, hk, rfl, rfl, hzl, hown, hbw, ha1, ha2, hq⟩ := hrel
    have HQ := hide hq
    have HOW := hide hown
    clear hq
    by_cases hlt : k < n
    · have hlt' : k < l.length := by have := HN.out; omega
      have HD := hide (walk_drop rs l k hlt' a)
      obtain ⟨b, off, rfl, _, hb, hbr, hc⟩ := HRL.out.open_ hbw (by have := HN.out; omega)
      have c0 : wr.cell? ⟨b, off + k, none⟩ = some (.string l[k]) := by have := hc k hlt' 0 _ rfl; simpa using this
      obtain ⟨i, hi, ei, hai⟩ := arc_found (HOK2.out l[k] (List.getElem_mem hlt'))
      have hao : outAt rs a l[k] = a + timeI rs[i].knots a := by unfold outAt; rw [hai hi]
      have hARs := fun W hx => HAR.out l[k] W hx
      rw [ei] at hARs
      have HARs := hide hARs
      rw [hao] at HD
      clear hc hai hao ei hARs
      generalize l[k] = s at *
      have him : i < m := by have := HM.out; omega
      have gg0 := nx_cell hbw hgw b0
      have gg1 := nx_cell hbw hgw b1
      have gg2 := nx_cell hbw hgw b2
      have hgr := Nat.lt_of_lt_of_le hgw hbw.sz
      obtain ⟨hKx, hLx, _⟩ := HRA.out.2 rs[i] (List.getElem_mem hi)
      have hko := HKO.out rs[i] (List.getElem_mem hi)
      obtain ⟨ba, offa, rfl, _, hba, hbar, hca⟩ := HRA.out.1.open_ hbw (by omega)
      have a0 : wr.cell? ⟨ba, offa + i * 5, none⟩ = some (.string rs[i].key) := hca i hi 0 _ rfl
      have a1 : wr.cell? ⟨ba, offa + i * 5 + 1, none⟩ = some (.string rs[i].from_) := hca i hi 1 _ rfl
      have a2 : wr.cell? ⟨ba, offa + i * 5 + 2, none⟩ = some (.string rs[i].to_) := hca i hi 2 _ rfl
      have a3 : wr.cell? ⟨ba, offa + i * 5 + 3, none⟩ = some (.int .i64 rs[i].long) := hca i hi 3 _ rfl
      have a4 : wr.cell? ⟨ba, offa + i * 5 + 4, none⟩ = some (.slice rs[i].ka rs[i].knots.length rs[i].kc) := hca i hi 4 _ rfl
      have htb := time_bd hko a
      have HTI := hide (fun W (hx : Nx wr W) => w_ArcTime lo rs[i] a W ((hKx.nx hbw).nx hx) hko ⟨ha1, ha2⟩)
      clear hca hKx hLx hko
      generalize timeI rs[i].knots a = z at *
      generalize rs[i].key = x0 at *
      generalize rs[i].from_ = x1 at *
      generalize rs[i].to_ = x2 at *
      generalize rs[i].long = x3 at *
      generalize rs[i].knots.length = x4 at *
      generalize rs[i].ka = x5 at *
      generalize rs[i].kc = x6 at *
      have i1 : (0 : Int) ≤ (i : Int) := by omega
      have i2 : (i : Int) < (m : Int) := by omega
      have q1 : IntKind.i64.wrap (a + z) = a + z := IntWalk.i64_in _ (by omega)
      obtain ⟨Zo, co, eo, _, _⟩ := Rd.of_own encI_len rfl hown
      subst eo
      clear hown
      go_upto_region 5 with fail
      go_cut [2] (fun v wx => v = .int .i64 (a + z) ∧ Nx wr wx)
      case first =>
        go_region_held3 (fun w' => w'.cell? ⟨g, 0, none⟩ = some (.slice A nn ca) ∧ w'.cell? ⟨g, 1, none⟩ = some (.slice (some ⟨ba, offa, none⟩) m cb) ∧ w'.cell? ⟨g, 2, none⟩ = some (.slice C nb cc) ∧ w'.cell? ⟨ba, offa + i * 5, none⟩ = some (.string x0) ∧ w'.cell? ⟨ba, offa + i * 5 + 1, none⟩ = some (.string x1) ∧ w'.cell? ⟨ba, offa + i * 5 + 2, none⟩ = some (.string x2) ∧ w'.cell? ⟨ba, offa + i * 5 + 3, none⟩ = some (.int .i64 x3) ∧ w'.cell? ⟨ba, offa + i * 5 + 4, none⟩ = some (.slice x5 x4 x6))
          (first | (go_split_ands; exact ⟨nx_cell hn5 (Nat.lt_of_lt_of_le hgr hn4.sz) ‹_›, nx_cell hn5 (Nat.lt_of_lt_of_le hgr hn4.sz) ‹_›, nx_cell hn5 (Nat.lt_of_lt_of_le hgr hn4.sz) ‹_›, nx_cell hn5 (Nat.lt_of_lt_of_le hbar hn4.sz) ‹_›, nx_cell hn5 (Nat.lt_of_lt_of_le hbar hn4.sz) ‹_›, nx_cell hn5 (Nat.lt_of_lt_of_le hbar hn4.sz) ‹_›, nx_cell hn5 (Nat.lt_of_lt_of_le hbar hn4.sz) ‹_›, nx_cell hn5 (Nat.lt_of_lt_of_le hbar hn4.sz) ‹_›⟩) | (go_split_ands; exact ⟨nx_cell hn4 hgr ‹_›, nx_cell hn4 hgr ‹_›, nx_cell hn4 hgr ‹_›, nx_cell hn4 hbar ‹_›, nx_cell hn4 hbar ‹_›, nx_cell hn4 hbar ‹_›, nx_cell hn4 hbar ‹_›, nx_cell hn4 hbar ‹_›⟩) | go_keep)
          (first
            | (go_at_call 14; refine (HTI.out _ ((Nx.refl wr).drew.trans hn4)).mono ?_; rintro e w5 ⟨rfl, hn5⟩)
            | (go_at_call 52; refine (HARs.out _ hbw.drew).mono ?_; rintro e w4 ⟨rfl, hn4⟩))
        go_wp2
        go_meet
        exact ⟨rfl, ((Nx.refl wr).drew.trans hn4).trans hn5⟩
      case rest =>
        obtain ⟨rfl, hx⟩ := hcut
        clear a0 a1 a2 a3 a4
        by_cases hend : 345686400000 ≤ a + z
        · have te : decide (345686400000 ≤ a + z) = true := decide_eq_true hend
          have hON : O = none := by
            have h1 := HQ.out
            rw [HD.out, if_pos hend] at h1
            cases h : O with
            | none => rfl
            | some r => rw [h] at h1; cases h1
          clear hend
          go_wp2_with fail
          go_ret2
          have hU := HU.out
          rw [hON] at hU
          refine ⟨none, 0, ?_, ?_, hna.trans (hbw.trans hx)⟩
          · rw [hU, hON]; rfl
          · rw [hU]; exact Rd.nil
        · have te : decide (345686400000 ≤ a + z) = false := decide_eq_false hend
          have hD2 := HD.out.trans (if_neg hend)
          have HOX := hide (own_nx HOW.out hx)
          have hsz := (hbw.trans hx).sz
          go_wp2_with (at_builtin; refine wpApp rfl _ _ _ rfl el_Int encI encI_len encI_one (by omega) (by omega) wa.heap.size _ zs rfl (HOX.out.alloc _) _ (a + z) _ rfl (hnew rfl) rfl (by omega) (by simp; omega) ?_; intro v5 w5 hown5 hg5)
          go_roundw
          case rel =>
            refine ⟨k + 1, a + z, zs ++ [a + z], by omega, rfl, by go_num, by rw [List.length_append]; show zs.length + 1 ≤ _; omega, hown5, ((hbw.trans hx).alloc _).grown hg5 (own_blk_lt HOX.out), by omega, by omega, ?_⟩
            rw [HQ.out, hD2, Option.map_map]
            congr 1
            funext r
            show zs ++ ((a + z) :: r) = (zs ++ [a + z]) ++ r
            rw [List.append_assoc]; rfl
          case measure => simp [intOf]; omega
    · have hL : U = zs ∧ O.isSome = true := by
        have h1 := HQ.out
        rw [List.drop_of_length_le (by have := HN.out; omega)] at h1
        cases h : O with
        | none => rw [h] at h1; cases h1
        | some r =>
          rw [h] at h1
          have h2 : at_ :: r = zs := by
            have h3 : some (at_ :: r) = some (zs ++ []) := h1
            injection h3 with h3
            rw [h3, List.append_nil]
          have hU := HU.out
          rw [h] at hU
          exact ⟨hU.trans h2, rfl⟩
      obtain ⟨Zo, co, eo, hRz, _⟩ := Rd.of_own encI_len rfl hown
      subst eo
      have HRZ := hide hRz
      clear hown hRz
      go_wp2_with fail
      go_ret2
      obtain ⟨rfl, hF0⟩ := hL
      exact ⟨Zo, co, by rw [hF0]; rfl, HRZ.out.low (Nat.zero_le _), hna.trans hbw⟩
end Go.Proofs.YtbhlldpmklkeoaaGreatDoor
/- Is a ban among the bans: the reference. -/
namespace Go.Proofs.YtbhlldpmklkeoaaGreatDoor
open Go.RowKit

theorem gd_Ban : Tryz.prog.eqGuardType Tryz.prog.depth 70 = false := by kernel_rfl
theorem sin_Ban (d : Nat) (x y a b : ByteArray) (w : World) : (Op.equalIn (d + 2) 70 (.agg #[.string x, .string y]) (.agg #[.string a, .string b])).run Tryz.prog w = .ok (x.toList == a.toList && y.toList == b.toList) w := by
  have u3 := Tryz.underlying9
  have a3 := Tryz.isAgg9
  have z3 := Tryz.sizeOf9
  have hS : Tryz.prog.underlying 70 = some (.struct (Tryz.prog.fieldsOf 70)) := by kernel_rfl
  have hp : Tryz.prog.stoodInHeld 70 = false := by kernel_rfl
  rw [run_equalIn_agg w (d + 1) 70 _ _ hS hp]
  simp only [Program.fieldsOf, Tryz.underlying70]
  go_simp
  cases h1 : x.toList == a.toList <;> cases h2 : y.toList == b.toList <;> simp_all
theorem eql_Ban (x y a b : ByteArray) (w : World) : (binOp .eql 70 (.agg #[.string x, .string y]) (.agg #[.string a, .string b])).run Tryz.prog w = .ok (.bool (x.toList == a.toList && y.toList == b.toList)) w := by
  rw [run_eql_struct, show (10000 : Nat) = 9998 + 2 from rfl, sin_Ban]; rfl
attribute [local go_sem ↓] eql_Ban

set_option maxRecDepth 100000 in
set_option maxHeartbeats 2000000 in
theorem w_IdxB (lo : Nat) (A : Option Addr) (c : Nat) (l : List Ban) (f t : ByteArray) (w : World) (hR : Rd w lo A 2 encBan l) (hl : l.length ≤ 65536) :
    Calls Tryz.prog 100 #[.slice A l.length c, .agg #[.string f, .string t]] w fun e w' => ∃ r : Int, e = .returned (.int .i64 r) ∧ decide (0 ≤ r) = bannedB l f t ∧ Nx w w' := by
  obtain ⟨wa, hwa⟩ : ∃ wa, wa = w.alloc (.cells #[.string f, .string t] 70) := ⟨_, rfl⟩
  have hna : Nx w wa := hwa ▸ (Nx.refl w).alloc _
  have hgw : w.heap.size < wa.heap.size := by rw [hwa]; simp
  have x0 : wa.cell? ⟨w.heap.size, 0, none⟩ = some (.string f) := by rw [hwa]; go_simp
  have x1 : wa.cell? ⟨w.heap.size, 1, none⟩ = some (.string t) := by rw [hwa]; go_simp
  have HR := hide (hR.nx hna)
  clear hR
  generalize hn : l.length = n at *
  have HN := hide hn
  clear hn
  go_enter Tryz.func100, Tryz.ntmps100
  go_wp2_with fail
  rw [← hwa]
  have HWA := hide hwa
  clear hwa
  generalize w.heap.size = g at *
  go_loopw [5, 8] (fun _ i wr => ∃ k : Nat, k ≤ n ∧ i = .int .i64 k ∧ Nx wa wr ∧ bannedB (l.take k) f t = false) (fun _ i _ => n - (intOf i).toNat)
  case atStart => exact ⟨0, Nat.zero_le _, rfl, Nx.refl _, rfl⟩
  case round =>
    obtain ⟨k, hk, rfl, hbw, hq⟩ := hrel
    have HQ := hide hq
    clear hq
    by_cases hlt : k < n
    · have hlt' : k < l.length := by have := HN.out; omega
      have y0 := nx_cell hbw hgw x0
      have y1 := nx_cell hbw hgw x1
      obtain ⟨b, off, rfl, _, hb, hbr, hc⟩ := HR.out.open_ hbw (by omega)
      have c0 : wr.cell? ⟨b, off + k * 2, none⟩ = some (.string l[k].from_) := hc k hlt' 0 _ rfl
      have c1 : wr.cell? ⟨b, off + k * 2 + 1, none⟩ = some (.string l[k].to_) := hc k hlt' 1 _ rfl
      have k1 : (k : Int) < (n : Int) := by omega
      have k2 : (0 : Int) ≤ (k : Int) := by omega
      have HT := hide (show bannedB (l.take (k + 1)) f t = (bannedB (l.take k) f t || (decide (l[k].from_ = f) && decide (l[k].to_ = t))) by
        unfold bannedB
        rw [List.take_succ_eq_append_getElem hlt', List.any_append]; simp)
      have HM := hide (show (decide (l[k].from_ = f) && decide (l[k].to_ = t)) = true → bannedB l f t = true from fun h => by
        unfold bannedB
        exact List.any_eq_true.2 ⟨l[k], List.getElem_mem hlt', h⟩)
      clear hc
      generalize l[k] = x at *
      have he : (f.toList == x.from_.toList && t.toList == x.to_.toList) = (decide (x.from_ = f) && decide (x.to_ = t)) := by
        rw [eqS_iff, eqS_iff]
        congr 1
        · exact decide_eq_decide.2 eq_comm
        · exact decide_eq_decide.2 eq_comm
      generalize hbb : (decide (x.from_ = f) && decide (x.to_ = t)) = bb at *
      go_upto_region 4 with fail
      go_quiet (fail)
      cases bb
      · go_wp2_with fail
        go_roundw
        case rel => exact ⟨k + 1, by omega, by go_num, hbw.drewN _, by rw [HT.out, HQ.out]; rfl⟩
        case measure => simp [intOf]; omega
      · go_wp2_with fail
        go_ret
        exact ⟨_, rfl, by rw [HM.out (by trivial)]; simp, hna.trans (hbw.drewN _)⟩
    · go_wp2_with fail
      go_ret
      refine ⟨_, rfl, ?_, hna.trans hbw⟩
      have := HQ.out
      rw [List.take_of_length_le (by have := HN.out; omega)] at this
      rw [this]; rfl
theorem w_ContB (lo : Nat) (A : Option Addr) (c : Nat) (l : List Ban) (f t : ByteArray) (w : World) (hR : Rd w lo A 2 encBan l) (hl : l.length ≤ 65536) :
    Calls Tryz.prog 76 #[.slice A l.length c, .agg #[.string f, .string t]] w fun e w' => e = .returned (.bool (bannedB l f t)) ∧ Nx w w' := by
  have HI := hide (fun W hx => w_IdxB lo A c l f t W hx hl)
  have HR := hide (hR.nx ((Nx.refl w).alloc (.cells #[.string f, .string t] 70)))
  clear hR
  generalize l.length = n at *
  generalize bannedB l f t = z at *
  go_enter Tryz.func76, Tryz.ntmps76
  go_wp2_with (go_at_call 100; refine (HI.out _ HR.out).mono ?_; rintro e w2 ⟨r, rfl, hr, hn2⟩)
  go_ret
  exact ⟨rfl, ((Nx.refl w).alloc _).trans hn2⟩
theorem w_bannedQ (lo : Nat) (A B C : Option Addr) (n1 n2 ca cb cc : Nat) (l : List Ban) (f t : ByteArray) (w : World) (hR : Rd w lo C 2 encBan l) (hl : l.length ≤ 65536) :
    Calls Tryz.prog 54 #[.agg #[.slice A n1 ca, .slice B n2 cb, .slice C l.length cc], .string f, .string t] w fun e w' => e = .returned (.bool (bannedB l f t)) ∧ Nx w w' := by
  have HI := hide (fun W hx => w_ContB lo C cc l f t W hx hl)
  have HR := hide (hR.nx ((Nx.refl w).alloc (.cells #[.slice A n1 ca, .slice B n2 cb, .slice C l.length cc] 30)))
  clear hR
  generalize l.length = n at *
  generalize bannedB l f t = z at *
  go_enter Tryz.func54, Tryz.ntmps54
  go_wp2_with (go_at_call 76; refine (HI.out _ HR.out).mono ?_; rintro e w2 ⟨rfl, hn2⟩)
  go_ret
  exact ⟨rfl, ((Nx.refl w).alloc _).trans hn2⟩
end Go.Proofs.YtbhlldpmklkeoaaGreatDoor
/- Arcs one after the other: the reference. -/
namespace Go.Proofs.YtbhlldpmklkeoaaGreatDoor
open Go.RowKit

set_option maxRecDepth 100000 in
set_option maxHeartbeats 4000000 in
theorem w_WalkFault (lo : Nat) (A B C : Option Addr) (nn ca cb cc : Nat) (rs : List Arc) (bs : List Ban) (fr : ByteArray) (lo2 : Nat) (D : Option Addr) (cd : Nat) (l : List ByteArray) (w : World)
    (hA : RdArcs w lo B rs) (hal : rs.length ≤ 400) (hB : Rd w lo C 2 encBan bs) (hbl : bs.length ≤ 400) (hR : Rd w lo2 D 1 encS l) (hl : l.length ≤ 1000) :
    Calls Tryz.prog 19 #[.agg #[.slice A nn ca, .slice B rs.length cb, .slice C bs.length cc], .string fr, .slice D l.length cd] w fun e w' => e = .returned (.int .i64 (chainF rs bs fr none l)) ∧ Nx w w' := by
  obtain ⟨wa, hwa⟩ : ∃ wa, wa = w.alloc (.cells #[.slice A nn ca, .slice B rs.length cb, .slice C bs.length cc] 30) := ⟨_, rfl⟩
  have hna : Nx w wa := hwa ▸ (Nx.refl w).alloc _
  have hgw : w.heap.size < wa.heap.size := by rw [hwa]; simp
  have b0 : wa.cell? ⟨w.heap.size, 0, none⟩ = some (.slice A nn ca) := by rw [hwa]; go_simp
  have b1 : wa.cell? ⟨w.heap.size, 1, none⟩ = some (.slice B rs.length cb) := by rw [hwa]; go_simp
  have b2 : wa.cell? ⟨w.heap.size, 2, none⟩ = some (.slice C bs.length cc) := by rw [hwa]; go_simp
  have HAR := hide (fun s W (hx : Nx wa W) => w_ArcAt lo A B C nn bs.length ca cb cc rs s W ((hA.1.nx hna).nx hx) (by omega))
  have HBN := hide (fun f t W (hx : Nx wa W) => w_bannedQ lo A B C nn rs.length ca cb cc bs f t W ((hB.nx hna).nx hx) (by omega))
  have HRA := hide (hA.nx hna).1
  have HR := hide (hR.nx hna)
  clear hA hB hR
  generalize hn : l.length = n at *
  generalize hm : rs.length = m at *
  have HN := hide hn
  have HM := hide hm
  clear hn hm
  obtain ⟨V, hV⟩ : ∃ V, V = chainF rs bs fr none l := ⟨_, rfl⟩
  rw [← hV]
  have HV := hide hV
  clear hV
  have tl : decide ((n : Int) > 2000) = false := decide_eq_false (by omega)
  have tl2 : decide ((2000 : Int) < (n : Int)) = false := decide_eq_false (by omega)
  go_enter Tryz.func19, Tryz.ntmps19
  go_wp2_with fail
  rw [← hwa]
  have HWA := hide hwa
  clear hwa
  generalize w.heap.size = g at *
  go_wp2_with fail
  go_loopw [7, 17] (fun vf i wr => ∃ (k : Nat) (f : ByteArray), k ≤ n ∧ vf = .string f ∧ i = .int .i64 k ∧ Nx wa wr ∧ V = chainF rs bs f (prevOf l k) (l.drop k)) (fun _ i _ => n - (intOf i).toNat)
  case atStart => exact ⟨0, fr, Nat.zero_le _, rfl, rfl, Nx.refl _, HV.out⟩
  case round =>
    obtain ⟨k, f, hk, rfl, rfl, hbw, hq⟩ := hrel
    have HQ := hide hq
    clear hq
    by_cases hlt : k < n
    · have hlt' : k < l.length := by have := HN.out; omega
      have HD := hide (chain_drop rs bs l f k hlt')
      obtain ⟨b, off, rfl, _, hb, hbr, hc⟩ := HR.out.open_ hbw (by have := HN.out; omega)
      have c0 : wr.cell? ⟨b, off + k, none⟩ = some (.string l[k]) := by have := hc k hlt' 0 _ rfl; simpa using this
      have HPC := hide (fun h0 : 0 < k => (show wr.cell? ⟨b, off + (k - 1), none⟩ = some (.string (l[k - 1]'(by omega))) by have := hc (k - 1) (by omega) 0 _ rfl; simpa using this))
      have HPV := hide (fun h0 : 0 < k => (show prevBan bs (prevOf l k) l[k] = bannedB bs (l[k - 1]'(by omega)) l[k] by rw [prevOf_pos _ k h0 (by omega)]; rfl))
      have HP0 := hide (fun h0 : k = 0 => (show prevBan bs (prevOf l k) l[k] = false by rw [show prevOf l k = none by subst h0; rfl]; rfl))
      have bb0 := nx_cell hbw hgw b0
      have bb1 := nx_cell hbw hgw b1
      have bb2 := nx_cell hbw hgw b2
      clear hc
      generalize l[k] = s at *
      generalize prevBan bs (prevOf l k) s = pb at *
      by_cases hf : arcI rs s < 0
      · have tf : decide (arcI rs s < 0) = true := decide_eq_true hf
        have HG := hide (HD.out.trans (if_pos hf))
        clear hf
        go_wp2_with (go_at_call 52; refine (HAR.out s _ hbw).mono ?_; rintro e w2 ⟨rfl, hn2⟩)
        go_ret
        exact ⟨ret_int (by rw [HQ.out, HG.out]), hna.trans (hbw.trans hn2)⟩
      obtain ⟨i, hi, ei, hai⟩ := arc_found (Int.not_lt.1 hf)
      have ha := hai hi
      have HG := hide (HD.out.trans (if_neg hf))
      rw [ha] at HG
      have HARs := hide (fun W hx => HAR.out s W hx)
      rw [ei] at HARs
      clear hf ei HD hai ha
      have him : i < m := by have := HM.out; omega
      have t0 : decide ((i : Int) < 0) = false := decide_eq_false (by omega)
      go_wp2_with fail
      refine (HARs.out _ hbw).mono ?_
      rintro e w2 ⟨rfl, hn2⟩
      have hnx2 := hbw.trans hn2
      have gg0 := nx_cell hnx2 hgw b0
      have gg1 := nx_cell hnx2 hgw b1
      have gg2 := nx_cell hnx2 hgw b2
      obtain ⟨ba, offa, rfl, _, hba, hbar, hca⟩ := HRA.out.open_ hnx2 (by omega)
      have a1 : w2.cell? ⟨ba, offa + i * 5 + 1, none⟩ = some (.string rs[i].from_) := hca i hi 1 _ rfl
      have a2 : w2.cell? ⟨ba, offa + i * 5 + 2, none⟩ = some (.string rs[i].to_) := hca i hi 2 _ rfl
      have HPC2 := hide (fun h0 : 0 < k => nx_cell hn2 hbr (HPC.out h0))
      have hb2 := Nat.lt_of_lt_of_le hbr hn2.sz
      have hg2 := Nat.lt_of_lt_of_le hgw hnx2.sz
      clear hca c0 HPC bb0 bb1 bb2
      generalize rs[i].from_ = xf at *
      generalize rs[i].to_ = xt at *
      have i1 : (0 : Int) ≤ (i : Int) := by omega
      have i2 : (i : Int) < (m : Int) := by omega
      go_upto_region 10 with fail
      go_cut [28] (fun v wx => ∃ bb : Bool, v = .bool bb ∧ bb = decide (f ≠ ByteArray.empty ∧ xf ≠ f) ∧ w2 = wx)
      case first =>
        by_cases hc1 : f = ByteArray.empty
        · have e1 : f.toList = [] := (emptyL f).2 hc1
          have HC := hide hc1
          clear hc1
          go_wp2_with fail
          go_meet
          exact ⟨_, rfl, by rw [decide_eq_false (fun h => h.1 HC.out)], rfl⟩
        · have e1 : ¬ f.toList = [] := fun h => hc1 ((emptyL f).1 h)
          have HC := hide hc1
          clear hc1
          by_cases hc2 : xf = f
          · have e2 : (xf.toList == f.toList) = true := by rw [eqS_iff]; exact decide_eq_true hc2
            have HC2 := hide hc2
            clear hc2
            go_wp2_with fail
            go_meet
            exact ⟨_, rfl, by rw [decide_eq_false (fun h => h.2 HC2.out)], rfl⟩
          · have e2 : (xf.toList == f.toList) = false := by rw [eqS_iff]; exact decide_eq_false hc2
            have HC2 := hide hc2
            clear hc2
            go_wp2_with fail
            go_meet
            exact ⟨_, rfl, by rw [decide_eq_true ⟨HC.out, HC2.out⟩]; first | rfl | simp [e1], rfl⟩
      case rest =>
        obtain ⟨bb, rfl, hbb, rfl⟩ := hcut
        have HBB := hide hbb
        clear hbb
        rcases Bool.eq_false_or_eq_true bb with rfl | rfl
        · have HG2 := hide (HG.out.trans (if_pos (of_decide_eq_true HBB.out.symm)))
          go_wp2_with fail
          go_ret
          exact ⟨ret_int (by rw [HQ.out, HG2.out]), hna.trans hnx2⟩
        · have HG2 := hide (HG.out.trans (if_neg (of_decide_eq_false HBB.out.symm)))
          clear HG HBB
          go_upto_region 12 with fail
          go_cut [41] (fun v wx => v = .bool pb ∧ Nx w2 wx)
          case first =>
            clear a1 a2
            by_cases hk0 : 0 < k
            · have hp := HPC2.out hk0
              have hpv := HPV.out hk0
              generalize (l[k - 1]'(by omega)) = p0 at *
              have k1 : IntKind.i64.wrap ((k : Int) - 1) = (k : Int) - 1 := IntWalk.i64_in _ (by omega)
              have k2 : (1 : Int) ≤ (k : Int) := by omega
              have k3 : ((k : Int) - 1).toNat = k - 1 := by omega
              have k4 : (k : Int) - 1 < (n : Int) := by omega
              have kp : decide ((k : Int) > 0) = true := decide_eq_true (by omega)
              have kp2 : decide ((0 : Int) < (k : Int)) = true := decide_eq_true (by omega)
              have hB2 := HBN.out p0 s _ hnx2.drew
              rw [← hpv] at hB2
              have HB2 := hide hB2
              clear hB2 hpv
              go_region_held3 (fun w' => w'.cell? ⟨g, 0, none⟩ = some (.slice A nn ca) ∧ w'.cell? ⟨g, 1, none⟩ = some (.slice (some ⟨ba, offa, none⟩) m cb) ∧ w'.cell? ⟨g, 2, none⟩ = some (.slice C bs.length cc) ∧ w'.cell? ⟨b, off + (k - 1), none⟩ = some (.string p0))
                (first | (go_split_ands; exact ⟨nx_cell hn4 hg2 ‹_›, nx_cell hn4 hg2 ‹_›, nx_cell hn4 hg2 ‹_›, nx_cell hn4 hb2 ‹_›⟩) | go_keep)
                (first | (go_at_call 54; refine HB2.out.mono ?_; rintro e w4 ⟨rfl, hn4⟩))
              go_wp2
              go_meet
              exact ⟨rfl, (Nx.refl w2).drew.trans hn4⟩
            · have kp : decide ((k : Int) > 0) = false := decide_eq_false (by omega)
              have kp2 : decide ((0 : Int) < (k : Int)) = false := decide_eq_false (by omega)
              have hb0 := HP0.out (by omega)
              go_quiet (fail)
              go_wp2
              go_meet
              exact ⟨by rw [hb0], (Nx.refl _).drewN _⟩
          case rest =>
            obtain ⟨rfl, hx⟩ := hcut
            have e2 := nx_cell hx hbar a2
            have h1 := nx_cell hx hg2 gg1
            clear a1 a2 gg0 gg1 gg2
            cases hpb : pb
            · rw [hpb, if_neg (by simp)] at HG2
              go_wp2_with fail
              go_roundw
              case rel => exact ⟨k + 1, xt, by omega, rfl, by go_num, hnx2.trans hx, by rw [HQ.out, HG2.out]⟩
              case measure => simp [intOf]; omega
            · rw [hpb, if_pos rfl] at HG2
              go_wp2_with fail
              go_ret
              exact ⟨ret_int (by rw [HQ.out, HG2.out]), hna.trans (hnx2.trans hx)⟩
    · go_wp2
      go_ret
      exact ⟨ret_int (by rw [HQ.out, List.drop_of_length_le (by have := HN.out; omega)]; rfl), hna.trans hbw⟩
end Go.Proofs.YtbhlldpmklkeoaaGreatDoor
