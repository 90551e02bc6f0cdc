/- The stream's drives. -/
import Derived.Test.YtmpnilliichpfaaGreatDoorQG17
import Derived.Test.YtmpnilliichpfaaGreatDoorQG8
import Derived.Test.YtmpnilliichpfaaGreatDoorQG11
import Derived.Deep.RegionHeld3
import Derived.Deep.AppendLies
import Derived.Deep.RegionWith
import Derived.Test.YtmpnilliichpfaaGreatDoorQG15
import Derived.Deep.RegionHeld
import Derived.Deep.Onto
import Derived.Deep.LoopGhost
import Derived.Deep.DeepCutAuto
import Derived.Test.YtmpnilliichpfaaGreatDoorQNewW
import Derived.Test.YtmpnilliichpfaaGreatDoorQCheckR
import Derived.Test.YtmpnilliichpfaaGreatDoorQG1
namespace Go.Proofs.YtmpnilliichpfaaGreatDoor
open Go.RowKit

theorem el_SD : ElemOf Tryz.prog 32 9 1 16 := ElemOf.mk' (z := .string ByteArray.empty) Tryz.underlying32 (by kernel_rfl) rfl
theorem idxP_mem {α : Type} (p : α → Bool) : ∀ (l : List α) (j : Nat), (∃ a ∈ l, p a = true) → 0 ≤ idxP p l j
  | [], _, h => by obtain ⟨_, h, _⟩ := h; exact absurd h (by simp)
  | n :: l, j, h => by
    unfold idxP
    split
    · omega
    · rename_i hn
      obtain ⟨a, ha, hp⟩ := h
      rcases List.mem_cons.1 ha with rfl | ha
      · exact absurd hp hn
      · exact idxP_mem p l (j + 1) ⟨a, ha, hp⟩
theorem arcI_mem {rs : List Arc} {s : ByteArray} (h : ∃ a ∈ rs, a.key = s) : 0 ≤ arcI rs s := by
  obtain ⟨a, ha, e⟩ := h
  exact idxP_mem _ rs 0 ⟨a, ha, decide_eq_true e⟩
/-- Some strings in a row of the call's own. -/
def StrDr (s k : Nat) (w : World) (e : Ending) (w' : World) : Prop := ∃ (Z : Option Addr) (cz : Nat) (l : List ByteArray), e = .returned (.slice Z l.length cz) ∧ l.length ≤ 6 ∧ Rd w' w.heap.size Z 1 encS l ∧ Gr s w w' ∧ Str w' s k
set_option maxRecDepth 100000 in
set_option maxHeartbeats 8000000 in
theorem w_Drive (s k lo : Nat) (A B C : Option Addr) (nn nb ca cb cc : Nat) (rs : List Arc) (fr : ByteArray) (w : World) (hS : Str w s k) (hk : k < 700000) (hR : Rd w lo B 5 encArc rs) (hl : rs.length ≤ 10) (hlo : s < lo) :
    Calls Tryz.prog 56 #[.pointer (some ⟨s, 0, none⟩), .agg #[.slice A nn ca, .slice B rs.length cb, .slice C nb cc], .string fr] w (StrDr s (k + 60) w) := by
  have hsl := hS.lt
  obtain ⟨wa, hwa⟩ : ∃ wa, wa = w.alloc (.cells #[.slice A nn ca, .slice B rs.length cb, .slice C nb cc] 30) := ⟨_, rfl⟩
  have hna : Nx w wa := hwa ▸ (Nx.refl w).alloc _
  have hgw : w.heap.size < wa.heap.size := by rw [hwa]; simp
  have b0 : wa.cell? ⟨w.heap.size, 0, none⟩ = some (.slice A nn ca) := by rw [hwa]; go_simp
  have b1 : wa.cell? ⟨w.heap.size, 1, none⟩ = some (.slice B rs.length cb) := by rw [hwa]; go_simp
  have b2 : wa.cell? ⟨w.heap.size, 2, none⟩ = some (.slice C nb cc) := by rw [hwa]; go_simp
  have hSa := hS.nx hna
  have hRa := hR.nx hna
  have HR := hide hRa
  have HAR := hide (fun t W (hx : Gr s wa W) => w_ArcAt lo A B C nn nb ca cb cc rs t W (hRa.gr hx hlo) (by omega))
  clear hR hS hRa
  generalize hm : rs.length = m at *
  have HM := hide hm
  clear hm
  go_enter Tryz.func56, Tryz.ntmps56
  go_wp2_with fail
  rw [← hwa]
  have HWA := hide hwa
  clear hwa
  have hgs : w.heap.size ≠ s := by omega
  have HGW := hide (show w.heap.size ≤ wa.heap.size by omega)
  generalize hgg : w.heap.size = g at *
  have HGG := hide hgg
  clear hgg
  have HB0 := hide (fun W (hx : Gr s wa W) => (World.grownBy.cell (row := some s) hx b0 (by simp; omega)))
  have HB1 := hide (fun W (hx : Gr s wa W) => (World.grownBy.cell (row := some s) hx b1 (by simp; omega)))
  have HB2 := hide (fun W (hx : Gr s wa W) => (World.grownBy.cell (row := some s) hx b2 (by simp; omega)))
  clear b0 b1 b2
  refine (w_Range 0 5 _ _ _ hSa (by omega) (by omega) (by omega)).mono ?_
  rintro e w1 ⟨n5, hq1, hq2, rfl, hg1, hS1⟩
  obtain ⟨n5, rfl⟩ := Int.eq_ofNat_of_zero_le hq1
  have HG1 := hide hg1
  have HS1 := hide hS1
  clear hg1 hS1
  have hsa : s < wa.heap.size := by omega
  go_wp2_with fail
  go_loopw [2, 7, 14] (fun vf vo i wr => ∃ (j : Nat) (f : ByteArray) (zs : List ByteArray), j ≤ n5 ∧ vf = .string f ∧ i = .int .i64 j ∧ zs.length ≤ j ∧ wr.ownsRow wa.heap.size 9 1 vo zs.length (zs.flatMap encS) ∧ Gr s wa wr ∧ Str wr s (k + 1 + 11 * j)) (fun _ _ i _ => n5 - (intOf i).toNat)
  case atStart => exact ⟨0, fr, [], Nat.zero_le _, rfl, rfl, Nat.le_refl _, World.ownsRow_nil _ _ _ _, HG1.out, HS1.out⟩
  case round =>
    obtain ⟨i, f, zs, hi, rfl, rfl, hzl, hown, hgr, hSr⟩ := hrel
    clear HG1 HS1
    by_cases hlt : i < n5
    · have lt1 : decide ((i : Int) < (n5 : Int)) = true := decide_eq_true (by omega)
      obtain ⟨wk, hwk⟩ : ∃ wk, wk = wr := ⟨_, rfl⟩
      rw [← hwk] at hown hgr hSr
      rw [← hwk]
      clear hwk
      have c1 := HB1.out wk hgr
      have hzk := hgr.sz
      have hsk : s < wk.heap.size := by omega
      go_upto_region 5 with fail
      have HSk := hide hSr
      have HGk := hide hgr
      have HOk := hide hown
      clear hown hgr hSr
      go_upto_region 6 with fail
      go_loopw [8, 19] (fun vl j wr => ∃ (q : Nat) (ks : List ByteArray), q ≤ m ∧ j = .int .i64 q ∧ ks.length ≤ q ∧ (∀ x ∈ ks, ∃ a ∈ rs, a.key = x) ∧ wr.ownsRow wk.heap.size 9 1 vl ks.length (ks.flatMap encS) ∧ Gr s wk wr ∧ Str wr s (k + 1 + 11 * i + q)) (fun _ j _ => m - (intOf j).toNat)
      case atStart => exact ⟨0, [], Nat.zero_le _, rfl, Nat.le_refl _, (fun _ h => absurd h (by simp)), World.ownsRow_nil _ _ _ _, Gr.refl _ _, HSk.out.more (by omega)⟩
      case round =>
        obtain ⟨q, ks, hq, rfl, hkl, hks, hown, hgr, hSr⟩ := hrel
        have HKS := hide hks
        clear hks
        by_cases hlq : q < m
        · have hlq' : q < rs.length := by have := HM.out; omega
          have hm0 : 0 < rs.length := by omega
          have hga := HGk.out.trans hgr
          obtain ⟨ba, offa, rfl, hlb, hba, _, hca⟩ := (HR.out.gr hga hlo).open_ (Nx.refl wr) hm0
          have a0 : wr.cell? ⟨ba, offa + q * 5, none⟩ = some (.string rs[q].key) := hca q hlq' 0 _ rfl
          have a1 : wr.cell? ⟨ba, offa + q * 5 + 1, none⟩ = some (.string rs[q].from_) := hca q hlq' 1 _ rfl
          have a2 : wr.cell? ⟨ba, offa + q * 5 + 2, none⟩ = some (.string rs[q].to_) := hca q hlq' 2 _ rfl
          have a3 : wr.cell? ⟨ba, offa + q * 5 + 3, none⟩ = some (.int .i64 rs[q].long) := hca q hlq' 3 _ rfl
          have a4 : wr.cell? ⟨ba, offa + q * 5 + 4, none⟩ = some (.slice rs[q].ka rs[q].knots.length rs[q].kc) := hca q hlq' 4 _ rfl
          have HMEM := hide (⟨rs[q], List.getElem_mem hlq', rfl⟩ : ∃ a ∈ rs, a.key = rs[q].key)
          clear hca hm0
          generalize rs[q].key = x0 at *
          generalize rs[q].from_ = x1 at *
          generalize rs[q].to_ = x2 at *
          generalize rs[q].long = x3 at *
          generalize rs[q].knots.length = x4 at *
          generalize rs[q].ka = x5 at *
          generalize rs[q].kc = x6 at *
          obtain ⟨Zl, cl, el, _, _⟩ := Rd.of_own encS_len rfl hown
          subst el
          have hzr := hgr.sz
          obtain ⟨wb, hwb⟩ : ∃ wb, wb = wr.alloc (.cells #[.string x0, .string x1, .string x2, .int .i64 x3, .slice x5 x4 x6] 63) := ⟨_, rfl⟩
          have hnb : Nx wr wb := hwb ▸ (Nx.refl wr).alloc _
          have hsb : wr.heap.size < wb.heap.size := by rw [hwb]; simp
          have d0 : wb.cell? ⟨wr.heap.size, 0, none⟩ = some (.string x0) := by rw [hwb]; go_simp
          have d1 : wb.cell? ⟨wr.heap.size, 1, none⟩ = some (.string x1) := by rw [hwb]; go_simp
          have hSb := hSr.nx hnb
          have hgb := hgr.then_nx hnb
          have hob := own_nx hown hnb
          have HOB := hide hob
          clear hob hown
          cases tb : (x1.toList == f.toList)
          · go_upto_region 8 with fail
            rw [← hwb]
            have HWB := hide hwb
            clear hwb a0 a1 a2 a3 a4
            have hgs2 : wr.heap.size ≠ s := by omega
            generalize wr.heap.size = gb at *
            go_wp2_with fail
            refine (w_Flip 30 _ _ _ hSb (by omega) (by omega)).mono ?_
            rintro e w4 ⟨fl, rfl, hg4, hS4⟩
            have d0' : w4.cell? ⟨gb, 0, none⟩ = some (.string x0) := World.grownBy.cell (row := some s) hg4 d0 (by simp; omega)
            cases fl
            · go_wp2_with fail
              go_roundw
              case rel => exact ⟨q + 1, ks, by omega, by go_num, by omega, HKS.out, own_gr HOB.out hg4 hsk, hgb.trans hg4, hS4.more (by omega)⟩
              case measure => simp [intOf]; omega
            · have hz4 := hg4.sz
              have HO4 := hide (own_gr HOB.out hg4 hsk)
              go_wp2_with (at_builtin; refine wpApp rfl _ _ _ rfl el_SD encS encS_len encS_one (by omega) (by omega) wk.heap.size _ ks rfl (own_nx HO4.out ((Nx.refl w4).alloc _)) _ x0 _ rfl (hnew rfl) rfl (by omega) (by simp; omega) ?_; intro v5 w5 hown5 hg5)
              go_roundw
              case rel =>
                refine ⟨q + 1, ks ++ [x0], by omega, by go_num, by rw [List.length_append]; show ks.length + 1 ≤ _; omega, ?_, hown5, ((hgb.trans hg4).alloc _).grown hg5 (fun y hy => .inr (own_blk_lt HO4.out y hy)), ((hS4.nx ((Nx.refl w4).alloc _)).row hg5 (fun y hy => by have := own_blk_lt HO4.out y hy; omega)).more (by omega)⟩
                intro x hx
                rcases List.mem_append.1 hx with hx | hx
                · exact HKS.out x hx
                · simp at hx; subst hx; exact HMEM.out
              case measure => simp [intOf]; omega
          · go_upto_region 8 with fail
            rw [← hwb]
            have HWB := hide hwb
            clear hwb a0 a1 a2 a3 a4
            generalize wr.heap.size = gb at *
            go_wp2_with (at_builtin; refine wpApp rfl _ _ _ rfl el_SD encS encS_len encS_one (by omega) (by omega) wk.heap.size _ ks rfl (own_nx HOB.out ((Nx.refl wb).alloc _)) _ x0 _ rfl (hnew rfl) rfl (by omega) (by simp; omega) ?_; intro v5 w5 hown5 hg5)
            go_roundw
            case rel =>
              refine ⟨q + 1, ks ++ [x0], by omega, by go_num, by rw [List.length_append]; show ks.length + 1 ≤ _; omega, ?_, hown5, (hgb.alloc _).grown hg5 (fun y hy => .inr (own_blk_lt HOB.out y hy)), ((hSb.nx ((Nx.refl wb).alloc _)).row hg5 (fun y hy => by have := own_blk_lt HOB.out y hy; omega)).more (by omega)⟩
              intro x hx
              rcases List.mem_append.1 hx with hx | hx
              · exact HKS.out x hx
              · simp at hx; subst hx; exact HMEM.out
            case measure => simp [intOf]; omega
        · obtain ⟨wo, hwo⟩ : ∃ wo, wo = wr := ⟨_, rfl⟩
          rw [← hwo] at hown hgr hSr
          rw [← hwo]
          clear hwo
          have hgrk := hgr
          have hownl := hown
          clear hgr hown
          have hown := own_gr HOk.out hgrk hsa
          have hgr := HGk.out.trans hgrk
          clear HOk HGk HSk
          have hzo := hgr.sz
          have hso := hSr.lt
          by_cases hk0 : ks.length = 0
          · have t0 : ((ks.length : Int) == 0) = true := by rw [beq_iff_eq]; omega
            obtain ⟨Zl, cl, el, _, _⟩ := Rd.of_own encS_len rfl hownl
            subst el
            clear hownl
            go_wp2_with fail
            refine (w_Flip 25 _ _ _ hSr (by omega) (by omega)).mono ?_
            rintro e w8 ⟨fl, rfl, hg8, hS8⟩
            have hgr8 := hgr.trans hg8
            have hown8 := own_gr hown hg8 hsa
            cases fl
            · obtain ⟨Zo, co, eo, hRz, _⟩ := Rd.of_own encS_len rfl hown8
              subst eo
              clear hown hown8
              have HRZ := hide hRz
              clear hRz
              go_wp2_with fail
              go_ret
              exact ⟨Zo, co, zs, rfl, by omega, HRZ.out.low (by rw [HGG.out]; exact HGW.out), (Gr.of_nx hna).trans hgr8, hS8.more (by omega)⟩
            · have hz8 := hgr8.sz
              go_wp2_with fail
              refine (w_Some _ [⟨#[122, 122]⟩, ⟨#[]⟩] _ _ _ _ (hS8.nx ((Nx.refl _).alloc _)) (by omega) (hnew rfl) (by omega) rfl (by simp) (by simp)).mono ?_
              rintro e w9 ⟨r, hr, rfl, hg9, hS9⟩
              have hgr9 := (hgr8.alloc (.cells #[.string ⟨#[122, 122]⟩, .string ⟨#[]⟩] 9)).trans hg9
              have hz9 := hgr9.sz
              have hown9 := own_gr (own_nx hown8 ((Nx.refl w8).alloc (.cells #[.string ⟨#[122, 122]⟩, .string ⟨#[]⟩] 9))) hg9 hsa
              obtain ⟨Zo, co, eo, _, _⟩ := Rd.of_own encS_len rfl hown9
              subst eo
              go_wp2_with (at_builtin; refine wpApp rfl _ _ _ rfl el_SD encS encS_len encS_one (by omega) (by omega) wa.heap.size _ zs rfl (own_nx hown9 ((Nx.refl w9).alloc _)) _ r _ rfl (hnew rfl) rfl (by omega) (by simp; omega) ?_; intro v5 w5 hown5 hg5)
              obtain ⟨Z, c, eo, hRz, _⟩ := Rd.of_own encS_len rfl hown5
              subst eo
              have hlen : (zs ++ [r]).length ≤ 6 := by rw [List.length_append]; show zs.length + 1 ≤ 6; omega
              have hgr10 : Gr s wa w5 := (hgr9.alloc _).grown hg5 (fun q hq => .inr (own_blk_lt hown9 q hq))
              have hS10 : Str w5 s (k + 60) := ((hS9.nx ((Nx.refl w9).alloc _)).row hg5 (fun q hq => by have := own_blk_lt hown9 q hq; omega)).more (by omega)
              generalize zs ++ [r] = zs2 at *
              have HRZ := hide hRz
              clear hRz hown5
              go_wp2_with fail
              go_ret
              exact ⟨Z, c, zs2, rfl, hlen, HRZ.out.low (by rw [HGG.out]; exact HGW.out), (Gr.of_nx hna).trans hgr10, hS10⟩
          · have t0 : ((ks.length : Int) == 0) = false := by rw [beq_eq_false_iff_ne]; omega
            obtain ⟨Zl, cl, el, hRl, _⟩ := Rd.of_own encS_len rfl hownl
            subst el
            clear hownl
            obtain ⟨Zp, cp, ep, _, _⟩ := Rd.of_own encS_len rfl hown
            subst ep
            have HRL := hide hRl
            have HOW := hide hown
            clear hRl hown
            go_wp2_with fail
            refine (w_Next _ _ _ _ hSr (by omega) (by omega)).mono ?_
            rintro e w5 ⟨p, hp1, hp2, rfl, hg5, hS5⟩
            obtain ⟨p, rfl⟩ := Int.eq_ofNat_of_zero_le hp1
            have hpl : p < ks.length := by omega
            have hp3 : (p : Int) < (ks.length : Int) := by omega
            obtain ⟨bl, ol, rfl, _, hbl, _, hcl⟩ := (HRL.out.gr hg5 hsk).open_ (Nx.refl w5) (by omega)
            have l0 : w5.cell? ⟨bl, ol + p, none⟩ = some (.string ks[p]) := by have := hcl p hpl 0 _ rfl; simpa using this
            have HMEM := hide (HKS.out ks[p] (List.getElem_mem hpl))
            clear hcl
            generalize ks[p] = x at *
            have HO5 := hide (own_gr HOW.out hg5 hsa)
            have hgr5 := hgr.trans hg5
            have hz5 := hgr5.sz
            obtain ⟨y, hy, ey, hay⟩ := arc_found (arcI_mem HMEM.out)
            clear hay
            go_wp2_with (at_builtin; refine wpApp rfl _ _ _ rfl el_SD encS encS_len encS_one (by omega) (by omega) wa.heap.size _ zs rfl (own_nx HO5.out ((Nx.refl w5).alloc _)) _ x _ rfl (hnew rfl) rfl (by omega) (by simp; omega) ?_; intro v6 w6 hown6 hg6)
            have hgr6 : Gr s wa w6 := (hgr5.alloc _).grown hg6 (fun z hz => .inr (own_blk_lt HO5.out z hz))
            have hS6 : Str w6 s (k + 1 + 11 * (i + 1)) := ((hS5.nx ((Nx.refl w5).alloc _)).row hg6 (fun z hz => by have := own_blk_lt HO5.out z hz; omega)).more (by omega)
            have HO6 := hide hown6
            clear hown6 l0
            have e0 := HB0.out w6 hgr6
            have e1 := HB1.out w6 hgr6
            have e2 := HB2.out w6 hgr6
            have hz6 := hgr6.sz
            have hgw6 : g < w6.heap.size := by omega
            obtain ⟨ba, offa, rfl, hlb, hba, hbar, hca⟩ := (HR.out.gr hgr6 hlo).open_ (Nx.refl w6) (by omega)
            have a2 : w6.cell? ⟨ba, offa + y * 5 + 2, none⟩ = some (.string rs[y].to_) := hca y hy 2 _ rfl
            clear hca hg6
            generalize rs[y].to_ = xt at *
            have HARx := hide (HAR.out x w6.drew hgr6.drew)
            rw [ey] at HARx
            have hym : y < m := by have := HM.out; omega
            have i1 : (0 : Int) ≤ (y : Int) := by omega
            have i2 : (y : Int) < (m : Int) := by omega
            go_upto_region 14 with fail
            go_region_held3 (fun w' => w'.cell? ⟨g, 0, none⟩ = some (.slice A nn ca) ∧ w'.cell? ⟨g, 1, none⟩ = some (.slice (some ⟨ba, offa, none⟩) m cb) ∧ w'.cell? ⟨g, 2, none⟩ = some (.slice C nb cc) ∧ w'.cell? ⟨ba, offa + y * 5 + 2, none⟩ = some (.string xt))
              (first | (go_split_ands; exact ⟨nx_cell hn4 hgw6 ‹_›, nx_cell hn4 hgw6 ‹_›, nx_cell hn4 hgw6 ‹_›, nx_cell hn4 hbar ‹_›⟩) | go_keep)
              (first | (go_at_call 59; refine HARx.out.mono ?_; rintro e w7 ⟨rfl, hn4⟩))
            go_wp2_with fail
            go_roundw
            case rel => exact ⟨i + 1, xt, zs ++ [x], by omega, rfl, by go_num, by rw [List.length_append]; show zs.length + 1 ≤ _; omega, own_nx HO6.out ((Nx.refl w6).drew.trans hn4), hgr6.then_nx ((Nx.refl w6).drew.trans hn4), hS6.nx ((Nx.refl w6).drew.trans hn4)⟩
            case measure => simp [intOf]; omega
    · obtain ⟨wo, hwo⟩ : ∃ wo, wo = wr := ⟨_, rfl⟩
      subst hwo
      have hso := hSr.lt
      go_wp2_with fail
      refine (w_Flip 25 _ _ _ hSr (by omega) (by omega)).mono ?_
      rintro e w8 ⟨fl, rfl, hg8, hS8⟩
      have hgr8 := hgr.trans hg8
      have hown8 := own_gr hown hg8 hsa
      cases fl
      · obtain ⟨Zo, co, eo, hRz, _⟩ := Rd.of_own encS_len rfl hown8
        subst eo
        clear hown hown8
        have HRZ := hide hRz
        clear hRz
        go_wp2_with fail
        go_ret
        exact ⟨Zo, co, zs, rfl, by omega, HRZ.out.low (by rw [HGG.out]; exact HGW.out), (Gr.of_nx hna).trans hgr8, hS8.more (by omega)⟩
      · have hz8 := hgr8.sz
        go_wp2_with fail
        refine (w_Some _ [⟨#[122, 122]⟩, ⟨#[]⟩] _ _ _ _ (hS8.nx ((Nx.refl _).alloc _)) (by omega) (hnew rfl) (by omega) rfl (by simp) (by simp)).mono ?_
        rintro e w9 ⟨r, hr, rfl, hg9, hS9⟩
        have hgr9 := (hgr8.alloc (.cells #[.string ⟨#[122, 122]⟩, .string ⟨#[]⟩] 9)).trans hg9
        have hz9 := hgr9.sz
        have hown9 := own_gr (own_nx hown8 ((Nx.refl w8).alloc (.cells #[.string ⟨#[122, 122]⟩, .string ⟨#[]⟩] 9))) hg9 hsa
        obtain ⟨Zo, co, eo, _, _⟩ := Rd.of_own encS_len rfl hown9
        subst eo
        go_wp2_with (at_builtin; refine wpApp rfl _ _ _ rfl el_SD encS encS_len encS_one (by omega) (by omega) wa.heap.size _ zs rfl (own_nx hown9 ((Nx.refl w9).alloc _)) _ r _ rfl (hnew rfl) rfl (by omega) (by simp; omega) ?_; intro v5 w5 hown5 hg5)
        obtain ⟨Z, c, eo, hRz, _⟩ := Rd.of_own encS_len rfl hown5
        subst eo
        have hlen : (zs ++ [r]).length ≤ 6 := by rw [List.length_append]; show zs.length + 1 ≤ 6; omega
        have hgr10 : Gr s wa w5 := (hgr9.alloc _).grown hg5 (fun q hq => .inr (own_blk_lt hown9 q hq))
        have hS10 : Str w5 s (k + 60) := ((hS9.nx ((Nx.refl w9).alloc _)).row hg5 (fun q hq => by have := own_blk_lt hown9 q hq; omega)).more (by omega)
        generalize zs ++ [r] = zs2 at *
        have HRZ := hide hRz
        clear hRz hown5
        go_wp2_with fail
        go_ret
        exact ⟨Z, c, zs2, rfl, hlen, HRZ.out.low (by rw [HGG.out]; exact HGW.out), (Gr.of_nx hna).trans hgr10, hS10⟩
end Go.Proofs.YtmpnilliichpfaaGreatDoor
/- Strings the other way round. -/
namespace Go.Proofs.YtmpnilliichpfaaGreatDoor
open Go.RowKit

/-- The first i and the last i have changed places. -/
def RevI (l zs : List ByteArray) (i : Nat) : Prop := zs.length = l.length ∧ ∀ p, p < l.length → zs.getD p default = if p < i ∨ l.length - i ≤ p then l.getD (l.length - 1 - p) default else l.getD p default
theorem revI_zero (l : List ByteArray) : RevI l l 0 := ⟨rfl, fun p hp => by rw [if_neg (by omega)]⟩
theorem revI_step {l zs : List ByteArray} {i : Nat} (h : RevI l zs i) (hi : i < l.length - 1 - i) : RevI l ((zs.set i (zs.getD (l.length - 1 - i) default)).set (l.length - 1 - i) (zs.getD i default)) (i + 1) := by
  obtain ⟨h1, h2⟩ := h
  refine ⟨by simpa using h1, fun p hp => ?_⟩
  have e1 := h2 i (by omega)
  have e2 := h2 (l.length - 1 - i) (by omega)
  have e3 := h2 p hp
  rw [if_neg (by omega)] at e1 e2
  rw [List.getD_eq_getElem?_getD, List.getElem?_set, List.getElem?_set]
  by_cases a : l.length - 1 - i = p
  · subst a
    rw [if_pos rfl, if_pos (by simp; omega), if_pos (by omega), e1]
    show l.getD i default = _
    congr 1; omega
  · rw [if_neg a]
    by_cases b : i = p
    · subst b
      rw [if_pos rfl, if_pos (by omega), if_pos (by omega), e2]
      rfl
    · rw [if_neg b, ← List.getD_eq_getElem?_getD, e3]
      by_cases c : p < i ∨ l.length - i ≤ p
      · rw [if_pos c, if_pos (by omega)]
      · rw [if_neg c, if_neg (by omega)]
theorem revI_end {l zs : List ByteArray} {i : Nat} (h : RevI l zs i) (hi : ¬ i < l.length - 1 - i) : zs = l.reverse := by
  obtain ⟨h1, h2⟩ := h
  apply List.ext_getElem (by simpa using h1)
  intro p hp1 hp2
  have hp : p < l.length := by omega
  have e := h2 p hp
  rw [List.getD_eq_getElem?_getD, List.getElem?_eq_getElem hp1] at e
  have e : zs[p] = _ := e
  rw [e, List.getElem_reverse]
  by_cases c : p < i ∨ l.length - i ≤ p
  · rw [if_pos c, List.getD_eq_getElem?_getD, List.getElem?_eq_getElem (by omega)]; rfl
  · rw [if_neg c, List.getD_eq_getElem?_getD, List.getElem?_eq_getElem hp]
    show l[p] = _
    congr 1; omega
set_option maxRecDepth 100000 in
set_option maxHeartbeats 4000000 in
theorem w_RevS (base : Nat) (v : Value) (l : List ByteArray) (w : World) (hown : w.ownsRow base 9 1 v l.length (l.flatMap encS)) (hl : l.length ≤ 65536) :
    Calls Tryz.prog 182 #[v] w fun e w' => e = .returned (.tuple #[]) ∧ w'.ownsRow base 9 1 v l.length (l.reverse.flatMap encS) ∧ w.grownBy w' v.ownBlock := by
  by_cases h0 : l.length = 0
  · have hb : l = [] := List.eq_nil_of_length_eq_zero h0
    subst hb
    have HO := hide hown
    obtain ⟨A, c, rfl, _, _⟩ := Rd.of_own encS_len rfl hown
    clear hown h0
    go_enter Tryz.func182, Tryz.ntmps182
    go_wp2_with fail
    refine wp_loop_rounds 1 ?_
    rw [rounds_succ]
    go_wp2_with fail
    go_end0
    exact ⟨rfl, HO.out, World.grownBy.refl _ _⟩
  · obtain ⟨g, cap, rfl⟩ : ∃ g cap, v = .slice (some ⟨g, 0, none⟩) l.length cap := by
      rcases hown.2 with ⟨_, h⟩ | ⟨g, cap, cur, e, _⟩
      · exact absurd h h0
      · exact ⟨g, cap, e⟩
    have HR0 := hide (revI_zero l)
    have HRS := hide (fun zs i => @revI_step l zs i)
    have HRE := hide (fun zs i => @revI_end l zs i)
    generalize hn : l.length = n at *
    have HO := hide hown
    have HN := hide hn
    clear hown hn
    have n1 : IntKind.i64.wrap ((n : Int) - 1) = ((n - 1 : Nat) : Int) := by rw [IntWalk.i64_in _ (by omega)]; omega
    go_enter Tryz.func182, Tryz.ntmps182
    go_wp2_with fail
    go_loopw [2, 3] (fun vi vj wr => ∃ (i j : Nat) (zs : List ByteArray), vi = .int .i64 i ∧ vj = .int .i64 j ∧ i + j = n - 1 ∧ i ≤ n - 1 ∧ RevI l zs i ∧ wr.ownsRow base 9 1 (.slice (some ⟨g, 0, none⟩) n cap) n (zs.flatMap encS) ∧ Gr g w wr) (fun vi vj _ => (intOf vj).toNat - (intOf vi).toNat)
    case atStart => exact ⟨0, n - 1, l, rfl, rfl, by omega, by omega, HR0.out, HO.out, Gr.refl _ _⟩
    case round =>
      obtain ⟨i, j, zs, rfl, rfl, hj, hin, hz, hown, hgr⟩ := hrel
      have HZ := hide hz
      have HZL := hide hz.1
      clear hz
      by_cases hlt : i < j
      · have hi : i < zs.length := by have := HZL.out; have := HN.out; omega
        have hj' : j < zs.length := by have := HZL.out; have := HN.out; omega
        have hzn : zs.length = n := by have := HZL.out; have := HN.out; omega
        have c0 : wr.cell? ⟨g, i, none⟩ = some (.string zs[i]) := by have := own_cell encS_len hzn hown i hi 0 _ rfl; simpa using this
        have c2 : wr.cell? ⟨g, j, none⟩ = some (.string zs[j]) := by have := own_cell encS_len hzn hown j hj' 0 _ rfl; simpa using this
        have f0 := hown.frozenAt i
        have f2 := hown.frozenAt j
        have HOW := hide hown
        have hi2 : (i : Int) < (n : Int) := by omega
        have hj2 : (j : Int) < (n : Int) := by omega
        have hi0 : (0 : Int) ≤ (i : Int) := by omega
        have hj0 : (0 : Int) ≤ (j : Int) := by omega
        have HST := hide (show RevI l ((zs.set i zs[j]).set j zs[i]) (i + 1) by
          have h := HRS.out zs i HZ.out (by omega)
          have hj : j = n - 1 - i := by omega
          rw [← hj, List.getD_eq_getElem?_getD, List.getElem?_eq_getElem hj', List.getD_eq_getElem?_getD, List.getElem?_eq_getElem hi] at h
          exact h)
        have HIL := hide hi
        have HJL := hide hj'
        have HZN := hide hzn
        generalize zs[i] = x at *
        generalize zs[j] = y at *
        clear hown hi hj' hzn
        go_wp2_with fail
        go_region_with (fail)
        all_goals
          go_wp2_with fail
          first
            | (have o1 := own_set encS_len HZN.out HOW.out i HIL.out 0 (by omega) (.string y) y rfl i (by omega)
               have o2 := own_set encS_len (by simpa using HZN.out) o1 j (by simpa using HJL.out) 0 (by omega) (.string x) x (by simp [encS]) j (by omega)
               go_roundw
               case rel => exact ⟨i + 1, j - 1, _, by go_num, by (congr 1; omega), by omega, by omega, HST.out, o2, ((hgr.setS (p := ⟨g, i, none⟩) (.inl rfl) _).setS (p := ⟨g, j, none⟩) (.inl rfl) _).drew⟩
               case measure => simp [intOf]; omega)
            | (have o1 := own_set encS_len HZN.out HOW.out j HJL.out 0 (by omega) (.string x) x rfl j (by omega)
               have o2 := own_set encS_len (by simpa using HZN.out) o1 i (by simpa using HIL.out) 0 (by omega) (.string y) y (by simp [encS]) i (by omega)
               go_roundw
               case rel => exact ⟨i + 1, j - 1, (zs.set j x).set i y, by go_num, by (congr 1; omega), by omega, by omega, by rw [List.set_comm _ _ (by omega : j ≠ i)]; exact HST.out, o2, ((hgr.setS (p := ⟨g, j, none⟩) (.inl rfl) _).setS (p := ⟨g, i, none⟩) (.inl rfl) _).drew⟩
               case measure => simp [intOf]; omega)
      · have HE := hide (HRE.out zs i HZ.out (by omega))
        go_wp2_with fail
        go_end0
        exact ⟨rfl, by rw [← HE.out]; exact hown, hgr⟩
end Go.Proofs.YtmpnilliichpfaaGreatDoor
/- The way out of a search's tree. -/
namespace Go.Proofs.YtmpnilliichpfaaGreatDoor
open Go.RowKit

/-- A tree, read. -/
structure TreeR (w : World) (a : SA) (bm fr nn m : Nat) (ad : Int) (s : Sr) : Prop where
  hT : w.heap[a.T]? = some (.cells #[.pointer (some ⟨bm, 0, none⟩), .int .i64 (fr : Int), .int .i64 ad, .slice (some ⟨a.gF, 0, none⟩) nn nn, .slice (some ⟨a.gL, 0, none⟩) nn nn, .slice (some ⟨a.gP, 0, none⟩) m m] 195 (0, 0))
  hF : w.heap[a.gF]? = some (intRow s.first)
  hL : w.heap[a.gL]? = some (intRow s.last)
  hP : w.heap[a.gP]? = some (intRow s.prev)
  lF : s.first.length = nn
  lL : s.last.length = nn
  lP : s.prev.length = m
theorem TreeR.nx {w w' : World} {a : SA} {bm fr nn m : Nat} {ad : Int} {s : Sr} (h : TreeR w a bm fr nn m ad s) (hn : Nx w w') : TreeR w' a bm fr nn m ad s :=
  ⟨(hn.block _ (lt_of_heap h.hT)).trans h.hT, (hn.block _ (lt_of_heap h.hF)).trans h.hF, (hn.block _ (lt_of_heap h.hL)).trans h.hL, (hn.block _ (lt_of_heap h.hP)).trans h.hP, h.lF, h.lL, h.lP⟩
theorem SM.tree {w0 w : World} {a : SA} {bm fr nn m : Nat} {ad : Int} {s : Sr} (h : SM w0 w a bm fr nn m ad s) : TreeR w a bm fr nn m ad s := ⟨h.hTb, h.hF, h.hL, h.hP, h.lF, h.lL, h.lP⟩
abbrev GrO (wr wx : World) (ex : Nat) (own : Option Nat) : Prop := KpA wr own ex wx
set_option maxRecDepth 100000 in
set_option maxHeartbeats 4000000 in
theorem w_WayNo (w : World) (a : SA) (bm fr nn m b : Nat) (ad : Int) (s : Sr) (hT : TreeR w a bm fr nn m ad s) (hb : b < nn) (hf : gi s.first b < 0) :
    Calls Tryz.prog 123 #[.pointer (some ⟨a.T, 0, none⟩), .int .i64 (b : Int)] w fun e w' => e = .returned (.tuple #[.agg #[.slice none 0 0, .int .i64 0, .int .i64 0], .bool false]) ∧ Nx w w' := by
  have t3 : w.cell? ⟨a.T, 3, none⟩ = some (.slice (some ⟨a.gF, 0, none⟩) nn nn) := (cell_of_row w _ 3 _ _ _ hT.hT).trans rfl
  have x0 := intRow_cell hT.hF (i := b) (by rw [hT.lF]; exact hb)
  have hTl := lt_of_heap hT.hT
  have hFl := lt_of_heap hT.hF
  have i1 : (0 : Int) ≤ (b : Int) := by omega
  have i2 : (b : Int) < (nn : Int) := by omega
  have tf : decide (gi s.first b < 0) = true := decide_eq_true hf
  generalize gi s.first b = z at *
  clear hT
  go_enter Tryz.func123, Tryz.ntmps123
  go_wp2_with fail
  exact bodyPost_ret (v := .tuple #[.agg #[.slice none 0 0, .int .i64 0, .int .i64 0], .bool false]) (by simp [results, Tryz.results123, go_sem]) rfl ⟨rfl, (Nx.refl w).alloc _⟩
def WayOut (w : World) (ad f : Int) (keys : List ByteArray) (e : Ending) (w' : World) : Prop := ∃ (Z : Option Addr) (c : Nat), e = .returned (.tuple #[.agg #[.slice Z keys.length c, .int .i64 ad, .int .i64 f], .bool true]) ∧ Rd w' w.heap.size Z 1 encS keys ∧ Nx w w'
set_option maxRecDepth 100000 in
set_option maxHeartbeats 4000000 in
theorem w_WayYes (w : World) (a : SA) (bm g0 lo fr nn b : Nat) (ad : Int) (s : Sr) (A B C : Option Addr) (ca cb cc : Nat) (M : MapA) (ns : List Node) (rs : List Arc) (bs : List Ban) (l : List Nat) (hT : TreeR w a bm fr nn rs.length ad s) (hM : MapR w bm g0 lo A B C ca cb cc M ns rs bs) (hb : b < nn) (hf : 0 ≤ gi s.first b) (hch : Chain rs.length s.prev (gi s.last b) l) (hll : l.length ≤ 400) :
    Calls Tryz.prog 123 #[.pointer (some ⟨a.T, 0, none⟩), .int .i64 (b : Int)] w (WayOut w ad (gi s.first b) (keysOf rs l.reverse)) := by
  have t2 : w.cell? ⟨a.T, 2, none⟩ = some (.int .i64 ad) := (cell_of_row w _ 2 _ _ _ hT.hT).trans rfl
  have t3 : w.cell? ⟨a.T, 3, none⟩ = some (.slice (some ⟨a.gF, 0, none⟩) nn nn) := (cell_of_row w _ 3 _ _ _ hT.hT).trans rfl
  have x0 := intRow_cell hT.hF (i := b) (by rw [hT.lF]; exact hb)
  have hTl := lt_of_heap hT.hT
  have hFl := lt_of_heap hT.hF
  have i1 : (0 : Int) ≤ (b : Int) := by omega
  have i2 : (b : Int) < (nn : Int) := by omega
  have tf : decide (gi s.first b < 0) = false := decide_eq_false (by omega)
  have HT := hide hT
  have HM := hide hM
  have HCH := hide hch
  generalize gi s.first b = z at *
  clear hT hM hch
  go_enter Tryz.func123, Tryz.ntmps123
  go_upto_region 3 with fail
  obtain ⟨wA, hwA⟩ : ∃ wA, wA = w.alloc (.cells #[.slice none 0 0, .int .i64 0, .int .i64 0] 90) := ⟨_, rfl⟩
  have hnA : Nx w wA := hwA ▸ (Nx.refl w).alloc _
  have HELD := hide (fun W (hx : Nx wA W) => (⟨nx_cell (hnA.trans hx) hTl t2, nx_cell (hnA.trans hx) hTl t3, nx_cell (hnA.trans hx) hFl x0⟩ : W.cell? ⟨a.T, 2, none⟩ = some (.int .i64 ad) ∧ W.cell? ⟨a.T, 3, none⟩ = some (.slice (some ⟨a.gF, 0, none⟩) nn nn) ∧ W.cell? ⟨a.gF, b, none⟩ = some (.int .i64 z)))
  rw [← hwA]
  have HWA := hide hwA
  clear hwA t2 t3 x0
  go_cut [6] (fun v wx => v = .pointer (some ⟨wA.heap.size, 0, none⟩) ∧ wx.heap[wA.heap.size]? = some (.cells #[.slice none 0 0, .int .i64 ad, .int .i64 z] 90 (0, 0)) ∧ Nx wA wx)
  case first =>
    refine wp_region_held_drew (S := fun w' => w'.cell? ⟨a.T, 2, none⟩ = some (.int .i64 ad) ∧ w'.cell? ⟨a.T, 3, none⟩ = some (.slice (some ⟨a.gF, 0, none⟩) nn nn) ∧ w'.cell? ⟨a.gF, b, none⟩ = some (.int .i64 z)) (by kernel_rfl) ?_ (fun hHeld => ?_)
    · exact HELD.out _ (Nx.refl _).drew
    refine wpAnyH_take (i := 0) (oi := ⟨some 17, _, _, _, _, _⟩) (v := ?_) rfl (by kernel_rfl) (by kernel_rfl) (by kernel_rfl) (fun _ _ _ h => h) (Or.inl ⟨by rfl, ?_⟩) (by assumption) ?_
    rotate_left 1
    · intro w hSw
      (try dsimp only at hSw)
      go_simp
      try with_reducible rfl
    try simp only [Act.put, List.setIfInBounds_toArray, List.set_cons_zero, List.set_cons_succ]
    refine wpAnyH_take (i := 1) (oi := ⟨some 18, _, _, _, _, _⟩) (v := ?_) rfl (by kernel_rfl) (by kernel_rfl) (by kernel_rfl) (fun _ _ _ h => h) (Or.inl ⟨by rfl, ?_⟩) (by assumption) ?_
    rotate_left 1
    · intro w hSw
      (try dsimp only at hSw)
      go_simp
      try with_reducible rfl
    try simp only [Act.put, List.setIfInBounds_toArray, List.set_cons_zero, List.set_cons_succ]
    refine wpAnyH_take (i := 2) (oi := ⟨some 19, _, _, _, _, _⟩) (v := ?_) rfl (by kernel_rfl) (by kernel_rfl) (by kernel_rfl) (fun _ _ _ h => h) (Or.inl ⟨by rfl, ?_⟩) (by assumption) ?_
    rotate_left 1
    · intro w hSw
      (try dsimp only at hSw)
      go_simp
      try with_reducible rfl
    try simp only [Act.put, List.setIfInBounds_toArray, List.set_cons_zero, List.set_cons_succ]
    refine wpAnyH_take (i := 3) (oi := ⟨some 20, _, _, _, _, _⟩) (v := ?_) rfl (by kernel_rfl) (by kernel_rfl) (by kernel_rfl) (fun _ _ _ h => h) (Or.inl ⟨by rfl, ?_⟩) (by assumption) ?_
    rotate_left 1
    · intro w hSw
      (try dsimp only at hSw)
      go_simp
      try with_reducible rfl
    try simp only [Act.put, List.setIfInBounds_toArray, List.set_cons_zero, List.set_cons_succ]
    refine wpAnyH_take (i := 4) (oi := ⟨some 21, _, _, _, _, _⟩) (v := ?_) rfl (by kernel_rfl) (by kernel_rfl) (by kernel_rfl) (fun _ _ _ h => h) (Or.inl ⟨by rfl, ?_⟩) (by assumption) ?_
    rotate_left 1
    · intro w hSw
      (try dsimp only at hSw)
      go_simp
      try with_reducible rfl
    try simp only [Act.put, List.setIfInBounds_toArray, List.set_cons_zero, List.set_cons_succ]
    refine wpAnyH_take (i := 5) (oi := ⟨some 22, _, _, _, _, _⟩) (v := ?_) rfl (by kernel_rfl) (by kernel_rfl) (by kernel_rfl) (fun _ _ _ h => h) (Or.inl ⟨by rfl, ?_⟩) (by assumption) ?_
    rotate_left 1
    · intro w hSw
      (try dsimp only at hSw)
      go_simp
      try with_reducible rfl
    try simp only [Act.put, List.setIfInBounds_toArray, List.set_cons_zero, List.set_cons_succ]
    refine wpAnyH_take (i := 6) (oi := ⟨some 23, _, _, _, _, _⟩) (v := ?_) rfl (by kernel_rfl) (by kernel_rfl) (by kernel_rfl) (fun _ _ _ h => h) (Or.inl ⟨by rfl, ?_⟩) (by assumption) ?_
    rotate_left 1
    · intro w hSw
      (try dsimp only at hSw)
      go_simp
      try with_reducible rfl
    try simp only [Act.put, List.setIfInBounds_toArray, List.set_cons_zero, List.set_cons_succ]
    refine wpAnyH_take (i := 7) (oi := ⟨some 24, _, _, _, _, _⟩) (v := ?_) rfl (by kernel_rfl) (by kernel_rfl) (by kernel_rfl) (fun _ _ _ h => h) (Or.inl ⟨by rfl, ?_⟩) (by assumption) ?_
    rotate_left 1
    · intro w hSw
      (try dsimp only at hSw)
      go_simp
      try with_reducible rfl
    try simp only [Act.put, List.setIfInBounds_toArray, List.set_cons_zero, List.set_cons_succ]
    refine wpAnyH_take (i := 8) (oi := ⟨some 25, _, _, _, _, _⟩) (v := ?_) rfl (by kernel_rfl) (by kernel_rfl) (by kernel_rfl) (fun _ _ _ h => h) (Or.inl ⟨by rfl, ?_⟩) (by assumption) ?_
    rotate_left 1
    · intro w hSw
      (try dsimp only at hSw)
      go_simp
      try with_reducible rfl
    try simp only [Act.put, List.setIfInBounds_toArray, List.set_cons_zero, List.set_cons_succ]
    refine wpAnyH_take (i := 9) (oi := ⟨some 26, _, _, _, _, _⟩) (v := ?_) rfl (by kernel_rfl) (by kernel_rfl) (by kernel_rfl) (fun _ _ _ h => h) (Or.inl ⟨by rfl, ?_⟩) (by assumption) ?_
    rotate_left 1
    · intro w hSw
      (try dsimp only at hSw)
      go_simp
      try with_reducible rfl
    try simp only [Act.put, List.setIfInBounds_toArray, List.set_cons_zero, List.set_cons_succ]
    refine wpAnyH_take (i := 10) (oi := ⟨some 27, _, _, _, _, _⟩) (v := ?_) rfl (by kernel_rfl) (by kernel_rfl) (by kernel_rfl) (fun _ _ _ h => h) (Or.inl ⟨by rfl, ?_⟩) (by assumption) ?_
    rotate_left 1
    · intro w hSw
      (try dsimp only at hSw)
      go_simp
      try with_reducible rfl
    try simp only [Act.put, List.setIfInBounds_toArray, List.set_cons_zero, List.set_cons_succ]
    refine wpAnyH_take (i := 11) (oi := ⟨some 28, _, _, _, _, _⟩) (v := ?_) rfl (by kernel_rfl) (by kernel_rfl) (by kernel_rfl) (fun _ _ _ h => h) (Or.inl ⟨by rfl, ?_⟩) (by assumption) ?_
    rotate_left 1
    · intro w hSw
      (try dsimp only at hSw)
      go_simp
      try with_reducible rfl
    try simp only [Act.put, List.setIfInBounds_toArray, List.set_cons_zero, List.set_cons_succ]
    refine wpAnyH_ready (rs := [12]) (by kernel_rfl) (by simp) ?_
    refine AllReadyH.cons rfl (fun K hK => ?_) ?_
    · go_simp
      refine hK.out _ _ (HELD.out _ (by repeat (first | with_reducible exact Nx.refl _ | with_reducible refine Nx.drew ?_ | with_reducible refine Nx.alloc ?_ _ | (with_reducible refine Nx.setCell ?_ (by simp) _)))) (fun hHeld => ?_)
      clear hK K
      try simp only [Act.put, List.setIfInBounds_toArray, List.set_cons_zero, List.set_cons_succ]
      refine wpAnyH_ready (rs := [13]) (by kernel_rfl) (by simp) ?_
      refine AllReadyH.cons rfl (fun K hK => ?_) ?_
      · go_simp
        refine hK.out _ _ (HELD.out _ (by repeat (first | with_reducible exact Nx.refl _ | with_reducible refine Nx.drew ?_ | with_reducible refine Nx.alloc ?_ _ | (with_reducible refine Nx.setCell ?_ (by simp) _)))) (fun hHeld => ?_)
        clear hK K
        try simp only [Act.put, List.setIfInBounds_toArray, List.set_cons_zero, List.set_cons_succ]
        refine wpAnyH_done (by kernel_rfl) ?_ _
        go_wp2
        go_meet
        exact ⟨rfl, hnew rfl, ((Nx.refl _).alloc _).drew⟩
      · exact AllReadyH.nil
    · exact AllReadyH.nil
  case rest =>
    obtain ⟨rfl, hbx, hx⟩ := hcut
    have hnc := hnA.trans hx
    have hexl : wA.heap.size < wc.heap.size := lt_of_heap hbx
    have hexw : w.heap.size ≤ wA.heap.size := hnA.sz
    have HBX0 := hide hbx
    have HHX := hide hx
    clear hbx hx
    generalize hexq : wA.heap.size = ex at *
    have HEXQ := hide hexq
    clear hexq
    have t4 : wc.cell? ⟨a.T, 4, none⟩ = some (.slice (some ⟨a.gL, 0, none⟩) nn nn) := (cell_of_row wc _ 4 _ _ _ (HT.out.nx hnc).hT).trans rfl
    have x1 := intRow_cell (HT.out.nx hnc).hL (i := b) (by rw [HT.out.lL]; exact hb)
    generalize gi s.last b = z1 at *
    obtain ⟨bz, hbz⟩ : ∃ bz, bz = wc.heap.size := ⟨_, rfl⟩
    have hexl' : ex < bz := by omega
    have hro : wc.ownsRow bz 9 1 (.slice none 0 0) ([] : List ByteArray).length (([] : List ByteArray).flatMap encS) := World.ownsRow_nil _ _ _ _
    have HRO := hide hro
    clear hro HELD tf
    have hal := HM.out.box.al
    go_wp2_with fail
    clear t4 x1
    go_loopg [7] l.length (fun f v wr => ∃ (k : Int) (rest : List Nat) (acc : List ByteArray) (vr : Value), v = .int .i64 k ∧ Chain rs.length s.prev k rest ∧ keysOf rs l = acc ++ keysOf rs rest ∧ acc.length + rest.length = l.length ∧ rest.length ≤ f ∧ wr.heap[ex]? = some (.cells #[vr, .int .i64 ad, .int .i64 z] 90 (0, 0)) ∧ wr.ownsRow bz 9 1 vr acc.length (acc.flatMap encS) ∧ Gr ex wc wr)
    case atStart => exact ⟨z1, l, [], .slice none 0 0, rfl, HCH.out, rfl, by simp, Nat.le_refl _, HBX0.out, HRO.out, Gr.refl _ _⟩
    case round =>
      clear HBX0 HRO HCH
      obtain ⟨k, rest, acc, vr, rfl, hch, hkeys, hlen, hfl, hbx, hrow, hgr⟩ := hrel
      have HBX := hide hbx
      have HROW := hide hrow
      have HGR := hide hgr
      have HKEYS := hide hkeys
      have HLEN := hide hlen
      have hnw : Nx w wr := Nx.of_gr ((Gr.of_nx hnc).trans hgr) hexw
      have hsz := hgr.sz
      clear hkeys hrow hbx
      cases hch with
      | nil =>
        obtain ⟨Z, cz, rfl, _, _⟩ := Rd.of_own encS_len rfl HROW.out
        have hky : keysOf rs l = acc := by rw [HKEYS.out]; simp [keysOf]
        have HKY := hide hky
        clear hky
        have x4 : wr.cell? ⟨ex, 0, none⟩ = some (.slice Z acc.length cz) := (cell_of_row wr _ 0 _ _ _ HBX.out).trans rfl
        have hal2 : acc.length ≤ 65536 := by have := HLEN.out; simp at this; omega
        have hlo := own_blk_lt HROW.out
        have HLO := hide hlo
        have tk : decide ((0 : Int) ≤ (-1 : Int)) = false := by decide
        clear hlo
        have HK := hide (w_RevS bz _ acc wr HROW.out hal2)
        have hr4 : wr.heap[w.heap.size]? = some (.cells #[.slice none 0 0, .int .i64 0, .int .i64 0] 90 (0, 0)) := by
          have h0 : wA.heap[w.heap.size]? = some (.cells #[.slice none 0 0, .int .i64 0, .int .i64 0] 90 (0, 0)) := by rw [HWA.out]; exact hnew rfl
          have hwA : w.heap.size < wA.heap.size := lt_of_heap h0
          exact (HGR.out.block _ (lt_of_heap ((HHX.out.block _ hwA).trans h0)) (fun e => by have := HEXQ.out; injection e with e; omega)).trans ((HHX.out.block _ hwA).trans h0)
        have HR4 := hide hr4
        have hne4 : w.heap.size ≠ ex := by
          have h0 : w.heap.size < wA.heap.size := by rw [HWA.out]; simp
          have := HEXQ.out
          omega
        go_wp2_with fail
        refine (HK.out).mono ?_
        rintro e w' ⟨rfl, hown, hg⟩
        have b7 : w'.heap[ex]? = some (.cells #[.slice Z acc.length cz, .int .i64 ad, .int .i64 z] 90 (0, 0)) := (hg.block ex (by have := lt_of_heap HBX.out; omega) (fun e => by have := HLO.out _ e.symm; omega)).trans HBX.out
        have b4 : w'.heap[w.heap.size]? = some (.cells #[.slice none 0 0, .int .i64 0, .int .i64 0] 90 (0, 0)) := (hg.block _ (lt_of_heap HR4.out) (fun e => by have := HLO.out _ e.symm; omega)).trans HR4.out
        have HOWN := hide hown
        have HG := hide hg
        clear hown hg hr4 x4
        have y0 : w'.cell? ⟨ex, 0, none⟩ = some (.slice Z acc.length cz) := (cell_of_row w' _ 0 _ _ _ b7).trans rfl
        have y1 : w'.cell? ⟨ex, 1, none⟩ = some (.int .i64 ad) := (cell_of_row w' _ 1 _ _ _ b7).trans rfl
        have y2 : w'.cell? ⟨ex, 2, none⟩ = some (.int .i64 z) := (cell_of_row w' _ 2 _ _ _ b7).trans rfl
        have p0 : w'.cell? ⟨w.heap.size, 0, none⟩ = some (.slice none 0 0) := (cell_of_row w' _ 0 _ _ _ b4).trans rfl
        have p1 : w'.cell? ⟨w.heap.size, 1, none⟩ = some (.int .i64 0) := (cell_of_row w' _ 1 _ _ _ b4).trans rfl
        have p2 : w'.cell? ⟨w.heap.size, 2, none⟩ = some (.int .i64 0) := (cell_of_row w' _ 2 _ _ _ b4).trans rfl
        have f0 := frozen_blkQ (j := 0) b4
        have f1 := frozen_blkQ (j := 1) b4
        have f2 := frozen_blkQ (j := 2) b4
        go_wp2_with fail
        have hk : keysOf rs l.reverse = acc.reverse := by rw [← HKY.out]; simp [keysOf, List.map_reverse]
        have hGw : Gr ex wc w' := HGR.out.grown HG.out (fun k hk => .inr (by have := HLO.out k hk; omega))
        have hnw' : Nx w w' := Nx.of_gr ((Gr.of_nx hnc).trans hGw) hexw
        have s1 := Gr.setS (Gr.refl w.heap.size w') (p := ⟨w.heap.size, 0, none⟩) (Or.inl rfl) (.slice Z acc.length cz)
        have s2 := Gr.setS s1 (p := ⟨w.heap.size, 1, none⟩) (Or.inl rfl) (.int .i64 ad)
        have hg3 := Gr.setS s2 (p := ⟨w.heap.size, 2, none⟩) (Or.inl rfl) (.int .i64 z)
        have hW := Nx.of_gr ((Gr.of_nx (s := w.heap.size) hnw').trans hg3) (Nat.le_refl _)
        have hO2 := World.ownsRow.mono (base' := w.heap.size) (World.ownsRow.kept HOWN.out hg3 (.inr (fun e => by have := HLO.out _ e; omega))) (by omega)
        obtain ⟨Z2, c2, e2, rd2, _⟩ := Rd.of_own encS_len (by simp) hO2
        injection e2 with e2 e3 e4
        subst e2
        exact bodyPost_ret (v := .tuple #[.agg #[.slice Z acc.length cz, .int .i64 ad, .int .i64 z], .bool true]) (by simp [results, Tryz.results123, go_sem, p0, p1, p2]) rfl ⟨Z, cz, by rw [hk]; simp, hk ▸ rd2, hW⟩
      | cons kk rest' hkk hch' =>
        have HC2 := hide hch'
        have hMw := HM.out.nx hnw
        obtain ⟨bA, oA, eB, _, hbA, _, hc⟩ := HM.out.box.hA.1.open_ hnw (by omega)
        have hky : wr.cell? ⟨bA, oA + kk * 5, none⟩ = some (.string (arcX rs kk).key) := by rw [arcX_get hkk]; exact hc kk hkk 0 _ rfl
        have t0 : wr.cell? ⟨a.T, 0, none⟩ = some (.pointer (some ⟨bm, 0, none⟩)) := (cell_of_row wr _ 0 _ _ _ (HT.out.nx hnw).hT).trans rfl
        have c0 := hMw.c0
        have g1 : wr.cell? ⟨g0, 1, none⟩ = some (.slice (some ⟨bA, oA, none⟩) rs.length cb) := by rw [hMw.box.g1, eB]
        have hlT := lt_of_heap HT.out.hT
        have hlb := HM.out.lt
        have hlg := HM.out.box.gl
        have hlo := own_blk_lt HROW.out
        have HS7 := hide (fun W (hk : KpA wr vr.ownBlock ex W) => (⟨hk.cell (by omega) t0 (fun e => by have := hlo _ e.symm; omega) (by omega), hk.cell (by omega) c0 (fun e => by have := hlo _ e.symm; omega) (by omega), hk.cell (by omega) g1 (fun e => by have := hlo _ e.symm; omega) (by omega), hk.cell (by omega) hky (fun e => by have := hlo _ e.symm; omega) (by omega)⟩ : W.cell? ⟨a.T, 0, none⟩ = some (.pointer (some ⟨bm, 0, none⟩)) ∧ W.cell? ⟨bm, 0, none⟩ = some (.pointer (some ⟨g0, 0, none⟩)) ∧ W.cell? ⟨g0, 1, none⟩ = some (.slice (some ⟨bA, oA, none⟩) rs.length cb) ∧ W.cell? ⟨bA, oA + kk * 5, none⟩ = some (.string (arcX rs kk).key)))
        have HLO := hide hlo
        have x4 : wr.cell? ⟨ex, 0, none⟩ = some vr := (cell_of_row wr _ 0 _ _ _ HBX.out).trans rfl
        have x4A : ∀ o, (wr.alloc o).cell? ⟨ex, 0, none⟩ = some vr := fun o => nx_cell ((Nx.refl wr).alloc o) (lt_of_heap HBX.out) x4
        have j1 : (0 : Int) ≤ (kk : Int) := by omega
        have j2 : (kk : Int) < (rs.length : Int) := by omega
        have hal2 : acc.length ≤ 400 := by have := HLEN.out; omega
        have hexl2 := lt_of_heap HBX.out
        obtain ⟨iS, zS, q1, q2, q3, q4, q5⟩ := el_SD.hi
        have E1 := hide q1
        have E2 := hide q2
        have E3 := hide q3
        have E4 := hide q4
        have E5 := hide q5
        have HKL := hide (show keysOf rs (kk :: rest') = (arcX rs kk).key :: keysOf rs rest' from rfl)
        have tk : decide ((0 : Int) ≤ (kk : Int)) = true := decide_eq_true j1
        clear q1 q2 q3 q4 q5 hc hlo hMw
        generalize (arcX rs kk).key = ky at *
        go_wp2_with fail
        refine wp_region_held_drew (S := fun w' => w'.cell? ⟨a.T, 0, none⟩ = some (.pointer (some ⟨bm, 0, none⟩)) ∧ w'.cell? ⟨bm, 0, none⟩ = some (.pointer (some ⟨g0, 0, none⟩)) ∧ w'.cell? ⟨g0, 1, none⟩ = some (.slice (some ⟨bA, oA, none⟩) rs.length cb) ∧ w'.cell? ⟨bA, oA + kk * 5, none⟩ = some (.string ky)) (by kernel_rfl) ?_ (fun hHeld => ?_)
        · exact HS7.out _ (KpA.nx (Nx.refl _).drew)
        refine wpAnyH_take (i := 0) (oi := ⟨some 45, _, _, _, _, _⟩) (v := ?_) rfl (by kernel_rfl) (by kernel_rfl) (by kernel_rfl) (fun _ _ _ h => h) (Or.inl ⟨by rfl, ?_⟩) (by assumption) ?_
        rotate_left 1
        · intro w hSw
          (try dsimp only at hSw)
          go_simp
          try with_reducible rfl
        try simp only [Act.put, List.setIfInBounds_toArray, List.set_cons_zero, List.set_cons_succ]
        refine wpAnyH_take (i := 2) (oi := ⟨some 47, _, _, _, _, _⟩) (v := ?_) rfl (by kernel_rfl) (by kernel_rfl) (by kernel_rfl) (fun _ _ _ h => h) (Or.inl ⟨by rfl, ?_⟩) (by assumption) ?_
        rotate_left 1
        · intro w hSw
          (try dsimp only at hSw)
          go_simp
          try with_reducible rfl
        try simp only [Act.put, List.setIfInBounds_toArray, List.set_cons_zero, List.set_cons_succ]
        refine wpAnyH_take (i := 3) (oi := ⟨some 48, _, _, _, _, _⟩) (v := ?_) rfl (by kernel_rfl) (by kernel_rfl) (by kernel_rfl) (fun _ _ _ h => h) (Or.inl ⟨by rfl, ?_⟩) (by assumption) ?_
        rotate_left 1
        · intro w hSw
          (try dsimp only at hSw)
          go_simp
          try with_reducible rfl
        try simp only [Act.put, List.setIfInBounds_toArray, List.set_cons_zero, List.set_cons_succ]
        refine wpAnyH_take (i := 4) (oi := ⟨some 49, _, _, _, _, _⟩) (v := ?_) rfl (by kernel_rfl) (by kernel_rfl) (by kernel_rfl) (fun _ _ _ h => h) (Or.inl ⟨by rfl, ?_⟩) (by assumption) ?_
        rotate_left 1
        · intro w hSw
          (try dsimp only at hSw)
          go_simp
          try with_reducible rfl
        try simp only [Act.put, List.setIfInBounds_toArray, List.set_cons_zero, List.set_cons_succ]
        refine wpAnyH_take (i := 5) (oi := ⟨some 50, _, _, _, _, _⟩) (v := ?_) rfl (by kernel_rfl) (by kernel_rfl) (by kernel_rfl) (fun _ _ _ h => h) (Or.inl ⟨by rfl, ?_⟩) (by assumption) ?_
        rotate_left 1
        · intro w hSw
          (try dsimp only at hSw)
          go_simp
          try with_reducible rfl
        try simp only [Act.put, List.setIfInBounds_toArray, List.set_cons_zero, List.set_cons_succ]
        refine wpAnyH_take (i := 6) (oi := ⟨some 51, _, _, _, _, _⟩) (v := ?_) rfl (by kernel_rfl) (by kernel_rfl) (by kernel_rfl) (fun _ _ _ h => h) (Or.inl ⟨by rfl, ?_⟩) (by assumption) ?_
        rotate_left 1
        · intro w hSw
          (try dsimp only at hSw)
          go_simp
          try with_reducible rfl
        try simp only [Act.put, List.setIfInBounds_toArray, List.set_cons_zero, List.set_cons_succ]
        refine wpAnyH_take (i := 7) (oi := ⟨some 52, _, _, _, _, _⟩) (v := ?_) rfl (by kernel_rfl) (by kernel_rfl) (by kernel_rfl) (fun _ _ _ h => h) (Or.inl ⟨by rfl, ?_⟩) (by assumption) ?_
        rotate_left 1
        · intro w hSw
          (try dsimp only at hSw)
          go_simp
          try with_reducible rfl
        try simp only [Act.put, List.setIfInBounds_toArray, List.set_cons_zero, List.set_cons_succ]
        refine wpAnyH_take (i := 8) (oi := ⟨some 53, _, _, _, _, _⟩) (v := ?_) rfl (by kernel_rfl) (by kernel_rfl) (by kernel_rfl) (fun _ _ _ h => h) (Or.inl ⟨by rfl, ?_⟩) (by assumption) ?_
        rotate_left 1
        · intro w hSw
          (try dsimp only at hSw)
          go_simp
          try with_reducible rfl
        try simp only [Act.put, List.setIfInBounds_toArray, List.set_cons_zero, List.set_cons_succ]
        refine wpAnyH_take (i := 9) (oi := ⟨some 54, _, _, _, _, _⟩) (v := ?_) rfl (by kernel_rfl) (by kernel_rfl) (by kernel_rfl) (fun _ _ _ h => h) (Or.inl ⟨by rfl, ?_⟩) (by assumption) ?_
        rotate_left 1
        · intro w hSw
          (try dsimp only at hSw)
          go_simp
          try with_reducible rfl
        try simp only [Act.put, List.setIfInBounds_toArray, List.set_cons_zero, List.set_cons_succ]
        refine wpAnyH_take (i := 10) (oi := ⟨some 55, _, _, _, _, _⟩) (v := ?_) rfl (by kernel_rfl) (by kernel_rfl) (by kernel_rfl) (fun _ _ _ h => h) (Or.inl ⟨by rfl, ?_⟩) (by assumption) ?_
        rotate_left 1
        · intro w hSw
          (try dsimp only at hSw)
          go_simp
          try with_reducible rfl
        try simp only [Act.put, List.setIfInBounds_toArray, List.set_cons_zero, List.set_cons_succ]
        refine wpAnyH_take (i := 11) (oi := ⟨some 56, _, _, _, _, _⟩) (v := ?_) rfl (by kernel_rfl) (by kernel_rfl) (by kernel_rfl) (fun _ _ _ h => h) (Or.inl ⟨by rfl, ?_⟩) (by assumption) ?_
        rotate_left 1
        · intro w hSw
          (try dsimp only at hSw)
          go_simp
          try with_reducible rfl
        try simp only [Act.put, List.setIfInBounds_toArray, List.set_cons_zero, List.set_cons_succ]
        refine wpAnyH_take (i := 12) (oi := ⟨some 57, _, _, _, _, _⟩) (v := ?_) rfl (by kernel_rfl) (by kernel_rfl) (by kernel_rfl) (fun _ _ _ h => h) (Or.inl ⟨by rfl, ?_⟩) (by assumption) ?_
        rotate_left 1
        · intro w hSw
          (try dsimp only at hSw)
          go_simp
          try with_reducible rfl
        try simp only [Act.put, List.setIfInBounds_toArray, List.set_cons_zero, List.set_cons_succ]
        refine wpAnyH_take (i := 13) (oi := ⟨some 58, _, _, _, _, _⟩) (v := ?_) rfl (by kernel_rfl) (by kernel_rfl) (by kernel_rfl) (fun _ _ _ h => h) (Or.inl ⟨by rfl, ?_⟩) (by assumption) ?_
        rotate_left 1
        · intro w hSw
          (try dsimp only at hSw)
          go_simp
          try with_reducible rfl
        try simp only [Act.put, List.setIfInBounds_toArray, List.set_cons_zero, List.set_cons_succ]
        refine wpAnyH_take (i := 14) (oi := ⟨some 59, _, _, _, _, _⟩) (v := ?_) rfl (by kernel_rfl) (by kernel_rfl) (by kernel_rfl) (fun _ _ _ h => h) (Or.inl ⟨by rfl, ?_⟩) (by assumption) ?_
        rotate_left 1
        · intro w hSw
          (try dsimp only at hSw)
          go_simp
          try with_reducible rfl
        try simp only [Act.put, List.setIfInBounds_toArray, List.set_cons_zero, List.set_cons_succ]
        refine wpAnyH_take (i := 15) (oi := ⟨some 60, _, _, _, _, _⟩) (v := ?_) rfl (by kernel_rfl) (by kernel_rfl) (by kernel_rfl) (fun _ _ _ h => h) (Or.inl ⟨by rfl, ?_⟩) (by assumption) ?_
        rotate_left 1
        · intro w hSw
          (try dsimp only at hSw)
          go_simp
          try with_reducible rfl
        try simp only [Act.put, List.setIfInBounds_toArray, List.set_cons_zero, List.set_cons_succ]
        refine wpAnyH_ready (rs := [1, 16]) (by kernel_rfl) (by simp) ?_
        refine AllReadyH.cons rfl (fun K hK => ?_) ?_
        · go_simp
          refine hK.out _ _ (HS7.out _ (by repeat (first | assumption | (with_reducible refine KpA.set ?_ _) | (with_reducible refine KpA.drew ?_) | (refine KpA.nx (by repeat (first | with_reducible exact Nx.refl _ | with_reducible refine Nx.drew ?_ | with_reducible refine Nx.alloc ?_ _)))))) (fun hHeld => ?_)
          clear hK K
          try simp only [Act.put, List.setIfInBounds_toArray, List.set_cons_zero, List.set_cons_succ]
          refine wpAnyH_ready (rs := [16]) (by kernel_rfl) (by simp) ?_
          refine AllReadyH.cons rfl (fun K hK => ?_) ?_
          · go_simp
            refine hK.out _ _ (HS7.out _ (by repeat (first | assumption | (with_reducible refine KpA.set ?_ _) | (with_reducible refine KpA.drew ?_) | (refine KpA.nx (by repeat (first | with_reducible exact Nx.refl _ | with_reducible refine Nx.drew ?_ | with_reducible refine Nx.alloc ?_ _)))))) (fun hHeld => ?_)
            clear hK K
            try simp only [Act.put, List.setIfInBounds_toArray, List.set_cons_zero, List.set_cons_succ]
            refine wpAnyH_ready (rs := [17]) (by kernel_rfl) (by simp) ?_
            refine AllReadyH.cons rfl (fun K hK => ?_) ?_
            · (refine step_append_lies _ rfl _ _ _ rfl bz _ iS zS 1 16 Tryz.underlying32 E1.out E2.out E3.out E4.out E5.out (by omega) vr acc.length (acc.flatMap encS) rfl (own_nx HROW.out (by repeat (first | with_reducible exact Nx.refl _ | with_reducible refine Nx.drew ?_ | with_reducible refine Nx.alloc ?_ _))) _ 1 1 [.string ky] rfl rfl (news_of (hnew rfl) rfl) (by intro u hu; simp at hu; subst hu; rfl) (by omega) (by unfold maxLen; omega) (by omega) (by simp; omega) _ rfl ?_; intro g6 c6 w6 hown6 hg6 hat6 hlt6; (have hkp6 : KpA wr vr.ownBlock ex w6 := KpA.app (by repeat (first | with_reducible exact Nx.refl _ | with_reducible refine Nx.drew ?_ | with_reducible refine Nx.alloc ?_ _)) hg6); (have b7 : w6.heap[ex]? = some (.cells #[vr, .int .i64 ad, .int .i64 z] 90 (0, 0)) := (hg6.block ex (by simp; omega) (fun e => by have := HLO.out _ e.symm; omega)).trans ((((Nx.refl wr).alloc _).block _ (by omega)).trans HBX.out)); (have x4 : w6.cell? ⟨ex, 0, none⟩ = some vr := (cell_of_row w6 _ 0 _ _ _ b7).trans rfl); (have f4 := frozen_blkQ (j := 0) b7))
              refine hK.out _ _ (HS7.out _ (by repeat (first | assumption | (with_reducible refine KpA.set ?_ _) | (with_reducible refine KpA.drew ?_) | (refine KpA.nx (by repeat (first | with_reducible exact Nx.refl _ | with_reducible refine Nx.drew ?_ | with_reducible refine Nx.alloc ?_ _)))))) (fun hHeld => ?_)
              clear hK K
              try simp only [Act.put, List.setIfInBounds_toArray]
              refine wpAnyH_take (i := 18) (oi := ⟨some 63, _, _, _, _, _⟩) (v := ?_) rfl (by kernel_rfl) (by kernel_rfl) (by kernel_rfl) (fun _ _ _ h => h) (Or.inl ⟨by rfl, ?_⟩) (by assumption) ?_
              rotate_left 1
              · intro w hSw
                (try dsimp only at hSw)
                go_simp
                try with_reducible rfl
              try simp only [Act.put]
              refine wpAnyH_ready (rs := [19]) (by kernel_rfl) (by simp) ?_
              refine AllReadyH.cons rfl (fun K hK => ?_) ?_
              · go_simp
                refine hK.out _ _ (HS7.out _ (by repeat (first | assumption | (with_reducible refine KpA.set ?_ _) | (with_reducible refine KpA.drew ?_) | (refine KpA.nx (by repeat (first | with_reducible exact Nx.refl _ | with_reducible refine Nx.drew ?_ | with_reducible refine Nx.alloc ?_ _)))))) (fun hHeld => ?_)
                clear hK K
                try simp only [Act.put, List.setIfInBounds_toArray, List.set_cons_zero, List.set_cons_succ]
                refine wpAnyH_done (by kernel_rfl) ?_ _
                have hB : (w6.setCell ⟨ex, 0, none⟩ (.slice (some ⟨g6, 0, none⟩) (acc.length + 1) c6)).heap[ex]? = some (.cells #[.slice (some ⟨g6, 0, none⟩) (acc.length + 1) c6, .int .i64 ad, .int .i64 z] 90 (0, 0)) := heap_set b7
                have hO : (w6.setCell ⟨ex, 0, none⟩ (.slice (some ⟨g6, 0, none⟩) (acc.length + 1) c6)).ownsRow bz 9 1 (.slice (some ⟨g6, 0, none⟩) (acc.length + 1) c6) (acc.length + 1) (acc.flatMap encS ++ [.string ky]) := World.ownsRow.kept hown6 (show w6.grownBy _ (some ex) from (Gr.refl ex w6).setS (.inl rfl) _) (.inr (fun e => by have := own_blk_lt hown6 _ e; omega))
                have hG : Gr ex wc (w6.setCell ⟨ex, 0, none⟩ (.slice (some ⟨g6, 0, none⟩) (acc.length + 1) c6)) := ((Gr.trans (Gr.trans HGR.out (Gr.of_nx (by repeat (first | with_reducible exact Nx.refl _ | with_reducible refine Nx.drew ?_ | with_reducible refine Nx.alloc ?_ _)))) (Gr.refl ex _)).grown hg6 (fun k hk => .inr (by have := HLO.out k hk; omega))).setS (.inl rfl) _
                clear x4 x4A f4 b7 hkp6 hown6 hg6
                generalize w6.setCell ⟨ex, 0, none⟩ (.slice (some ⟨g6, 0, none⟩) (acc.length + 1) c6) = wx at *
                generalize (Value.slice (some ⟨g6, 0, none⟩) (acc.length + 1) c6) = v6 at *
                have hnx : Nx w wx := Nx.of_gr ((Gr.of_nx hnc).trans hG) hexw
                have t5 : wx.cell? ⟨a.T, 5, none⟩ = some (.slice (some ⟨a.gP, 0, none⟩) rs.length rs.length) := (cell_of_row wx _ 5 _ _ _ (HT.out.nx hnx).hT).trans rfl
                have x5 := intRow_cell (HT.out.nx hnx).hP (i := kk) (by rw [HT.out.lP]; exact hkk)
                have HB := hide hB
                have HO := hide hO
                have HG := hide hG
                clear hB hO hG t0 c0 g1
                generalize hz5 : gi s.prev kk = z5 at *
                have HC5 := hide (show Chain rs.length s.prev z5 rest' from hz5 ▸ HC2.out)
                clear hz5
                go_wp2_with fail
                go_roundg (gk - 1)
                case rel => exact ⟨z5, rest', acc ++ [ky], v6, rfl, HC5.out, by rw [HKEYS.out, HKL.out]; simp, by have := HLEN.out; simp at *; omega, by simp at hfl; omega, HB.out, by rw [show (acc ++ [ky]).length = acc.length + 1 by simp, show (acc ++ [ky]).flatMap encS = acc.flatMap encS ++ [.string ky] by simp [encS]]; exact HO.out, HG.out⟩
                case measure => simp at hfl; omega
              · exact AllReadyH.nil
            · exact AllReadyH.nil
          · exact AllReadyH.nil
        refine AllReadyH.cons rfl (fun K hK => ?_) ?_
        · go_simp
          refine hK.out _ _ (HS7.out _ (by repeat (first | assumption | (with_reducible refine KpA.set ?_ _) | (with_reducible refine KpA.drew ?_) | (refine KpA.nx (by repeat (first | with_reducible exact Nx.refl _ | with_reducible refine Nx.drew ?_ | with_reducible refine Nx.alloc ?_ _)))))) (fun hHeld => ?_)
          clear hK K
          try simp only [Act.put, List.setIfInBounds_toArray, List.set_cons_zero, List.set_cons_succ]
          refine wpAnyH_ready (rs := [1]) (by kernel_rfl) (by simp) ?_
          refine AllReadyH.cons rfl (fun K hK => ?_) ?_
          · go_simp
            refine hK.out _ _ (HS7.out _ (by repeat (first | assumption | (with_reducible refine KpA.set ?_ _) | (with_reducible refine KpA.drew ?_) | (refine KpA.nx (by repeat (first | with_reducible exact Nx.refl _ | with_reducible refine Nx.drew ?_ | with_reducible refine Nx.alloc ?_ _)))))) (fun hHeld => ?_)
            clear hK K
            try simp only [Act.put, List.setIfInBounds_toArray, List.set_cons_zero, List.set_cons_succ]
            refine wpAnyH_ready (rs := [17]) (by kernel_rfl) (by simp) ?_
            refine AllReadyH.cons rfl (fun K hK => ?_) ?_
            · (refine step_append_lies _ rfl _ _ _ rfl bz _ iS zS 1 16 Tryz.underlying32 E1.out E2.out E3.out E4.out E5.out (by omega) vr acc.length (acc.flatMap encS) rfl (own_nx HROW.out (by repeat (first | with_reducible exact Nx.refl _ | with_reducible refine Nx.drew ?_ | with_reducible refine Nx.alloc ?_ _))) _ 1 1 [.string ky] rfl rfl (news_of (hnew rfl) rfl) (by intro u hu; simp at hu; subst hu; rfl) (by omega) (by unfold maxLen; omega) (by omega) (by simp; omega) _ rfl ?_; intro g6 c6 w6 hown6 hg6 hat6 hlt6; (have hkp6 : KpA wr vr.ownBlock ex w6 := KpA.app (by repeat (first | with_reducible exact Nx.refl _ | with_reducible refine Nx.drew ?_ | with_reducible refine Nx.alloc ?_ _)) hg6); (have b7 : w6.heap[ex]? = some (.cells #[vr, .int .i64 ad, .int .i64 z] 90 (0, 0)) := (hg6.block ex (by simp; omega) (fun e => by have := HLO.out _ e.symm; omega)).trans ((((Nx.refl wr).alloc _).block _ (by omega)).trans HBX.out)); (have x4 : w6.cell? ⟨ex, 0, none⟩ = some vr := (cell_of_row w6 _ 0 _ _ _ b7).trans rfl); (have f4 := frozen_blkQ (j := 0) b7))
              refine hK.out _ _ (HS7.out _ (by repeat (first | assumption | (with_reducible refine KpA.set ?_ _) | (with_reducible refine KpA.drew ?_) | (refine KpA.nx (by repeat (first | with_reducible exact Nx.refl _ | with_reducible refine Nx.drew ?_ | with_reducible refine Nx.alloc ?_ _)))))) (fun hHeld => ?_)
              clear hK K
              try simp only [Act.put, List.setIfInBounds_toArray]
              refine wpAnyH_take (i := 18) (oi := ⟨some 63, _, _, _, _, _⟩) (v := ?_) rfl (by kernel_rfl) (by kernel_rfl) (by kernel_rfl) (fun _ _ _ h => h) (Or.inl ⟨by rfl, ?_⟩) (by assumption) ?_
              rotate_left 1
              · intro w hSw
                (try dsimp only at hSw)
                go_simp
                try with_reducible rfl
              try simp only [Act.put]
              refine wpAnyH_ready (rs := [19]) (by kernel_rfl) (by simp) ?_
              refine AllReadyH.cons rfl (fun K hK => ?_) ?_
              · go_simp
                refine hK.out _ _ (HS7.out _ (by repeat (first | assumption | (with_reducible refine KpA.set ?_ _) | (with_reducible refine KpA.drew ?_) | (refine KpA.nx (by repeat (first | with_reducible exact Nx.refl _ | with_reducible refine Nx.drew ?_ | with_reducible refine Nx.alloc ?_ _)))))) (fun hHeld => ?_)
                clear hK K
                try simp only [Act.put, List.setIfInBounds_toArray, List.set_cons_zero, List.set_cons_succ]
                refine wpAnyH_done (by kernel_rfl) ?_ _
                have hB : (w6.setCell ⟨ex, 0, none⟩ (.slice (some ⟨g6, 0, none⟩) (acc.length + 1) c6)).heap[ex]? = some (.cells #[.slice (some ⟨g6, 0, none⟩) (acc.length + 1) c6, .int .i64 ad, .int .i64 z] 90 (0, 0)) := heap_set b7
                have hO : (w6.setCell ⟨ex, 0, none⟩ (.slice (some ⟨g6, 0, none⟩) (acc.length + 1) c6)).ownsRow bz 9 1 (.slice (some ⟨g6, 0, none⟩) (acc.length + 1) c6) (acc.length + 1) (acc.flatMap encS ++ [.string ky]) := World.ownsRow.kept hown6 (show w6.grownBy _ (some ex) from (Gr.refl ex w6).setS (.inl rfl) _) (.inr (fun e => by have := own_blk_lt hown6 _ e; omega))
                have hG : Gr ex wc (w6.setCell ⟨ex, 0, none⟩ (.slice (some ⟨g6, 0, none⟩) (acc.length + 1) c6)) := ((Gr.trans (Gr.trans HGR.out (Gr.of_nx (by repeat (first | with_reducible exact Nx.refl _ | with_reducible refine Nx.drew ?_ | with_reducible refine Nx.alloc ?_ _)))) (Gr.refl ex _)).grown hg6 (fun k hk => .inr (by have := HLO.out k hk; omega))).setS (.inl rfl) _
                clear x4 x4A f4 b7 hkp6 hown6 hg6
                generalize w6.setCell ⟨ex, 0, none⟩ (.slice (some ⟨g6, 0, none⟩) (acc.length + 1) c6) = wx at *
                generalize (Value.slice (some ⟨g6, 0, none⟩) (acc.length + 1) c6) = v6 at *
                have hnx : Nx w wx := Nx.of_gr ((Gr.of_nx hnc).trans hG) hexw
                have t5 : wx.cell? ⟨a.T, 5, none⟩ = some (.slice (some ⟨a.gP, 0, none⟩) rs.length rs.length) := (cell_of_row wx _ 5 _ _ _ (HT.out.nx hnx).hT).trans rfl
                have x5 := intRow_cell (HT.out.nx hnx).hP (i := kk) (by rw [HT.out.lP]; exact hkk)
                have HB := hide hB
                have HO := hide hO
                have HG := hide hG
                clear hB hO hG t0 c0 g1
                generalize hz5 : gi s.prev kk = z5 at *
                have HC5 := hide (show Chain rs.length s.prev z5 rest' from hz5 ▸ HC2.out)
                clear hz5
                go_wp2_with fail
                go_roundg (gk - 1)
                case rel => exact ⟨z5, rest', acc ++ [ky], v6, rfl, HC5.out, by rw [HKEYS.out, HKL.out]; simp, by have := HLEN.out; simp at *; omega, by simp at hfl; omega, HB.out, by rw [show (acc ++ [ky]).length = acc.length + 1 by simp, show (acc ++ [ky]).flatMap encS = acc.flatMap encS ++ [.string ky] by simp [encS]]; exact HO.out, HG.out⟩
                case measure => simp at hfl; omega
              · exact AllReadyH.nil
            · exact AllReadyH.nil
          · exact AllReadyH.nil
        exact AllReadyH.nil
end Go.Proofs.YtmpnilliichpfaaGreatDoor
/- A region that draws, walked by hand: the condition may be made stronger on the way. Of no program. -/
namespace Go.Proofs.YtmpnilliichpfaaGreatDoor
open Go

section
variable {P : Program} {ops : Array Oper} {Q : Exit → Act → World → Prop} {md : Region.Mode} {S S' : World → Prop}
/-- From here on more holds than S. -/
theorem wpAnyH_more (h : ∀ w, S' w → S w) : ∀ (fuel : Nat) (listed : Array Bool) (a : Act) (w : World), wpAnyH P md ops Q S' fuel listed a w → wpAnyH P md ops Q S fuel listed a w
  | 0, _, _, _, hh => hh
  | fuel + 1, _, _, _, hh => ⟨hh.1, fun i hi => wpOp_mono (fun a' w' h' => ⟨h w' h'.1, wpAnyH_more h fuel _ a' w' h'.2⟩) (hh.2 i hi)⟩
end
end Go.Proofs.YtmpnilliichpfaaGreatDoor
/- Right roads are what New wants. -/
namespace Go.Proofs.YtmpnilliichpfaaGreatDoor
open Go.RowKit

theorem nodeF_key {p : Option Node} {n : Node} (h : nodeF p n = 0) : keyB n.key = true := by
  unfold nodeF at h
  cases hk : keyB n.key with
  | true => rfl
  | false => rw [hk, if_neg (by simp)] at h; exact absurd h (by decide)
theorem nodes_keys {ns : List Node} (h : nodesF ns = 0) : ∀ x ∈ ns, keyB x.key = true := by
  unfold nodesF at h
  by_cases h0 : 500 < ns.length
  · rw [if_pos h0] at h; exact absurd h (by decide)
  · rw [if_neg h0] at h
    exact chk_all (F := nodeF) (Q := fun n => keyB n.key = true) (fun p x hx => nodeF_key hx) ns none h
theorem mem_getD {α : Type} [Inhabited α] {l : List α} {k : Nat} (h : k < l.length) : l.getD k default ∈ l := by
  rw [List.getD_eq_getElem?_getD, List.getElem?_eq_getElem h]
  exact List.getElem_mem h
theorem arc_key_found {rs : List Arc} {s : ByteArray} (h : 0 ≤ arcI rs s) : ∃ a ∈ rs, a.key = s := by
  rcases findI_bd (fun n : Arc => decide (n.key = s)) rs with h1 | ⟨i, hi, e⟩
  · exact absurd h (by unfold arcI; omega)
  · exact ⟨rs.getD i default, mem_getD hi, by simpa using (findI_sat _ rs e).2⟩
theorem banF_ok {rs : List Arc} {p : Option Ban} {b : Ban} (h : banF rs p b = 0) : 0 ≤ arcI rs b.from_ ∧ 0 ≤ arcI rs b.to_ := by
  unfold banF at h
  by_cases hg : banG rs b = 0
  · unfold banG at hg
    split at hg
    · exact absurd hg (by decide)
    · omega
  · rw [if_neg hg] at h; exact absurd h hg
theorem newOk_of {ns : List Node} {rs : List Arc} {bs : List Ban} (h : roadsF ns rs bs = 0) : NewOk ns rs bs := by
  obtain ⟨h1, h2, h3⟩ := roads_ok h
  have hkn : ∀ x ∈ ns, domS x.key := fun x hx => key_small (nodes_keys h1 x hx)
  have hk : ∀ x ∈ rs, keyB x.key = true ∧ arcG ns x = 0 := chk_all (F := arcF ns) (Q := fun a => keyB a.key = true ∧ arcG ns a = 0) (fun p x hx => arcF_ok hx) rs none h2
  have hnode : ∀ s, 0 ≤ nodeI ns s → domS s := fun s hs => by
    obtain ⟨i, hi, _, e⟩ := node_found hs
    rw [← e]
    exact hkn _ (mem_getD hi)
  have harc : ∀ s, 0 ≤ arcI rs s → domS s := fun s hs => by
    obtain ⟨a, ha, e⟩ := arc_key_found hs
    rw [← e]
    exact key_small (hk a ha).1
  refine ⟨sortN_of h1, sortA_of h2, hkn, fun x hx => ?_, fun x hx => ?_⟩
  · obtain ⟨a1, a2, _, _, _⟩ := arcG_ok (hk x hx).2
    exact ⟨key_small (hk x hx).1, hnode _ a1, hnode _ a2, a1, a2⟩
  · have := chk_all (F := banF rs) (Q := fun b => 0 ≤ arcI rs b.from_ ∧ 0 ≤ arcI rs b.to_) (fun p x hx => banF_ok hx) bs none h3 x hx
    exact ⟨harc _ this.1, harc _ this.2, this.1, this.2⟩
theorem nodeI_small {ns : List Node} {rs : List Arc} {bs : List Ban} (h : roadsF ns rs bs = 0) {s : ByteArray} (hs : 0 ≤ nodeI ns s) : domS s := by
  obtain ⟨i, hi, _, e⟩ := node_found hs
  rw [← e]
  exact (newOk_of h).kn _ (mem_getD hi)
end Go.Proofs.YtmpnilliichpfaaGreatDoor
/- Both ends of a way asked for. -/
namespace Go.Proofs.YtmpnilliichpfaaGreatDoor
open Go.RowKit
set_option maxRecDepth 100000 in
set_option maxHeartbeats 4000000 in
theorem w_Ends (g0 lo : Nat) (A B C : Option Addr) (ca cb cc : Nat) (ns : List Node) (rs : List Arc) (bs : List Ban) (f t : ByteArray) (ad : Int) (i j : Nat) (w : World) (hBox : BoxR w g0 lo A B C ca cb cc ns rs bs) (hS : SmallN ns) (hF : roadsF ns rs bs = 0) (hOK : NewOk ns rs bs) (hi : nodeI ns f = (i : Int)) (hj : nodeI ns t = (j : Int)) (ha : momB ad = true) :
    Calls Tryz.prog 97 #[.pointer (some ⟨g0, 0, none⟩), .string f, .string t, .int .i64 ad] w fun e w' => ∃ (bm : Nat) (M : MapA), e = .returned (.tuple #[.pointer (some ⟨bm, 0, none⟩), .int .i64 (i : Int), .int .i64 (j : Int), .int .i64 0]) ∧ w.heap.size ≤ bm ∧ MapR w' bm g0 lo A B C ca cb cc M ns rs bs ∧ Nx w w' := by
  have b0 := hBox.g0
  have b1 := hBox.g1
  have b2 := hBox.g2
  have HC := hide (w_CheckRoads lo lo lo A B C ca cb cc ns rs bs w hBox.hN hS hBox.nl hBox.hA hBox.al hBox.hB hBox.bl)
  have HB := hide hBox
  have HF := hide hF
  have HOK := hide hOK
  have HI := hide hi
  have HJ := hide hj
  have ti : decide ((i : Int) < 0) = false := decide_eq_false (by omega)
  have tj : decide ((j : Int) < 0) = false := decide_eq_false (by omega)
  clear hBox hF hOK hi hj
  go_enter Tryz.func97, Tryz.ntmps97
  go_wp2_with fail
  refine (HC.out).mono ?_
  rintro e w1 ⟨rfl, hn1⟩
  rw [HF.out]
  clear b0 b1 b2
  have HN1 := hide hn1
  clear hn1
  go_wp2_with fail
  have hb1 := HB.out.nx HN1.out
  have hA := w_nodeR g0 lo A ca ns f w1 hb1.g0 hb1.hN (by have := hb1.nl; omega) HOK.out.sn
  rw [HI.out] at hA
  refine hA.mono ?_
  rintro e w2 ⟨rfl, hn2⟩
  have HN2 := hide (HN1.out.trans hn2)
  clear hn2 hA hb1
  go_wp2_with fail
  have hb1 := HB.out.nx HN2.out
  have hA := w_nodeR g0 lo A ca ns t w2 hb1.g0 hb1.hN (by have := hb1.nl; omega) HOK.out.sn
  rw [HJ.out] at hA
  refine hA.mono ?_
  rintro e w3 ⟨rfl, hn3⟩
  have HN3 := hide (HN2.out.trans hn3)
  clear hn3 hA hb1
  go_wp2_with fail
  refine (w_Moment _ _).mono ?_
  rintro e w4 ⟨rfl, rfl⟩
  rw [ha]
  go_wp2_with fail
  refine (w_New g0 lo A B C ca cb cc ns rs bs w3 (HB.out.nx HN3.out) HOK.out).mono ?_
  rintro e w5 ⟨bm, M, rfl, hbm, hM, hn5⟩
  have HM := hide hM
  have HN5 := hide (HN3.out.trans hn5)
  have HBM := hide (Nat.le_trans HN3.out.sz hbm)
  clear hM hn5 hbm
  go_wp2_with fail
  exact bodyPost_ret (v := .tuple #[.pointer (some ⟨bm, 0, none⟩), .int .i64 (i : Int), .int .i64 (j : Int), .int .i64 0]) (by simp [results, Tryz.results97, go_sem]) rfl ⟨bm, M, rfl, HBM.out, HM.out, HN5.out⟩
end Go.Proofs.YtmpnilliichpfaaGreatDoor
/- Knots: rows, clones. -/
namespace Go.Proofs.YtmpnilliichpfaaGreatDoor
open Go.RowKit Go.Proofs Go.Shelf

theorem el_Knot : ElemOf Tryz.prog 61 112 2 16 := ElemOf.mk' (z := .agg #[.int .i64 0, .int .i64 0]) Tryz.underlying61 (by kernel_rfl) rfl
theorem encKnot_one (x : Knot) : ∀ v ∈ encKnot x, v.oneCell' = true := by
  intro v hv; simp [encKnot] at hv; rcases hv with rfl | rfl <;> rfl
set_option maxRecDepth 100000 in
set_option maxHeartbeats 400000 in
theorem w_CloneK (lo : Nat) (A : Option Addr) (c : Nat) (l : List Knot) (w : World) (hR : Rd w lo A 2 encKnot l) (hl : l.length ≤ 100000) :
    Calls Tryz.prog 105 #[.slice A l.length c] w fun e w' => ∃ v, e = .returned v ∧ w'.ownsRow w.heap.size 112 2 v l.length (l.flatMap encKnot) ∧ Nx w w' := by
  have q22 : ∀ (w : World) (a : Option Addr) (n c n' c' : Nat), (binOp .eql 61 (.slice a n c) (.slice none n' c')).run Tryz.prog w = .ok (.bool a.isNone) w := fun w a n c n' c' => Lib.run_eql_slice_nil w _ _ a n c n' c' Tryz.underlying61
  cases A with
  | none =>
    have hy : l = [] := by
      rcases l with _ | ⟨y, l⟩
      · rfl
      · obtain ⟨b, off, e, _⟩ := hR (by simp); cases e
    subst hy
    go_enter Tryz.func105, Tryz.ntmps105
    go_wp2
    go_ret
    exact ⟨_, rfl, World.ownsRow_nil _ _ _ _, Nx.refl _⟩
  | some a =>
    have hst := own_lit (w := w.alloc (.cells #[] 112)) (e := 112) (g := w.heap.size) (n := 0) (m := 0) (base := w.heap.size) (xs := ([] : List Knot)) encKnot_len (hnew rfl) (Nat.le_refl _) rfl rfl (Nat.le_refl _) (by unfold maxLen; omega)
    have HST := hide hst
    have HR := hide hR
    clear hst hR
    generalize hn : l.length = n at *
    have HN := hide hn
    clear hn
    go_enter Tryz.func105, Tryz.ntmps105
    go_wp2_with (at_builtin; refine wpAppL rfl _ _ _ rfl el_Knot encKnot encKnot_len encKnot_one (by omega) (by omega) w.heap.size _ [] rfl HST.out (some a) c l (by rw [HN.out]; rfl) (HR.out.nx ((Nx.refl _).alloc _)) (by have := HN.out; simp; omega) (by simp) ?_; intro v2 w2 hown2 hg2)
    go_ret
    rw [List.nil_append, HN.out] at hown2
    refine ⟨_, rfl, hown2, ?_⟩
    exact ((Nx.refl w).alloc _).grown hg2 (own_blk_lt HST.out)

end Go.Proofs.YtmpnilliichpfaaGreatDoor
