/- The stream's drives. -/
import Derived.Test.YtbhlldpmklkeoaaGreatDoorQG33
import Derived.Test.YtbhlldpmklkeoaaGreatDoorQAtR
import Derived.Test.YtbhlldpmklkeoaaGreatDoorQStrS
import Derived.Deep.RegionHeld3
import Derived.Deep.AppendLies
import Derived.Test.YtbhlldpmklkeoaaGreatDoorQRoadN
import Derived.Deep.DeepCutAuto
import Derived.Test.YtbhlldpmklkeoaaGreatDoorQG1
namespace Go.Proofs.YtbhlldpmklkeoaaGreatDoor
open Go.RowKit

theorem el_SD : ElemOf Tryz.prog 49 9 1 16 := ElemOf.mk' (z := .string ByteArray.empty) Tryz.underlying49 (by kernel_rfl) rfl
theorem idxP_mem {α : Type} (p : α → Bool) : ∀ (l : List α) (j : Nat), (∃ a ∈ l, p a = true) → 0 ≤ idxP p l j
  | [], _, h => by obtain ⟨_, h, _⟩ := h; exact absurd h (by simp)
  | n :: l, j, h => by
    unfold idxP
    split
    · omega
    · rename_i hn
      obtain ⟨a, ha, hp⟩ := h
      rcases List.mem_cons.1 ha with rfl | ha
      · exact absurd hp hn
      · exact idxP_mem p l (j + 1) ⟨a, ha, hp⟩
theorem arcI_mem {rs : List Arc} {s : ByteArray} (h : ∃ a ∈ rs, a.key = s) : 0 ≤ arcI rs s := by
  obtain ⟨a, ha, e⟩ := h
  exact idxP_mem _ rs 0 ⟨a, ha, decide_eq_true e⟩
/-- Some strings in a row of the call's own. -/
def StrDr (s k : Nat) (w : World) (e : Ending) (w' : World) : Prop := ∃ (Z : Option Addr) (cz : Nat) (l : List ByteArray), e = .returned (.slice Z l.length cz) ∧ l.length ≤ 6 ∧ Rd w' w.heap.size Z 1 encS l ∧ Gr s w w' ∧ Str w' s k
set_option maxRecDepth 100000 in
set_option maxHeartbeats 8000000 in
theorem w_Drive (s k lo : Nat) (A B C : Option Addr) (nn nb ca cb cc : Nat) (rs : List Arc) (fr : ByteArray) (w : World) (hS : Str w s k) (hk : k < 700000) (hR : Rd w lo B 5 encArc rs) (hl : rs.length ≤ 10) (hlo : s < lo) :
    Calls Tryz.prog 16 #[.pointer (some ⟨s, 0, none⟩), .agg #[.slice A nn ca, .slice B rs.length cb, .slice C nb cc], .string fr] w (StrDr s (k + 60) w) := by
  have hsl := hS.lt
  obtain ⟨wa, hwa⟩ : ∃ wa, wa = w.alloc (.cells #[.slice A nn ca, .slice B rs.length cb, .slice C nb cc] 30) := ⟨_, rfl⟩
  have hna : Nx w wa := hwa ▸ (Nx.refl w).alloc _
  have hgw : w.heap.size < wa.heap.size := by rw [hwa]; simp
  have b0 : wa.cell? ⟨w.heap.size, 0, none⟩ = some (.slice A nn ca) := by rw [hwa]; go_simp
  have b1 : wa.cell? ⟨w.heap.size, 1, none⟩ = some (.slice B rs.length cb) := by rw [hwa]; go_simp
  have b2 : wa.cell? ⟨w.heap.size, 2, none⟩ = some (.slice C nb cc) := by rw [hwa]; go_simp
  have hSa := hS.nx hna
  have hRa := hR.nx hna
  have HR := hide hRa
  have HAR := hide (fun t W (hx : Gr s wa W) => w_ArcAt lo A B C nn nb ca cb cc rs t W (hRa.gr hx hlo) (by omega))
  clear hR hS hRa
  generalize hm : rs.length = m at *
  have HM := hide hm
  clear hm
  go_enter Tryz.func16, Tryz.ntmps16
  go_wp2_with fail
  rw [← hwa]
  have HWA := hide hwa
  clear hwa
  have hgs : w.heap.size ≠ s := by omega
  have HGW := hide (show w.heap.size ≤ wa.heap.size by omega)
  generalize hgg : w.heap.size = g at *
  have HGG := hide hgg
  clear hgg
  have HB0 := hide (fun W (hx : Gr s wa W) => (World.grownBy.cell (row := some s) hx b0 (by simp; omega)))
  have HB1 := hide (fun W (hx : Gr s wa W) => (World.grownBy.cell (row := some s) hx b1 (by simp; omega)))
  have HB2 := hide (fun W (hx : Gr s wa W) => (World.grownBy.cell (row := some s) hx b2 (by simp; omega)))
  clear b0 b1 b2
  refine (w_Range 0 5 _ _ _ hSa (by omega) (by omega) (by omega)).mono ?_
  rintro e w1 ⟨n5, hq1, hq2, rfl, hg1, hS1⟩
  obtain ⟨n5, rfl⟩ := Int.eq_ofNat_of_zero_le hq1
  have HG1 := hide hg1
  have HS1 := hide hS1
  clear hg1 hS1
  have hsa : s < wa.heap.size := by omega
  go_wp2_with fail
  go_loopw [2, 7, 14] (fun vf vo i wr => ∃ (j : Nat) (f : ByteArray) (zs : List ByteArray), j ≤ n5 ∧ vf = .string f ∧ i = .int .i64 j ∧ zs.length ≤ j ∧ wr.ownsRow wa.heap.size 9 1 vo zs.length (zs.flatMap encS) ∧ Gr s wa wr ∧ Str wr s (k + 1 + 11 * j)) (fun _ _ i _ => n5 - (intOf i).toNat)
  case atStart => exact ⟨0, fr, [], Nat.zero_le _, rfl, rfl, Nat.le_refl _, World.ownsRow_nil _ _ _ _, HG1.out, HS1.out⟩
  case round =>
    obtain ⟨i, f, zs, hi, rfl, rfl, hzl, hown, hgr, hSr⟩ := hrel
    clear HG1 HS1
    by_cases hlt : i < n5
    · have lt1 : decide ((i : Int) < (n5 : Int)) = true := decide_eq_true (by omega)
      obtain ⟨wk, hwk⟩ : ∃ wk, wk = wr := ⟨_, rfl⟩
      rw [← hwk] at hown hgr hSr
      rw [← hwk]
      clear hwk
      have c1 := HB1.out wk hgr
      have hzk := hgr.sz
      have hsk : s < wk.heap.size := by omega
      go_upto_region 5 with fail
      have HSk := hide hSr
      have HGk := hide hgr
      have HOk := hide hown
      clear hown hgr hSr
      go_upto_region 6 with fail
      go_loopw [8, 19] (fun vl j wr => ∃ (q : Nat) (ks : List ByteArray), q ≤ m ∧ j = .int .i64 q ∧ ks.length ≤ q ∧ (∀ x ∈ ks, ∃ a ∈ rs, a.key = x) ∧ wr.ownsRow wk.heap.size 9 1 vl ks.length (ks.flatMap encS) ∧ Gr s wk wr ∧ Str wr s (k + 1 + 11 * i + q)) (fun _ j _ => m - (intOf j).toNat)
      case atStart => exact ⟨0, [], Nat.zero_le _, rfl, Nat.le_refl _, (fun _ h => absurd h (by simp)), World.ownsRow_nil _ _ _ _, Gr.refl _ _, HSk.out.more (by omega)⟩
      case round =>
        obtain ⟨q, ks, hq, rfl, hkl, hks, hown, hgr, hSr⟩ := hrel
        have HKS := hide hks
        clear hks
        by_cases hlq : q < m
        · have hlq' : q < rs.length := by have := HM.out; omega
          have hm0 : 0 < rs.length := by omega
          have hga := HGk.out.trans hgr
          obtain ⟨ba, offa, rfl, hlb, hba, _, hca⟩ := (HR.out.gr hga hlo).open_ (Nx.refl wr) hm0
          have a0 : wr.cell? ⟨ba, offa + q * 5, none⟩ = some (.string rs[q].key) := hca q hlq' 0 _ rfl
          have a1 : wr.cell? ⟨ba, offa + q * 5 + 1, none⟩ = some (.string rs[q].from_) := hca q hlq' 1 _ rfl
          have a2 : wr.cell? ⟨ba, offa + q * 5 + 2, none⟩ = some (.string rs[q].to_) := hca q hlq' 2 _ rfl
          have a3 : wr.cell? ⟨ba, offa + q * 5 + 3, none⟩ = some (.int .i64 rs[q].long) := hca q hlq' 3 _ rfl
          have a4 : wr.cell? ⟨ba, offa + q * 5 + 4, none⟩ = some (.slice rs[q].ka rs[q].knots.length rs[q].kc) := hca q hlq' 4 _ rfl
          have HMEM := hide (⟨rs[q], List.getElem_mem hlq', rfl⟩ : ∃ a ∈ rs, a.key = rs[q].key)
          clear hca hm0
          generalize rs[q].key = x0 at *
          generalize rs[q].from_ = x1 at *
          generalize rs[q].to_ = x2 at *
          generalize rs[q].long = x3 at *
          generalize rs[q].knots.length = x4 at *
          generalize rs[q].ka = x5 at *
          generalize rs[q].kc = x6 at *
          obtain ⟨Zl, cl, el, _, _⟩ := Rd.of_own encS_len rfl hown
          subst el
          have hzr := hgr.sz
          obtain ⟨wb, hwb⟩ : ∃ wb, wb = wr.alloc (.cells #[.string x0, .string x1, .string x2, .int .i64 x3, .slice x5 x4 x6] 38) := ⟨_, rfl⟩
          have hnb : Nx wr wb := hwb ▸ (Nx.refl wr).alloc _
          have hsb : wr.heap.size < wb.heap.size := by rw [hwb]; simp
          have d0 : wb.cell? ⟨wr.heap.size, 0, none⟩ = some (.string x0) := by rw [hwb]; go_simp
          have d1 : wb.cell? ⟨wr.heap.size, 1, none⟩ = some (.string x1) := by rw [hwb]; go_simp
          have hSb := hSr.nx hnb
          have hgb := hgr.then_nx hnb
          have hob := own_nx hown hnb
          have HOB := hide hob
          clear hob hown
          cases tb : (x1.toList == f.toList)
          · go_upto_region 8 with fail
            rw [← hwb]
            have HWB := hide hwb
            clear hwb a0 a1 a2 a3 a4
            have hgs2 : wr.heap.size ≠ s := by omega
            generalize wr.heap.size = gb at *
            go_wp2_with fail
            refine (w_Flip 30 _ _ _ hSb (by omega) (by omega)).mono ?_
            rintro e w4 ⟨fl, rfl, hg4, hS4⟩
            have d0' : w4.cell? ⟨gb, 0, none⟩ = some (.string x0) := World.grownBy.cell (row := some s) hg4 d0 (by simp; omega)
            cases fl
            · go_wp2_with fail
              go_roundw
              case rel => exact ⟨q + 1, ks, by omega, by go_num, by omega, HKS.out, own_gr HOB.out hg4 hsk, hgb.trans hg4, hS4.more (by omega)⟩
              case measure => simp [intOf]; omega
            · have hz4 := hg4.sz
              have HO4 := hide (own_gr HOB.out hg4 hsk)
              go_wp2_with (at_builtin; refine wpApp rfl _ _ _ rfl el_SD encS encS_len encS_one (by omega) (by omega) wk.heap.size _ ks rfl (own_nx HO4.out ((Nx.refl w4).alloc _)) _ x0 _ rfl (hnew rfl) rfl (by omega) (by simp; omega) ?_; intro v5 w5 hown5 hg5)
              go_roundw
              case rel =>
                refine ⟨q + 1, ks ++ [x0], by omega, by go_num, by rw [List.length_append]; show ks.length + 1 ≤ _; omega, ?_, hown5, ((hgb.trans hg4).alloc _).grown hg5 (fun y hy => .inr (own_blk_lt HO4.out y hy)), ((hS4.nx ((Nx.refl w4).alloc _)).row hg5 (fun y hy => by have := own_blk_lt HO4.out y hy; omega)).more (by omega)⟩
                intro x hx
                rcases List.mem_append.1 hx with hx | hx
                · exact HKS.out x hx
                · simp at hx; subst hx; exact HMEM.out
              case measure => simp [intOf]; omega
          · go_upto_region 8 with fail
            rw [← hwb]
            have HWB := hide hwb
            clear hwb a0 a1 a2 a3 a4
            generalize wr.heap.size = gb at *
            go_wp2_with (at_builtin; refine wpApp rfl _ _ _ rfl el_SD encS encS_len encS_one (by omega) (by omega) wk.heap.size _ ks rfl (own_nx HOB.out ((Nx.refl wb).alloc _)) _ x0 _ rfl (hnew rfl) rfl (by omega) (by simp; omega) ?_; intro v5 w5 hown5 hg5)
            go_roundw
            case rel =>
              refine ⟨q + 1, ks ++ [x0], by omega, by go_num, by rw [List.length_append]; show ks.length + 1 ≤ _; omega, ?_, hown5, (hgb.alloc _).grown hg5 (fun y hy => .inr (own_blk_lt HOB.out y hy)), ((hSb.nx ((Nx.refl wb).alloc _)).row hg5 (fun y hy => by have := own_blk_lt HOB.out y hy; omega)).more (by omega)⟩
              intro x hx
              rcases List.mem_append.1 hx with hx | hx
              · exact HKS.out x hx
              · simp at hx; subst hx; exact HMEM.out
            case measure => simp [intOf]; omega
        · obtain ⟨wo, hwo⟩ : ∃ wo, wo = wr := ⟨_, rfl⟩
          rw [← hwo] at hown hgr hSr
          rw [← hwo]
          clear hwo
          have hgrk := hgr
          have hownl := hown
          clear hgr hown
          have hown := own_gr HOk.out hgrk hsa
          have hgr := HGk.out.trans hgrk
          clear HOk HGk HSk
          have hzo := hgr.sz
          have hso := hSr.lt
          by_cases hk0 : ks.length = 0
          · have t0 : ((ks.length : Int) == 0) = true := by rw [beq_iff_eq]; omega
            obtain ⟨Zl, cl, el, _, _⟩ := Rd.of_own encS_len rfl hownl
            subst el
            clear hownl
            go_wp2_with fail
            refine (w_Flip 25 _ _ _ hSr (by omega) (by omega)).mono ?_
            rintro e w8 ⟨fl, rfl, hg8, hS8⟩
            have hgr8 := hgr.trans hg8
            have hown8 := own_gr hown hg8 hsa
            cases fl
            · obtain ⟨Zo, co, eo, hRz, _⟩ := Rd.of_own encS_len rfl hown8
              subst eo
              clear hown hown8
              have HRZ := hide hRz
              clear hRz
              go_wp2_with fail
              go_ret
              exact ⟨Zo, co, zs, rfl, by omega, HRZ.out.low (by rw [HGG.out]; exact HGW.out), (Gr.of_nx hna).trans hgr8, hS8.more (by omega)⟩
            · have hz8 := hgr8.sz
              go_wp2_with fail
              refine (w_Some _ [⟨#[122, 122]⟩, ⟨#[]⟩] _ _ _ _ (hS8.nx ((Nx.refl _).alloc _)) (by omega) (hnew rfl) (by omega) rfl (by simp) (by simp)).mono ?_
              rintro e w9 ⟨r, hr, rfl, hg9, hS9⟩
              have hgr9 := (hgr8.alloc (.cells #[.string ⟨#[122, 122]⟩, .string ⟨#[]⟩] 9)).trans hg9
              have hz9 := hgr9.sz
              have hown9 := own_gr (own_nx hown8 ((Nx.refl w8).alloc (.cells #[.string ⟨#[122, 122]⟩, .string ⟨#[]⟩] 9))) hg9 hsa
              obtain ⟨Zo, co, eo, _, _⟩ := Rd.of_own encS_len rfl hown9
              subst eo
              go_wp2_with (at_builtin; refine wpApp rfl _ _ _ rfl el_SD encS encS_len encS_one (by omega) (by omega) wa.heap.size _ zs rfl (own_nx hown9 ((Nx.refl w9).alloc _)) _ r _ rfl (hnew rfl) rfl (by omega) (by simp; omega) ?_; intro v5 w5 hown5 hg5)
              obtain ⟨Z, c, eo, hRz, _⟩ := Rd.of_own encS_len rfl hown5
              subst eo
              have hlen : (zs ++ [r]).length ≤ 6 := by rw [List.length_append]; show zs.length + 1 ≤ 6; omega
              have hgr10 : Gr s wa w5 := (hgr9.alloc _).grown hg5 (fun q hq => .inr (own_blk_lt hown9 q hq))
              have hS10 : Str w5 s (k + 60) := ((hS9.nx ((Nx.refl w9).alloc _)).row hg5 (fun q hq => by have := own_blk_lt hown9 q hq; omega)).more (by omega)
              generalize zs ++ [r] = zs2 at *
              have HRZ := hide hRz
              clear hRz hown5
              go_wp2_with fail
              go_ret
              exact ⟨Z, c, zs2, rfl, hlen, HRZ.out.low (by rw [HGG.out]; exact HGW.out), (Gr.of_nx hna).trans hgr10, hS10⟩
          · have t0 : ((ks.length : Int) == 0) = false := by rw [beq_eq_false_iff_ne]; omega
            obtain ⟨Zl, cl, el, hRl, _⟩ := Rd.of_own encS_len rfl hownl
            subst el
            clear hownl
            obtain ⟨Zp, cp, ep, _, _⟩ := Rd.of_own encS_len rfl hown
            subst ep
            have HRL := hide hRl
            have HOW := hide hown
            clear hRl hown
            go_wp2_with fail
            refine (w_Next _ _ _ _ hSr (by omega) (by omega)).mono ?_
            rintro e w5 ⟨p, hp1, hp2, rfl, hg5, hS5⟩
            obtain ⟨p, rfl⟩ := Int.eq_ofNat_of_zero_le hp1
            have hpl : p < ks.length := by omega
            have hp3 : (p : Int) < (ks.length : Int) := by omega
            obtain ⟨bl, ol, rfl, _, hbl, _, hcl⟩ := (HRL.out.gr hg5 hsk).open_ (Nx.refl w5) (by omega)
            have l0 : w5.cell? ⟨bl, ol + p, none⟩ = some (.string ks[p]) := by have := hcl p hpl 0 _ rfl; simpa using this
            have HMEM := hide (HKS.out ks[p] (List.getElem_mem hpl))
            clear hcl
            generalize ks[p] = x at *
            have HO5 := hide (own_gr HOW.out hg5 hsa)
            have hgr5 := hgr.trans hg5
            have hz5 := hgr5.sz
            obtain ⟨y, hy, ey, hay⟩ := arc_found (arcI_mem HMEM.out)
            clear hay
            go_wp2_with (at_builtin; refine wpApp rfl _ _ _ rfl el_SD encS encS_len encS_one (by omega) (by omega) wa.heap.size _ zs rfl (own_nx HO5.out ((Nx.refl w5).alloc _)) _ x _ rfl (hnew rfl) rfl (by omega) (by simp; omega) ?_; intro v6 w6 hown6 hg6)
            have hgr6 : Gr s wa w6 := (hgr5.alloc _).grown hg6 (fun z hz => .inr (own_blk_lt HO5.out z hz))
            have hS6 : Str w6 s (k + 1 + 11 * (i + 1)) := ((hS5.nx ((Nx.refl w5).alloc _)).row hg6 (fun z hz => by have := own_blk_lt HO5.out z hz; omega)).more (by omega)
            have HO6 := hide hown6
            clear hown6 l0
            have e0 := HB0.out w6 hgr6
            have e1 := HB1.out w6 hgr6
            have e2 := HB2.out w6 hgr6
            have hz6 := hgr6.sz
            have hgw6 : g < w6.heap.size := by omega
            obtain ⟨ba, offa, rfl, hlb, hba, hbar, hca⟩ := (HR.out.gr hgr6 hlo).open_ (Nx.refl w6) (by omega)
            have a2 : w6.cell? ⟨ba, offa + y * 5 + 2, none⟩ = some (.string rs[y].to_) := hca y hy 2 _ rfl
            clear hca hg6
            generalize rs[y].to_ = xt at *
            have HARx := hide (HAR.out x w6.drew hgr6.drew)
            rw [ey] at HARx
            have hym : y < m := by have := HM.out; omega
            have i1 : (0 : Int) ≤ (y : Int) := by omega
            have i2 : (y : Int) < (m : Int) := by omega
            go_upto_region 14 with fail
            go_region_held3 (fun w' => w'.cell? ⟨g, 0, none⟩ = some (.slice A nn ca) ∧ w'.cell? ⟨g, 1, none⟩ = some (.slice (some ⟨ba, offa, none⟩) m cb) ∧ w'.cell? ⟨g, 2, none⟩ = some (.slice C nb cc) ∧ w'.cell? ⟨ba, offa + y * 5 + 2, none⟩ = some (.string xt))
              (first | (go_split_ands; exact ⟨nx_cell hn4 hgw6 ‹_›, nx_cell hn4 hgw6 ‹_›, nx_cell hn4 hgw6 ‹_›, nx_cell hn4 hbar ‹_›⟩) | go_keep)
              (first | (go_at_call 52; refine HARx.out.mono ?_; rintro e w7 ⟨rfl, hn4⟩))
            go_wp2_with fail
            go_roundw
            case rel => exact ⟨i + 1, xt, zs ++ [x], by omega, rfl, by go_num, by rw [List.length_append]; show zs.length + 1 ≤ _; omega, own_nx HO6.out ((Nx.refl w6).drew.trans hn4), hgr6.then_nx ((Nx.refl w6).drew.trans hn4), hS6.nx ((Nx.refl w6).drew.trans hn4)⟩
            case measure => simp [intOf]; omega
    · obtain ⟨wo, hwo⟩ : ∃ wo, wo = wr := ⟨_, rfl⟩
      subst hwo
      have hso := hSr.lt
      go_wp2_with fail
      refine (w_Flip 25 _ _ _ hSr (by omega) (by omega)).mono ?_
      rintro e w8 ⟨fl, rfl, hg8, hS8⟩
      have hgr8 := hgr.trans hg8
      have hown8 := own_gr hown hg8 hsa
      cases fl
      · obtain ⟨Zo, co, eo, hRz, _⟩ := Rd.of_own encS_len rfl hown8
        subst eo
        clear hown hown8
        have HRZ := hide hRz
        clear hRz
        go_wp2_with fail
        go_ret
        exact ⟨Zo, co, zs, rfl, by omega, HRZ.out.low (by rw [HGG.out]; exact HGW.out), (Gr.of_nx hna).trans hgr8, hS8.more (by omega)⟩
      · have hz8 := hgr8.sz
        go_wp2_with fail
        refine (w_Some _ [⟨#[122, 122]⟩, ⟨#[]⟩] _ _ _ _ (hS8.nx ((Nx.refl _).alloc _)) (by omega) (hnew rfl) (by omega) rfl (by simp) (by simp)).mono ?_
        rintro e w9 ⟨r, hr, rfl, hg9, hS9⟩
        have hgr9 := (hgr8.alloc (.cells #[.string ⟨#[122, 122]⟩, .string ⟨#[]⟩] 9)).trans hg9
        have hz9 := hgr9.sz
        have hown9 := own_gr (own_nx hown8 ((Nx.refl w8).alloc (.cells #[.string ⟨#[122, 122]⟩, .string ⟨#[]⟩] 9))) hg9 hsa
        obtain ⟨Zo, co, eo, _, _⟩ := Rd.of_own encS_len rfl hown9
        subst eo
        go_wp2_with (at_builtin; refine wpApp rfl _ _ _ rfl el_SD encS encS_len encS_one (by omega) (by omega) wa.heap.size _ zs rfl (own_nx hown9 ((Nx.refl w9).alloc _)) _ r _ rfl (hnew rfl) rfl (by omega) (by simp; omega) ?_; intro v5 w5 hown5 hg5)
        obtain ⟨Z, c, eo, hRz, _⟩ := Rd.of_own encS_len rfl hown5
        subst eo
        have hlen : (zs ++ [r]).length ≤ 6 := by rw [List.length_append]; show zs.length + 1 ≤ 6; omega
        have hgr10 : Gr s wa w5 := (hgr9.alloc _).grown hg5 (fun q hq => .inr (own_blk_lt hown9 q hq))
        have hS10 : Str w5 s (k + 60) := ((hS9.nx ((Nx.refl w9).alloc _)).row hg5 (fun q hq => by have := own_blk_lt hown9 q hq; omega)).more (by omega)
        generalize zs ++ [r] = zs2 at *
        have HRZ := hide hRz
        clear hRz hown5
        go_wp2_with fail
        go_ret
        exact ⟨Z, c, zs2, rfl, hlen, HRZ.out.low (by rw [HGG.out]; exact HGW.out), (Gr.of_nx hna).trans hgr10, hS10⟩
end Go.Proofs.YtbhlldpmklkeoaaGreatDoor
/- A node's key: the stream's; the reference's fault. -/
namespace Go.Proofs.YtbhlldpmklkeoaaGreatDoor
open Go.RowKit

/-- A small string. -/
def StrSm (s k : Nat) (w : World) (e : Ending) (w' : World) : Prop := ∃ t : ByteArray, e = .returned (.string t) ∧ t.size ≤ 1000000 ∧ Gr s w w' ∧ Str w' s k
set_option maxRecDepth 100000 in
set_option maxHeartbeats 2000000 in
theorem w_NodeKey (s k lo : Nat) (A B C : Option Addr) (n1 n2 ca cb cc : Nat) (ns : List Node) (w : World) (hS : Str w s k) (hk : k < 700000) (hR : Rd w lo A 3 encNode ns) (hSm : SmallN ns) (h0 : 0 < ns.length) (hl : ns.length ≤ 400) (hlo : s < lo) :
    Calls Tryz.prog 15 #[.pointer (some ⟨s, 0, none⟩), .agg #[.slice A ns.length ca, .slice B n1 cb, .slice C n2 cc]] w (StrSm s (k + 2) w) := by
  have hsl := hS.lt
  obtain ⟨wa, hwa⟩ : ∃ wa, wa = w.alloc (.cells #[.slice A ns.length ca, .slice B n1 cb, .slice C n2 cc] 30) := ⟨_, rfl⟩
  have hna : Nx w wa := hwa ▸ (Nx.refl w).alloc _
  have hgw : w.heap.size < wa.heap.size := by rw [hwa]; simp
  have b0 : wa.cell? ⟨w.heap.size, 0, none⟩ = some (.slice A ns.length ca) := by rw [hwa]; go_simp
  have hSa := hS.nx hna
  have HR := hide (hR.nx hna)
  have HSM := hide hSm
  clear hR hS hSm
  generalize hn : ns.length = n at *
  have HN := hide hn
  clear hn
  have t0 : ((n : Int) == 0) = false := by rw [beq_eq_false_iff_ne]; omega
  go_enter Tryz.func15, Tryz.ntmps15
  go_wp2_with fail
  rw [← hwa]
  have HWA := hide hwa
  clear hwa
  have hgs : w.heap.size ≠ s := by omega
  generalize w.heap.size = g at *
  refine (w_Flip 25 _ _ _ hSa (by omega) (by omega)).mono ?_
  rintro e w1 ⟨fl, rfl, hg1, hS1⟩
  have hs1 := hS1.lt
  cases fl
  · have b1 : w1.cell? ⟨g, 0, none⟩ = some (.slice A n ca) := World.grownBy.cell hg1 b0 (by simp; omega)
    obtain ⟨b, off, rfl, hlo', hb, _, hc⟩ := HR.out.open_ (Nx.refl wa) (by have := HN.out; omega)
    have HC := hide hc
    clear hc b0
    go_upto_region 3 with fail
    have k1 : (1 : Int) ≤ (n : Int) := by omega
    go_cut [4] (fun v wx => ∃ t : ByteArray, v = .string t ∧ t.size ≤ 1000000 ∧ Gr s w1 wx ∧ Str wx s (k + 2))
    case first =>
      go_region_law
        (first | (go_simp; go_at_call 10; refine (w_Next (n : Int) _ _ _ (hS1.nx (Nx.refl w1).drew) (by omega) (by omega)).mono ?_; rintro e w4 ⟨q, hq1, hq2, rfl, hg4, hS4⟩; (obtain ⟨q, rfl⟩ := Int.eq_ofNat_of_zero_le hq1); (have hgr := hg1.trans ((Gr.refl s w1).drew.trans hg4)); (have b4 : w4.cell? ⟨g, 0, none⟩ = some (.slice (some ⟨b, off, none⟩) n ca) := World.grownBy.cell (row := some s) ((Gr.refl s w1).drew.trans hg4) b1 (by simp; omega)); (have hq3 : (q : Int) < (n : Int) := by omega); (have hqn : q < ns.length := by have := HN.out; omega); (have d4 : w4.cell? ⟨b, off + q * 3, none⟩ = some (.string ns[q].key) := World.grownBy.cell (row := some s) hgr (HC.out q hqn 0 _ rfl) (by simp; omega))))
      all_goals
        go_wp2
        go_meet
        exact ⟨_, rfl, HSM.out _ (List.getElem_mem hqn), (Gr.refl s w1).drew.trans hg4, hS4⟩
    case rest =>
      obtain ⟨t, rfl, ht, hg2, hS2⟩ := hcut
      go_wp2_with fail
      go_ret
      exact ⟨t, rfl, ht, (Gr.of_nx hna).trans (hg1.trans hg2), hS2⟩
  · go_wp2_with fail
    refine (w_Some _ [⟨#[]⟩, ⟨#[122, 122]⟩, ⟨#[65]⟩] _ _ _ _ (hS1.nx ((Nx.refl _).alloc _)) (by omega) (hnew rfl) (by omega) rfl (by simp) (by simp)).mono ?_
    rintro e w2 ⟨r, hr, rfl, hg2, hS2⟩
    go_wp2_with fail
    go_ret
    refine ⟨r, rfl, ?_, (Gr.of_nx hna).trans (hg1.trans (((Gr.refl s w1).alloc _).trans hg2)), hS2⟩
    simp at hr
    rcases hr with h | h | h <;> rw [h] <;> decide
def noneF (ns : List Node) (s : ByteArray) : Int := if nodeI ns s < 0 then 8 else 0
set_option maxHeartbeats 1000000 in
theorem w_NodeFault (lo : Nat) (A B C : Option Addr) (n1 n2 c1 c2 c3 : Nat) (l : List Node) (s : ByteArray) (w : World) (hR : Rd w lo A 3 encNode l) (hl : l.length ≤ 65536) :
    Calls Tryz.prog 21 #[.agg #[.slice A l.length c1, .slice B n1 c2, .slice C n2 c3], .string s] w fun e w' => e = .returned (.int .i64 (noneF l s)) ∧ Nx w w' := by
  have HN := hide (fun W hx => w_NodeAt lo A B C n1 n2 c1 c2 c3 l s W hx hl)
  unfold noneF
  by_cases h : nodeI l s < 0
  · rw [if_pos h]
    have tf : decide (nodeI l s < 0) = true := decide_eq_true h
    clear h
    go_enter Tryz.func21, Tryz.ntmps21
    go_wp2_with (go_at_call 41; refine (HN.out _ (hR.nx ((Nx.refl w).alloc _))).mono ?_; rintro e w2 ⟨rfl, hn2⟩)
    go_ret
    exact ⟨rfl, ((Nx.refl w).alloc _).trans hn2⟩
  · rw [if_neg h]
    have tf : decide (nodeI l s < 0) = false := decide_eq_false h
    clear h
    go_enter Tryz.func21, Tryz.ntmps21
    go_wp2_with (go_at_call 41; refine (HN.out _ (hR.nx ((Nx.refl w).alloc _))).mono ?_; rintro e w2 ⟨rfl, hn2⟩)
    go_ret
    exact ⟨rfl, ((Nx.refl w).alloc _).trans hn2⟩
theorem w_when (b : Bool) (z : Int) (w : World) : Calls Tryz.prog 23 #[.bool b, .int .i64 z] w fun e w' => e = .returned (.int .i64 (if b then z else 0)) ∧ w = w' := by
  cases b
  all_goals
    go_enter Tryz.func23, Tryz.ntmps23
    go_wp2
    go_ret
    exact ⟨rfl, rfl⟩
end Go.Proofs.YtbhlldpmklkeoaaGreatDoor
/- How long arcs are: the reference. -/
namespace Go.Proofs.YtbhlldpmklkeoaaGreatDoor
open Go.RowKit

set_option maxRecDepth 100000 in
set_option maxHeartbeats 4000000 in
theorem w_LengthOf (lo : Nat) (A B C : Option Addr) (nn nb ca cb cc : Nat) (rs : List Arc) (lo2 : Nat) (D : Option Addr) (cd : Nat) (l : List ByteArray) (w : World)
    (hA : Rd w lo B 5 encArc rs) (hal : rs.length ≤ 400) (hLB : ∀ x ∈ rs, 1 ≤ x.long ∧ x.long ≤ 1000000) (hR : Rd w lo2 D 1 encS l) (hl : l.length ≤ 1000) (hOK : ∀ k ∈ l, 0 ≤ arcI rs k) :
    Calls Tryz.prog 20 #[.agg #[.slice A nn ca, .slice B rs.length cb, .slice C nb cc], .slice D l.length cd] w fun e w' => e = .returned (.int .i64 (lengthI rs l)) ∧ Nx w w' := by
  obtain ⟨wa, hwa⟩ : ∃ wa, wa = w.alloc (.cells #[.slice A nn ca, .slice B rs.length cb, .slice C nb cc] 30) := ⟨_, rfl⟩
  have hna : Nx w wa := hwa ▸ (Nx.refl w).alloc _
  have hgw : w.heap.size < wa.heap.size := by rw [hwa]; simp
  have b0 : wa.cell? ⟨w.heap.size, 0, none⟩ = some (.slice A nn ca) := by rw [hwa]; go_simp
  have b1 : wa.cell? ⟨w.heap.size, 1, none⟩ = some (.slice B rs.length cb) := by rw [hwa]; go_simp
  have b2 : wa.cell? ⟨w.heap.size, 2, none⟩ = some (.slice C nb cc) := by rw [hwa]; go_simp
  have HAR := hide (fun s W (hx : Nx wa W) => w_ArcAt lo A B C nn nb ca cb cc rs s W ((hA.nx hna).nx hx) (by omega))
  have HRA := hide (hA.nx hna)
  have HRL := hide (hR.nx hna)
  have HLB := hide hLB
  have HOK2 := hide hOK
  clear hA hR hLB hOK
  generalize hn : l.length = n at *
  generalize hm : rs.length = m at *
  have HN := hide hn
  have HM := hide hm
  clear hn hm
  obtain ⟨T, hT⟩ : ∃ T, T = lengthI rs l := ⟨_, rfl⟩
  rw [← hT]
  have HT := hide hT
  clear hT
  go_enter Tryz.func20, Tryz.ntmps20
  go_wp2_with fail
  rw [← hwa]
  have HWA := hide hwa
  clear hwa
  generalize w.heap.size = g at *
  go_wp2_with fail
  go_loopw [5, 10] (fun va i wr => ∃ (k : Nat) (a : Int), k ≤ n ∧ va = .int .i64 a ∧ i = .int .i64 k ∧ Nx wa wr ∧ a + lengthI rs (l.drop k) = T ∧ 0 ≤ a ∧ a ≤ 1000000 * k) (fun _ i _ => n - (intOf i).toNat)
  case atStart => exact ⟨0, 0, Nat.zero_le _, rfl, rfl, Nx.refl _, by rw [HT.out, List.drop_zero]; omega, by omega, by omega⟩
  case round =>
    obtain ⟨k, a, hk, rfl, rfl, hbw, hq, ha1, ha2⟩ := hrel
    have HQ := hide hq
    clear hq
    by_cases hlt : k < n
    · have hlt' : k < l.length := by have := HN.out; omega
      have HD := hide (length_drop rs l k hlt')
      obtain ⟨b, off, rfl, _, hb, hbr, hc⟩ := HRL.out.open_ hbw (by have := HN.out; omega)
      have c0 : wr.cell? ⟨b, off + k, none⟩ = some (.string l[k]) := by have := hc k hlt' 0 _ rfl; simpa using this
      obtain ⟨i, hi, ei, hai⟩ := arc_found (HOK2.out l[k] (List.getElem_mem hlt'))
      have ha := hai hi
      have hARs := fun W hx => HAR.out l[k] W hx
      rw [ei] at hARs
      have HARs := hide hARs
      rw [ha] at HD
      clear hc hai ha ei hARs
      generalize l[k] = s at *
      have him : i < m := by have := HM.out; omega
      have gg0 := nx_cell hbw hgw b0
      have gg1 := nx_cell hbw hgw b1
      have gg2 := nx_cell hbw hgw b2
      have hgr := Nat.lt_of_lt_of_le hgw hbw.sz
      obtain ⟨ba, offa, rfl, _, hba, hbar, hca⟩ := HRA.out.open_ hbw (by omega)
      have a3 : wr.cell? ⟨ba, offa + i * 5 + 3, none⟩ = some (.int .i64 rs[i].long) := hca i hi 3 _ rfl
      have hlb := HLB.out rs[i] (List.getElem_mem hi)
      clear hca
      generalize rs[i].long = z at *
      have i1 : (0 : Int) ≤ (i : Int) := by omega
      have i2 : (i : Int) < (m : Int) := by omega
      have q1 : IntKind.i64.wrap (a + z) = a + z := IntWalk.i64_in _ (by omega)
      go_upto_region 5 with fail
      go_region_held3 (fun w' => w'.cell? ⟨g, 0, none⟩ = some (.slice A nn ca) ∧ w'.cell? ⟨g, 1, none⟩ = some (.slice (some ⟨ba, offa, none⟩) m cb) ∧ w'.cell? ⟨g, 2, none⟩ = some (.slice C nb cc) ∧ w'.cell? ⟨ba, offa + i * 5 + 3, none⟩ = some (.int .i64 z))
        (first | (go_split_ands; exact ⟨nx_cell hn4 hgr ‹_›, nx_cell hn4 hgr ‹_›, nx_cell hn4 hgr ‹_›, nx_cell hn4 hbar ‹_›⟩) | go_keep)
        (first | (go_at_call 52; refine (HARs.out _ hbw.drew).mono ?_; rintro e w4 ⟨rfl, hn4⟩))
      go_wp2_with fail
      go_roundw
      case rel => exact ⟨k + 1, a + z, by omega, rfl, by go_num, hbw.trans ((Nx.refl wr).drew.trans hn4), by have := HQ.out; rw [HD.out] at this; omega, by omega, by omega⟩
      case measure => simp [intOf]; omega
    · have hT : a = T := by
        have := HQ.out
        rw [List.drop_of_length_le (by have := HN.out; omega)] at this
        show a = T
        have e : lengthI rs [] = 0 := rfl
        omega
      go_wp2_with fail
      go_ret
      exact ⟨ret_int hT, hna.trans hbw⟩
end Go.Proofs.YtbhlldpmklkeoaaGreatDoor
/- cmp.Compare of numbers. -/
namespace Go.Proofs.YtbhlldpmklkeoaaGreatDoor
open Go.RowKit

theorem w_isNaN (a : Int) (w : World) : Calls Tryz.prog 98 #[.int .i64 a] w fun e w' => e = .returned (.bool false) ∧ w = w' := by
  go_enter Tryz.func98, Tryz.ntmps98
  go_wp2
  go_ret
  exact ⟨rfl, rfl⟩

theorem w_Compare (a b : Int) (w : World) : Calls Tryz.prog 72 #[.int .i64 a, .int .i64 b] w fun e w' => e = .returned (.int .i64 (cmpI a b)) ∧ w = w' := by
  by_cases h1 : a < b
  · go_enter Tryz.func72, Tryz.ntmps72
    go_wp2_with (go_at_call 98; refine (w_isNaN _ _).mono ?_; rintro e w' ⟨rfl, rfl⟩)
    go_ret
    exact ⟨ret_int (by unfold cmpI; simp [h1]), rfl⟩
  · by_cases h2 : b < a
    · go_enter Tryz.func72, Tryz.ntmps72
      go_wp2_with (go_at_call 98; refine (w_isNaN _ _).mono ?_; rintro e w' ⟨rfl, rfl⟩)
      go_ret
      exact ⟨ret_int (by unfold cmpI; simp [h1, h2]), rfl⟩
    · go_enter Tryz.func72, Tryz.ntmps72
      go_wp2_with (go_at_call 98; refine (w_isNaN _ _).mono ?_; rintro e w' ⟨rfl, rfl⟩)
      go_ret
      exact ⟨ret_int (by unfold cmpI; rw [if_neg (by omega), if_neg (by omega)]), rfl⟩

end Go.Proofs.YtbhlldpmklkeoaaGreatDoor
