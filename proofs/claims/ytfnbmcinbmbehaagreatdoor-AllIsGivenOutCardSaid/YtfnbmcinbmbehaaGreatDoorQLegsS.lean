/- The stream's legs. -/
import Derived.Test.YtfnbmcinbmbehaaGreatDoorQG4
import Derived.Test.YtfnbmcinbmbehaaGreatDoorQStrS
import Derived.Deep.DeepCutAuto
import Derived.Deep.Onto
import Derived.Deep.AppendLies
namespace Go.Proofs.YtfnbmcinbmbehaaGreatDoor
open Go.RowKit Go.Sort Go.Proofs Go.Shelf

theorem el_Leg : ElemOf Tryz.prog 28 42 2 32 := ElemOf.mk' (z := .agg #[.slice none 0 0, .int .i64 0]) Tryz.underlying28 (by kernel_rfl) rfl
theorem encLeg_len (x : Leg) : (encLeg x).length = 2 := rfl
theorem encLeg_one (x : Leg) : ∀ v ∈ encLeg x, v.oneCell' = true := by
  intro v hv; simp [encLeg] at hv; rcases hv with rfl | rfl <;> rfl
/-- Legs in the making: each one's rides a row of the call's own. -/
def OwnLegs (w : World) (base : Nat) (v : Value) (ls : List Leg) : Prop :=
  w.ownsRow base 42 2 v ls.length (ls.flatMap encLeg) ∧ ∀ x ∈ ls, w.ownsRow base 9 1 (.slice x.a x.rides.length x.cap) x.rides.length (x.rides.flatMap encS) ∧ Small x.rides ∧ x.rides.length ≤ 4
theorem OwnLegs.gr {w w' : World} {s base : Nat} {v : Value} {ls : List Leg} (h : OwnLegs w base v ls) (hn : Gr s w w') (hs : s < base) : OwnLegs w' base v ls :=
  ⟨own_gr h.1 hn hs, fun x hx => ⟨own_gr (h.2 x hx).1 hn hs, (h.2 x hx).2⟩⟩
theorem OwnLegs.nx {w w' : World} {base : Nat} {v : Value} {ls : List Leg} (h : OwnLegs w base v ls) (hn : Nx w w') : OwnLegs w' base v ls :=
  ⟨own_nx h.1 hn, fun x hx => ⟨own_nx (h.2 x hx).1 hn, (h.2 x hx).2⟩⟩
theorem own_form {w : World} {base n m K : Nat} {e : TypeId} {v : Value} {xs : List Value} (hn : n = m) (h : w.ownsRow base e K v m xs) : ∃ A c, v = .slice A n c := by
  subst hn
  rcases h.2 with ⟨rfl, rfl⟩ | ⟨g, cap, cur, rfl, _⟩
  · exact ⟨none, 0, rfl⟩
  · exact ⟨_, _, rfl⟩
theorem rd_ownv {w : World} {base n K cap : Nat} {e : TypeId} {A : Option Addr} {α : Type} {enc : α → List Value} {xs : List α} (hk : ∀ x, (enc x).length = K) (hn : n = xs.length) (h : w.ownsRow base e K (.slice A n cap) n (xs.flatMap enc)) : Rd w base A K enc xs := by
  obtain ⟨A', c', ev, hR, _⟩ := Rd.of_own hk hn h
  cases ev
  exact hR
theorem OwnLegs.rd {w : World} {base : Nat} {A : Option Addr} {cap : Nat} {ls : List Leg} (h : OwnLegs w base (.slice A ls.length cap) ls) : RdLegs w base A ls :=
  ⟨rd_ownv encLeg_len rfl h.1, fun x hx => ⟨rd_ownv encS_len rfl (h.2 x hx).1, (h.2 x hx).2.1, by have := (h.2 x hx).2.2; omega⟩⟩

theorem OwnLegs.twist {w : World} {base b2 g cap q n c : Nat} {a : Option Addr} {ls : List Leg} {rides : List ByteArray} {z : Int} (h : OwnLegs w base (.slice (some ⟨g, 0, none⟩) ls.length cap) ls) (hq : q < ls.length) (hb : base ≤ b2) (hr : w.ownsRow b2 9 1 (.slice a n c) n (rides.flatMap encS)) (hn : n = rides.length) (hs : Small rides) (h4 : rides.length ≤ 100) :
    RdLegs ((w.setCell ⟨g, q * 2 + 1, none⟩ (.int .i64 z)).setCell ⟨g, q * 2, none⟩ (.slice a n c)) base (some ⟨g, 0, none⟩) (ls.set q ⟨a, c, rides, z⟩) := by
  subst hn
  have o1 := own_set encLeg_len rfl h.1 q hq 1 (by omega) (.int .i64 z) ⟨ls[q].a, ls[q].cap, ls[q].rides, z⟩ (by simp [encLeg]) (q * 2 + 1) rfl
  have o2 := own_set encLeg_len (by rw [List.length_set]) o1 q (by rw [List.length_set]; exact hq) 0 (by omega) (.slice a rides.length c) ⟨a, c, rides, z⟩ (by simp [encLeg]) (q * 2) (by omega)
  rw [List.set_set] at o2
  have keep : ∀ {v : Value} {m b : Nat} {xs : List Value}, w.ownsRow b 9 1 v m xs → ((w.setCell ⟨g, q * 2 + 1, none⟩ (.int .i64 z)).setCell ⟨g, q * 2, none⟩ (.slice a rides.length c)).ownsRow b 9 1 v m xs := fun hv => by
    have k1 := hv.kept ((Gr.refl g _).setS (p := ⟨g, q * 2 + 1, none⟩) (.inl rfl) (.int .i64 z)) (own_apart hv h.1 (by decide))
    exact k1.kept ((Gr.refl g _).setS (p := ⟨g, q * 2, none⟩) (.inl rfl) (.slice a rides.length c)) (own_apart k1 o1 (by decide))
  refine ⟨rd_ownv encLeg_len (by rw [List.length_set]) o2, fun x hx => ?_⟩
  rcases List.mem_or_eq_of_mem_set hx with hx | rfl
  · obtain ⟨r1, r2, r3⟩ := h.2 x hx
    exact ⟨rd_ownv encS_len rfl (keep r1), r2, by omega⟩
  · exact ⟨(rd_ownv encS_len rfl (keep hr)).low hb, hs, h4⟩

/-- Some legs. -/
def StrLegs (s k : Nat) (w : World) (e : Ending) (w' : World) : Prop :=
  ∃ (A : Option Addr) (c : Nat) (ls : List Leg), e = .returned (.slice A ls.length c) ∧ ls.length ≤ 5 ∧ RdLegs w' w.heap.size A ls ∧ Gr s w w' ∧ Str w' s k

def kL : List ByteArray := [⟨#[106, 97]⟩, ⟨#[106, 98]⟩, ⟨#[106, 99]⟩]
theorem kL_small : Small kL := by
  intro x hx
  simp [kL] at hx
  rcases hx with rfl | rfl | rfl <;> decide

set_option maxRecDepth 100000 in
set_option maxHeartbeats 3000000 in
theorem w_Legs (s k : Nat) (w : World) (hS : Str w s k) (hk : k < 700000) :
    Calls Tryz.prog 6 #[.pointer (some ⟨s, 0, none⟩)] w (StrLegs s (k + 50) w) := by
  have hsl := hS.lt
  go_enter Tryz.func6, Tryz.ntmps6
  go_wp2_with fail
  refine (w_Range 0 5 _ _ _ hS (by omega) (by omega) (by omega)).mono ?_
  rintro e w1 ⟨r, hr1, hr2, rfl, hg1, hS1⟩
  obtain ⟨n, rfl⟩ := Int.eq_ofNat_of_zero_le hr1
  have hown0 : OwnLegs w1 w.heap.size (.slice none 0 0) [] := ⟨⟨rfl, .inl ⟨rfl, rfl⟩⟩, fun x hx => by cases hx⟩
  have HST := hide (And.intro hown0 (And.intro hg1 hS1))
  clear hg1 hS1 hown0 hS
  go_wp2_with fail
  go_loopw [3, 4, 6, 10] (fun v _ _ i wr => ∃ (k' : Nat) (ls : List Leg), k' ≤ n ∧ i = .int .i64 k' ∧ ls.length ≤ k' ∧ OwnLegs wr w.heap.size v ls ∧ Gr s w wr ∧ Str wr s (k + 1 + 6 * k')) (fun _ _ _ i _ => n - (intOf i).toNat)
  case atStart => exact ⟨0, [], by omega, rfl, by simp, HST.out.1, HST.out.2.1, HST.out.2.2⟩
  case round =>
    clear HST
    obtain ⟨k', ls, hkn, rfl, hcl, hown, hgr, hSr⟩ := hrel
    have hsz := hgr.sz
    by_cases hlt : k' < n
    · go_wp2_with fail
      refine (w_PickI _ [0, 1, 10, 101, 1000] _ _ _ _ (hSr.nx ((Nx.refl _).alloc _)) (by omega) (hnew rfl) (by omega) rfl (by simp) (by simp)).mono ?_
      rintro e w2 ⟨cents, hx, rfl, hg2, hS2⟩
      have hown2 := (hown.nx ((Nx.refl _).alloc (.cells #[.int .i64 0, .int .i64 1, .int .i64 10, .int .i64 101, .int .i64 1000] 3))).gr hg2 hsl
      have hgr2 := (hgr.alloc _).trans hg2
      have hsz2 := hgr2.sz
      clear hown hgr hSr hx hg2
      go_wp2_with fail
      obtain ⟨bx, hbx⟩ : ∃ bx, bx = w2.heap.size := ⟨_, rfl⟩
      have HI := hide (And.intro (show ((w2.alloc (.cells #[.slice none 0 0, .int .i64 cents] 42)).alloc (.cells (kL.map Value.string).toArray 9)).heap[bx]? = some (.cells #[.slice none 0 0, .int .i64 cents] 42 (0, 0)) from ((((Nx.refl _).alloc _).block bx (by simp; omega)).trans (hnew hbx)))
        (And.intro (show ((w2.alloc (.cells #[.slice none 0 0, .int .i64 cents] 42)).alloc (.cells (kL.map Value.string).toArray 9)).heap[bx + 1]? = some (.cells (kL.map Value.string).toArray 9 (0, 0)) from hnew (by simp; omega))
        (And.intro (((Gr.refl s w2).alloc (.cells #[.slice none 0 0, .int .i64 cents] 42)).alloc (.cells (kL.map Value.string).toArray 9)) (hS2.nx (((Nx.refl _).alloc (.cells #[.slice none 0 0, .int .i64 cents] 42)).alloc (.cells (kL.map Value.string).toArray 9))))))
      have HO2 := hide hown2
      have hs2 := hS2.lt
      clear hown2 hS2
      rw [← hbx]
      have HBX := hide hbx
      have hbx1 : w2.heap.size ≤ bx := by omega
      have hbx2 : bx ≤ w2.heap.size := by omega
      clear hbx
      go_loopw [6, 18] (fun _ i wr => ∃ (j : Nat) (v : Value) (rs : List ByteArray), j ≤ 3 ∧ i = .int .i64 j ∧ rs.length ≤ j ∧ Small rs ∧ wr.ownsRow (bx + 2) 9 1 v rs.length (rs.flatMap encS) ∧ wr.heap[bx]? = some (.cells #[v, .int .i64 cents] 42 (0, 0)) ∧ wr.heap[bx + 1]? = some (.cells (kL.map Value.string).toArray 9 (0, 0)) ∧ Gr s w2 wr ∧ Str wr s (k + 1 + 6 * k' + 1 + j)) (fun _ i _ => 3 - (intOf i).toNat)
      case atStart => exact ⟨0, .slice none 0 0, [], by omega, rfl, by simp, fun x hx => (by cases hx), ⟨rfl, .inl ⟨rfl, rfl⟩⟩, HI.out.1, HI.out.2.1, HI.out.2.2.1, HI.out.2.2.2⟩
      case round =>
        clear HI
        obtain ⟨j, v, rs, hj, rfl, hrl, hsm, hrow, hb, hlit, hg3, hS3⟩ := hrel
        have HSM := hide hsm
        clear hsm
        have hsz3 := hg3.sz
        have hblt : bx < wr.heap.size := (Array.getElem?_eq_some_iff.1 hb).1
        have hllt : bx + 1 < wr.heap.size := (Array.getElem?_eq_some_iff.1 hlit).1
        by_cases hj3 : j < 3
        · have hjk : j < kL.length := hj3
          have c0 : wr.cell? ⟨bx + 1, j, none⟩ = some (.string kL[j]) := (cell_of_row wr (bx + 1) j _ _ _ hlit).trans (by rw [← Array.getElem?_toList]; simp [List.getElem?_map, List.getElem?_eq_getElem hjk])
          have hks : kL[j].size ≤ 1000000 := kL_small _ (List.getElem_mem hjk)
          generalize kL[j] = ky at *
          have HB := hide hb
          have HLIT := hide hlit
          clear hb hlit
          go_wp2_with fail
          refine (w_Flip _ _ _ _ hS3 (by omega) (by omega)).mono ?_
          rintro e w3 ⟨fl, rfl, hg4, hS4⟩
          have hrow4 := own_gr hrow hg4 (by omega)
          have hb4 : w3.heap[bx]? = some (.cells #[v, .int .i64 cents] 42 (0, 0)) := (World.grownBy.block (row := some s) hg4 _ hblt (by simp; omega)).trans HB.out
          have hlit4 : w3.heap[bx + 1]? = some (.cells (kL.map Value.string).toArray 9 (0, 0)) := (World.grownBy.block (row := some s) hg4 _ hllt (by simp; omega)).trans HLIT.out
          have hg34 := hg3.trans hg4
          have hsz4 := hg34.sz
          have hbl4 : bx < w3.heap.size := (Array.getElem?_eq_some_iff.1 hb4).1
          have hll4 : bx + 1 < w3.heap.size := (Array.getElem?_eq_some_iff.1 hlit4).1
          clear hrow HB HLIT hg3 hS3 hg4 c0
          cases fl
          · have c1 : w3.cell? ⟨bx, 0, none⟩ = some v := cell_of_row w3 bx 0 _ _ _ hb4
            have HB4 := hide hb4
            have HL4 := hide hlit4
            have HR4 := hide hrow4
            clear hb4 hlit4 hrow4
            go_wp2_with (at_builtin; refine wpApp rfl _ _ _ rfl el_S encS encS_len encS_one (by omega) (by omega) (bx + 2) _ rs rfl (HR4.out.alloc _) _ ky _ rfl (hnew rfl) rfl (by omega) (by simp; omega) ?_; intro v5 w5 hown5 hg5; (obtain ⟨A5, c5', ev5⟩ := own_form (n := rs.length + 1) (by simp) hown5); (subst ev5); (have hb5 : w5.heap[bx]? = some (.cells #[v, .int .i64 cents] 42 (0, 0)) := (World.grownBy.block hg5 _ (by simp; omega) (fun e => by have := own_blk_lt HR4.out bx e.symm; omega)).trans ((((Nx.refl _).alloc _).block bx hbl4).trans HB4.out)); (have hl5 : w5.heap[bx + 1]? = some (.cells (kL.map Value.string).toArray 9 (0, 0)) := (World.grownBy.block hg5 _ (by simp; omega) (fun e => by have := own_blk_lt HR4.out (bx + 1) e.symm; omega)).trans ((((Nx.refl _).alloc _).block (bx + 1) hll4).trans HL4.out)); (have c5 : w5.cell? ⟨bx, 0, none⟩ = some v := cell_of_row w5 bx 0 _ _ _ hb5); (have f5 : w5.frozen? ⟨bx, 0, none⟩ = false := by simp [World.frozen?, hb5]); (have HB5 := hide hb5); (have HL5 := hide hl5); clear hb5 hl5)
            have hg35 := (hg34.alloc (.cells #[.string ky] 9)).grown hg5 (fun j hj => .inr (by have := own_blk_lt HR4.out j hj; omega))
            have hS5 := (hS4.nx ((Nx.refl _).alloc (.cells #[.string ky] 9))).row hg5 (fun j hj => by have := own_blk_lt HR4.out j hj; omega)
            have hg36 := hg35.setS (p := ⟨bx, 0, none⟩) (.inr (by show w2.heap.size ≤ bx; omega)) (.slice A5 (rs.length + 1) c5')
            have hS6 := hS5.row ((Gr.refl bx _).setS (p := ⟨bx, 0, none⟩) (.inl rfl) (.slice A5 (rs.length + 1) c5')) (fun j hj => by injection hj with hj; omega)
            have hrow6 := hown5.kept ((Gr.refl bx _).setS (p := ⟨bx, 0, none⟩) (.inl rfl) (.slice A5 (rs.length + 1) c5')) (by
              cases ho : (Value.slice A5 (rs.length + 1) c5').ownBlock with
              | none => exact .inl rfl
              | some q => exact .inr (fun e => by injection e with e; have := own_blk_lt hown5 q ho; omega))
            go_roundw
            case rel => exact ⟨j + 1, .slice A5 (rs.length + 1) c5', rs ++ [ky], by omega, by go_num, by rw [List.length_append]; simp; omega, fun x hx => (by
                rcases List.mem_append.1 hx with hx | hx
                · exact HSM.out x hx
                · simp at hx; subst hx; exact hks), hrow6, heap_set HB5.out, by rw [show (w5.setCell ⟨bx, 0, none⟩ (.slice A5 (rs.length + 1) c5')).heap[bx + 1]? = w5.heap[bx + 1]? from ((Gr.refl bx w5).setS (p := ⟨bx, 0, none⟩) (.inl rfl) (.slice A5 (rs.length + 1) c5')).block (bx + 1) (by have := (Array.getElem?_eq_some_iff.1 HL5.out).1; omega) (by simp)]; exact HL5.out, hg36, hS6.more (by omega)⟩
            case measure => simp [intOf]; omega
          · go_wp2_with fail
            go_roundw
            case rel => exact ⟨j + 1, v, rs, by omega, by go_num, by omega, HSM.out, hrow4, hb4, hlit4, hg34, hS4.more (by omega)⟩
            case measure => simp [intOf]; omega
        · have ej : j = 3 := by omega
          subst ej
          clear hj hj3 hlit hllt
          obtain ⟨A', c', ev, _, _⟩ := Rd.of_own encS_len rfl hrow
          have HEV := hide ev
          clear ev
          obtain rfl := HEV.out
          have c1 : wr.cell? ⟨bx, 0, none⟩ = some (.slice A' rs.length c') := cell_of_row wr bx 0 _ _ _ hb
          have c2 : wr.cell? ⟨bx, 1, none⟩ = some (.int .i64 cents) := cell_of_row wr bx 1 _ _ _ hb
          have HB := hide hb
          have HR := hide hrow
          clear hb hrow
          by_cases hr0 : rs.length = 0
          · have t1 : decide ((rs.length : Int) > 0) = false := by rw [hr0]; rfl
            have t2 : ¬ (0 : Int) < (rs.length : Int) := by omega
            have hrb : rs.length ≤ 0 := by omega
            clear hr0
            go_wp2_with fail
            refine (w_Flip _ _ _ _ hS3 (by omega) (by omega)).mono ?_
            rintro e w4 ⟨fl, rfl, hgf, hS4⟩
            have hg4 := hg3.trans hgf
            have HRW := hide (own_gr HR.out hgf (by omega))
            have HWO := hide (HO2.out.gr hg4 hsl)
            have hsz4 := hg4.sz
            have c3 : w4.cell? ⟨bx, 0, none⟩ = some (.slice A' rs.length c') := World.grownBy.cell hgf c1 (by simp; omega)
            have c4 : w4.cell? ⟨bx, 1, none⟩ = some (.int .i64 cents) := World.grownBy.cell hgf c2 (by simp; omega)
            clear c1 c2 HR HB hgf hS3 hg3
            cases fl
            · go_wp2_with fail
              have hgr4 := hgr2.trans hg4
              go_roundw
              case rel => exact ⟨k' + 1, ls, by omega, by go_num, by omega, HWO.out, hgr4, hS4.more (by omega)⟩
              case measure => simp [intOf]; omega
            · go_wp2_with (at_builtin; refine wpApp rfl _ _ _ rfl el_Leg encLeg encLeg_len encLeg_one (by omega) (by omega) w.heap.size _ ls rfl (HWO.out.1.alloc _) _ ⟨A', c', rs, cents⟩ _ rfl (hnew (by simp)) rfl (by omega) (by simp; omega) ?_; intro v5 w5 hown5 hg5)
              have hO5 : OwnLegs w5 w.heap.size v5 (ls ++ [⟨A', c', rs, cents⟩]) := ⟨hown5, fun x hx => by
                rcases List.mem_append.1 hx with hx | hx
                · obtain ⟨h1, h2⟩ := HWO.out.2 x hx
                  exact ⟨(h1.alloc _).kept hg5 (own_apart h1 HWO.out.1 (by decide)), h2⟩
                · simp at hx; subst hx
                  exact ⟨((HRW.out.mono (by omega)).alloc _).kept hg5 (own_apart HRW.out HWO.out.1 (by decide)), HSM.out, (by show rs.length ≤ 4; omega)⟩⟩
              have hgr5 := ((hgr2.trans hg4).alloc (.cells #[.slice A' rs.length c', .int .i64 cents] 42)).grown hg5 (fun j hj => .inr (own_blk_lt HWO.out.1 j hj))
              have hS5 := (hS4.nx ((Nx.refl _).alloc (.cells #[.slice A' rs.length c', .int .i64 cents] 42))).row hg5 (fun j hj => by have := own_blk_lt HWO.out.1 j hj; omega)
              go_roundw
              case rel => exact ⟨k' + 1, _, by omega, by go_num, by rw [List.length_append]; simp; omega, hO5, hgr5, hS5.more (by omega)⟩
              case measure => simp [intOf]; omega
          · have t1 : decide ((rs.length : Int) > 0) = true := by simp; omega
            have t2 : (0 : Int) < (rs.length : Int) := by omega
            have t3 : decide (0 < rs.length) = true := decide_eq_true (by omega)
            have t4 : ¬ rs = [] := by intro e; rw [e] at hr0; exact hr0 rfl
            clear hr0
            have hg4 := hg3
            have HRW := HR
            have HWO := hide (HO2.out.gr hg4 hsl)
            have hS4 := hS3
            clear HR HB hg3 hS3
            go_upto_region 12 with fail
            go_wp2_with (at_builtin; refine wpApp rfl _ _ _ rfl el_Leg encLeg encLeg_len encLeg_one (by omega) (by omega) w.heap.size _ ls rfl (HWO.out.1.alloc _) _ ⟨A', c', rs, cents⟩ _ rfl (hnew (by simp)) rfl (by omega) (by simp; omega) ?_; intro v5 w5 hown5 hg5)
            have hO5 : OwnLegs w5 w.heap.size v5 (ls ++ [⟨A', c', rs, cents⟩]) := ⟨hown5, fun x hx => by
              rcases List.mem_append.1 hx with hx | hx
              · obtain ⟨h1, h2⟩ := HWO.out.2 x hx
                exact ⟨(h1.alloc _).kept hg5 (own_apart h1 HWO.out.1 (by decide)), h2⟩
              · simp at hx; subst hx
                exact ⟨((HRW.out.mono (by omega)).alloc _).kept hg5 (own_apart HRW.out HWO.out.1 (by decide)), HSM.out, (by show rs.length ≤ 4; omega)⟩⟩
            have hgr5 := ((hgr2.trans hg4).alloc (.cells #[.slice A' rs.length c', .int .i64 cents] 42)).grown hg5 (fun j hj => .inr (own_blk_lt HWO.out.1 j hj))
            have hS5 := (hS4.nx ((Nx.refl _).alloc (.cells #[.slice A' rs.length c', .int .i64 cents] 42))).row hg5 (fun j hj => by have := own_blk_lt HWO.out.1 j hj; omega)
            go_roundw
            case rel => exact ⟨k' + 1, _, by omega, by go_num, by rw [List.length_append]; simp; omega, hO5, hgr5, hS5.more (by omega)⟩
            case measure => simp [intOf]; omega
    · have ek : k' = n := by omega
      subst ek
      clear hlt
      obtain ⟨A0, c0', ev0⟩ := own_form (n := ls.length) rfl hown.1
      subst ev0
      have HOW := hide hown
      clear hown
      by_cases hl0 : ls.length = 0
      · have t1 : decide ((ls.length : Int) > 0) = false := by rw [hl0]; rfl
        have t2 : ¬ (0 : Int) < (ls.length : Int) := by omega
        have t3 : decide (0 < ls.length) = false := decide_eq_false (by omega)
        have HL0 := hide hl0
        clear hl0
        go_wp2_with fail
        go_ret
        exact ⟨A0, c0', ls, rfl, by omega, HOW.out.rd, hgr, hSr.more (by omega)⟩
      · have t1 : decide ((ls.length : Int) > 0) = true := by simp; omega
        have t2 : (0 : Int) < (ls.length : Int) := by omega
        have t3 : decide (0 < ls.length) = true := decide_eq_true (by omega)
        have t4 : ¬ ls = [] := by intro e; rw [e] at hl0; exact hl0 rfl
        have hlp : 0 < ls.length := by omega
        clear hl0
        go_wp2_with fail
        refine (w_Flip _ _ _ _ hSr (by omega) (by omega)).mono ?_
        rintro e w2 ⟨fl, rfl, hg2, hS2⟩
        have HW2 := hide (HOW.out.gr hg2 hsl)
        have hgr2 := hgr.trans hg2
        have hsz2 := hgr2.sz
        clear HOW hgr hSr hg2
        cases fl
        · go_wp2_with fail
          go_ret
          exact ⟨A0, c0', ls, rfl, by omega, HW2.out.rd, hgr2, hS2.more (by omega)⟩
        · rcases HW2.out.1.2 with ⟨he, h0⟩ | ⟨g, cap, cur, he, hgg, _⟩
          · omega
          injection he with he1 _ he3
          subst he1
          go_wp2_with fail
          refine (w_Next _ _ _ _ hS2 (by omega) (by omega)).mono ?_
          rintro e w3 ⟨q, hq1, hq2, rfl, hg3, hS3⟩
          obtain ⟨q, rfl⟩ := Int.eq_ofNat_of_zero_le hq1
          have hql : q < ls.length := by omega
          have HW3 := hide (HW2.out.gr hg3 hsl)
          have hgr3 := hgr2.trans hg3
          have hsz3 := hgr3.sz
          clear HW2 hgr2 hS2 hg3
          have d0 : w3.cell? ⟨g, q * 2, none⟩ = some (.slice ls[q].a ls[q].rides.length ls[q].cap) := by have := own_cell encLeg_len rfl HW3.out.1 q hql 0 _ rfl; simpa using this
          obtain ⟨hrx, hsx, hlx⟩ := HW3.out.2 ls[q] (List.getElem_mem hql)
          have HRX := hide (rd_ownv encS_len rfl hrx)
          have HSX := hide hsx
          have hs3 := hS3.lt
          clear hrx hsx
          go_upto_region 16 with fail
          have HLX := hide hlx
          have hglt := (HW3.out.1.lt g rfl).2
          have D0 := hide d0
          obtain ⟨oc, hoc⟩ : ∃ oc : Int, w3.cell? ⟨g, q * 2 + 1, none⟩ = some (.int .i64 oc) := ⟨_, own_cell encLeg_len rfl HW3.out.1 q hql 1 _ rfl⟩
          have D1 := hide hoc
          clear hoc
          generalize ls[q].a = xa at *
          generalize ls[q].cap = xc at *
          generalize hrs : ls[q].rides = xr at *
          clear hrs
          obtain ⟨iS, zS, e1, e2, e3, e4, e5⟩ := el_S.hi
          have E1 := hide e1
          have E2 := hide e2
          have E3 := hide e3
          have E4 := hide e4
          have E5 := hide e5
          clear e1 e2 e3 e4 e5
          go_region_law
            (first
              | (go_simp; go_at_call 18; refine (w_Odd 0 1000000000 _ _ _ (by first | exact hS3.nx ((Nx.refl _).drew) | exact hS3.nx (((Nx.refl _).alloc _).drew)) (by omega) (by omega) (by omega)).mono ?_; rintro e wo ⟨z, hz1, hz2, rfl, hgo, hSo⟩; (have hgoA : Gr s w3 wo := by first | exact (Gr.refl s w3).drew.trans hgo | exact ((Gr.refl s w3).alloc _).drew.trans hgo); (have hszo := hgoA.sz); (have dO : wo.cell? ⟨g, q * 2, none⟩ = some (.slice xa xr.length xc) := World.grownBy.cell hgoA D0.out (by simp; omega)); (have dOA : ∀ o, (wo.alloc o).cell? ⟨g, q * 2, none⟩ = some (.slice xa xr.length xc) := fun o => (Below.cell ((Nx.refl wo).alloc o) (p := ⟨g, _, none⟩) (show g < wo.heap.size by omega)).trans dO))
              | (go_simp; go_at_call 19; refine (w_CloneS _ _ _ _ _ (by first | exact HRX.out.gr hgoA hsl | exact HRX.out.gr (hgoA.alloc _) hsl) (by omega)).mono ?_; rintro e wc ⟨v4, rfl, hownc, hnc⟩; (have hszc := hnc.sz))
              | (go_simp; go_at_call 20; refine (w_Some _ [⟨#[106, 97]⟩, ⟨#[]⟩, ⟨#[106, 122]⟩] _ _ _ _ (by first | exact (hSo.nx hnc).nx ((Nx.refl _).alloc _) | exact (hSo.nx ((Nx.refl _).alloc _)).nx hnc | exact hSo.nx hnc) (by omega) (by first | exact hnew rfl | exact (hnc.block _ (by simp)).trans (hnew rfl) | exact (hnc.block _ (by have h9 := hgo.sz; simp at h9 ⊢; omega)).trans ((World.grownBy.block (row := some s) hgo _ (by simp) (by simp; omega)).trans (hnew_drew rfl))) (by first | omega | (simp at hszc; omega)) rfl (by simp) (by simp)).mono ?_; rintro e ws ⟨y, hy, rfl, hgs, hSs⟩; (have hszs := hgs.sz); (have HV4 : Hid (ws.ownsRow wo.heap.size 9 1 v4 xr.length (xr.flatMap encS)) := hide (by first | exact own_gr (hownc.alloc _) hgs (by omega) | exact (own_gr hownc hgs (by first | omega | (simp; omega))).mono (by simp))); (have hgws : Gr s w3 ws := by first | exact ((hgoA.then_nx hnc).alloc _).trans hgs | exact ((hgoA.alloc _).then_nx hnc).trans hgs | exact (hgoA.then_nx hnc).trans hgs))
              | (refine step_append_lies _ rfl _ _ _ rfl wo.heap.size _ iS zS 1 16 Tryz.underlying30 E1.out E2.out E3.out E4.out E5.out (by omega) v4 xr.length (xr.flatMap encS) rfl (HV4.out.alloc _) _ 1 1 [.string y] rfl rfl (news_of (hnew rfl) rfl) (by intro u hu; simp at hu; subst hu; rfl) (by omega) (by unfold maxLen; omega) (by omega) (by have := hgws.sz; have h9 := hgo.sz; have h8 := hnc.sz; have h7 := hgs.sz; simp at h7 h8 h9 ⊢; omega) _ rfl ?_; intro g5 c5 w5 hown5 hg5 hat5 hlt5; (have hg35 : Gr s w3 w5 := (hgws.alloc (.cells #[.string y] 9)).grown hg5 (fun j hj => .inr (by have := own_blk_lt HV4.out j hj; omega))); (have HW5 := hide (HW3.out.gr hg35 hsl)); (have d5 : w5.cell? ⟨g, q * 2, none⟩ = some (.slice xa xr.length xc) := World.grownBy.cell hg35 D0.out (by simp; omega)); (have d5b : w5.cell? ⟨g, q * 2 + 1, none⟩ = some (.int .i64 oc) := World.grownBy.cell hg35 D1.out (by simp; omega)); (have f5 : w5.frozen? ⟨g, q * 2 + 1, none⟩ = false := HW5.out.1.frozenAt _); (have f6 : (w5.setCell ⟨g, q * 2 + 1, none⟩ (.int .i64 z)).frozen? ⟨g, q * 2, none⟩ = false := ((HW5.out.1.stored (q * 2 + 1) (.int .i64 z)).1).frozenAt _); (have HO5 := hide hown5); clear hown5))
          all_goals
            (go_wp2_with fail
             go_ret
             exact ⟨some ⟨g, 0, none⟩, cap, ls.set q ⟨some ⟨g5, 0, none⟩, c5, xr ++ [y], z⟩, (by rw [List.length_set]; first | done | rfl), (by rw [List.length_set]; omega), OwnLegs.twist (b2 := wo.heap.size) HW5.out hql (by omega) (by rw [List.flatMap_append]; exact HO5.out) (by simp) (fun t ht => by
               rcases List.mem_append.1 ht with ht | ht
               · exact HSX.out t ht
               · simp at ht; subst ht; simp at hy; rcases hy with rfl | rfl | rfl <;> decide) (by have := HLX.out; simp; omega), ((hgr3.trans hg35).setS (p := ⟨g, q * 2 + 1, none⟩) (.inr hgg) (.int .i64 z)).setS (p := ⟨g, q * 2, none⟩) (.inr hgg) _, (((((hSs.nx ((Nx.refl _).alloc _)).row hg5 (fun j hj => by have := own_blk_lt HV4.out j hj; omega))).row ((Gr.refl g _).setS (p := ⟨g, q * 2 + 1, none⟩) (.inl rfl) (.int .i64 z)) (fun j hj => by injection hj with hj; omega)).row ((Gr.refl g _).setS (p := ⟨g, q * 2, none⟩) (.inl rfl) _) (fun j hj => by injection hj with hj; omega)).more (by omega)⟩)
end Go.Proofs.YtfnbmcinbmbehaaGreatDoor
