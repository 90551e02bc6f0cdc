/- The stream's trips, and that each has few nodes. -/
import Derived.Test.YthlhomcgjgfdhaaGreatDoorQG20
import Derived.Test.YthlhomcgjgfdhaaGreatDoorQG16
import Derived.Deep.DeepCutAuto
import Derived.Deep.AppendLies

namespace Go.Proofs.YthlhomcgjgfdhaaGreatDoor
open Go.RowKit Go.Sort Go.Proofs Go.Shelf

/-- Few nodes, no more than the row holds. -/
def FewJ (ts : List Jour) : Prop := ∀ x ∈ ts, x.nodes.length ≤ 4 ∧ x.nodes.length ≤ x.cap
theorem OwnJours.few {w : World} {base : Nat} {v : Value} {ts : List Jour} (h : OwnJours w base v ts) : FewJ ts := fun x hx => ⟨(h.2 x hx).few, own_cap (h.2 x hx).row⟩
theorem BoxJ.few {g m c base : Nat} {ts us : List Jour} {w : World} (h : BoxJ g m c base ts w us) (hf : FewJ ts) : FewJ us := fun x hx => by
  rcases h.sk x hx with h1 | h1
  · obtain ⟨y, hy, e⟩ := List.mem_map.1 h1
    have hy' := hf y hy
    obtain ⟨_, e2⟩ := Prod.mk.inj e
    obtain ⟨e2, e3⟩ := Prod.mk.inj e2
    rw [e2, e3] at hy'
    exact hy'
  · rw [h1]; exact ⟨Nat.zero_le _, Nat.zero_le _⟩
theorem few_bare {us : List Jour} {q : Nat} {x : Jour} (h : FewJ us) : FewJ (us.set q { x with a := none, cap := 0, nodes := [] }) := fun y hy => by
  rcases List.mem_or_eq_of_mem_set hy with hy | rfl
  · exact h y hy
  · exact ⟨Nat.zero_le _, Nat.zero_le _⟩
/-- Some trips. -/
def StrJoursF (many s k : Nat) (w : World) (e : Ending) (w' : World) : Prop :=
  ∃ (A : Option Addr) (c : Nat) (ts : List Jour), e = .returned (.slice A ts.length c) ∧ ts.length = many ∧ ts.length ≤ c ∧ RdJours w' w.heap.size A ts ∧ FewJ ts ∧ Gr s w w' ∧ Str w' s k
set_option maxRecDepth 100000 in
set_option maxHeartbeats 2000000 in
theorem w_JourneysF (many : Nat) (s k : Nat) (w : World) (hS : Str w s k) (hk : k < 700000) (hm : many ≤ 8) (hT : ∀ w', Gr s w w' → PowTab w') :
    Calls Tryz.prog 26 #[.pointer (some ⟨s, 0, none⟩), .int .i64 (many : Int)] w (StrJoursF many s (k + 300) w) := by
  have hsl := hS.lt
  have HT := hide hT
  clear hT
  have hown0 : OwnJours w w.heap.size (.slice none 0 0) [] := ⟨⟨rfl, .inl ⟨rfl, rfl⟩⟩, fun x hx => by cases hx⟩
  have HST := hide (And.intro hown0 (And.intro (Gr.refl s w) hS))
  clear hown0 hS
  go_enter Tryz.func26, Tryz.ntmps26
  go_wp2_with fail
  go_loopw [5, 6, 7, 10] (fun v _ _ i wr => ∃ (k' : Nat) (ts : List Jour), k' ≤ many ∧ i = .int .i64 k' ∧ ts.length = k' ∧ OwnJours wr w.heap.size v ts ∧ Gr s w wr ∧ Str wr s (k + 20 * k')) (fun _ _ _ i _ => many - (intOf i).toNat)
  case atStart => exact ⟨0, [], by omega, rfl, by simp, HST.out.1, HST.out.2.1, HST.out.2.2⟩
  case round =>
    clear HST
    obtain ⟨k', ts, hkn, rfl, hcl, hown, hgr, hSr⟩ := hrel
    have hsz := hgr.sz
    by_cases hlt : k' < many
    · have HOW := hide hown
      have HCL := hide hcl
      have HP := hide (HT.out wr hgr)
      clear hown hcl
      go_wp2_with fail
      refine (w_ItoaN k' (by omega) (by omega) _ HP.out).mono ?_
      rintro e w1 ⟨rfl, hn1⟩
      have hit := itoa_small k' (by omega)
      obtain ⟨rd, hrd⟩ : ∃ rd, rd = (⟨#[106]⟩ : ByteArray) ++ itoaS k' := ⟨_, rfl⟩
      have hrd2 : rd.size ≤ 1000 := by rw [hrd, ByteArray.size_append]; have : (⟨#[106]⟩ : ByteArray).size = 1 := rfl; omega
      have HRD := hide hrd
      have HS1 := hide (hSr.nx hn1)
      have HG1 := hide (hgr.then_nx hn1)
      have HO1 := hide (HOW.out.nx hn1)
      clear hSr hgr hn1 HOW hrd
      go_wp2_with fail
      refine (w_Some _ [⟨#[97, 110, 110]⟩, ⟨#[97, 110, 110]⟩, ⟨#[98, 111, 98]⟩] _ s _ _ (HS1.out.nx ((Nx.refl _).alloc _)) (by omega) (hnew rfl) (by have := HS1.out.lt; omega) rfl (by simp) (by simp)).mono ?_
      rintro e w2 ⟨ri, hri, rfl, hg2, hS2⟩
      have hri2 : ri.size ≤ 1000 := by { simp only [List.mem_cons, List.not_mem_nil, or_false] at hri; rcases hri with rfl | rfl | rfl <;> decide }
      have HG2 := hide ((HG1.out.alloc _).trans hg2)
      have HO2 := hide ((HO1.out.nx ((Nx.refl _).alloc _)).gr hg2 hsl)
      have HS2 := hide hS2
      clear hri hg2 hS2 HS1 HG1 HO1 hit
      go_wp2_with fail
      refine (w_PickI _ [0, 1, 100, 101, 5250] _ s _ _ (HS2.out.nx ((Nx.refl _).alloc _)) (by omega) (hnew rfl) (by have := HS2.out.lt; omega) rfl (by simp) (by simp)).mono ?_
      rintro e w3 ⟨me, hme, rfl, hg3, hS3⟩
      have hme2 := hide (show -1000000000000000 ≤ me ∧ me ≤ 1000000000000000 by simp only [List.mem_cons, List.not_mem_nil, or_false] at hme; omega)
      have HG3 := hide ((HG2.out.alloc _).trans hg3)
      have HO3 := hide ((HO2.out.nx ((Nx.refl _).alloc _)).gr hg3 hsl)
      have HS3 := hide hS3
      clear hme hg3 hS3 HS2 HG2 HO2
      obtain ⟨bx, hbx⟩ : ∃ bx, bx = w3.heap.size := ⟨_, rfl⟩
      obtain ⟨wa, hwa⟩ : ∃ wa, wa = w3.alloc (.cells #[.string rd, .string ri, .slice none 0 0, .int .i64 me, .int .i64 0, .int .i64 0] 71 (0, 0)) := ⟨_, rfl⟩
      have hba : wa.heap[bx]? = some (.cells #[.string rd, .string ri, .slice none 0 0, .int .i64 me, .int .i64 0, .int .i64 0] 71 (0, 0)) := by rw [hwa, hbx]; exact heap_alloc_new w3 _
      have hbw : w.heap.size ≤ bx := by have := HG3.out.sz; omega
      have hsb : s < bx := by omega
      have hbs : bx ≠ s := by omega
      have HBW := hide (show w3.heap.size = bx from hbx.symm)
      have HSA := hide (show Str wa s (k + 20 * k' + 2) from hwa ▸ HS3.out.nx ((Nx.refl w3).alloc _))
      have HGA := hide (show Gr s w3 wa from hwa ▸ (Gr.refl s w3).alloc _)
      have HBA := hide hba
      have HWZ := hide (show wa.heap.size = bx + 1 by rw [hwa, hbx]; simp)
      clear hba
      go_upto_region 6 with fail
      rw [← HRD.out]
      rw [← hwa, ← hbx]
      clear hwa hbx HRD
      go_wp2_with fail
      refine (w_PickI _ [0, 1, 2] _ s _ _ (HSA.out.nx ((Nx.refl _).alloc _)) (by omega) (hnew rfl) (by have := HSA.out.lt; omega) rfl (by simp) (by simp)).mono ?_
      rintro e wp1 ⟨z1, hz1, rfl, hgp1, hSp1⟩
      have hzb1 : 0 ≤ z1 ∧ z1 ≤ 2 := by simp only [List.mem_cons, List.not_mem_nil, or_false] at hz1; omega
      have W1 : IntKind.i64.wrap (z1 * 86400000) = z1 * 86400000 := IntWalk.i64_in _ (by omega)
      have HGp1 := hide (((Gr.refl s wa).alloc _).trans hgp1)
      have HSp1 := hide hSp1
      clear hz1 hgp1 hSp1
      go_wp2_with fail
      refine (w_PickI _ [0, 7, 8, 16, 23] _ s _ _ (HSp1.out.nx ((Nx.refl _).alloc _)) (by omega) (hnew rfl) (by have := HSp1.out.lt; omega) rfl (by simp) (by simp)).mono ?_
      rintro e wp2 ⟨z2, hz2, rfl, hgp2, hSp2⟩
      have hzb2 : 0 ≤ z2 ∧ z2 ≤ 23 := by simp only [List.mem_cons, List.not_mem_nil, or_false] at hz2; omega
      have W2 : IntKind.i64.wrap (z2 * 3600000) = z2 * 3600000 := IntWalk.i64_in _ (by omega)
      have W3 : IntKind.i64.wrap (z1 * 86400000 + z2 * 3600000) = z1 * 86400000 + z2 * 3600000 := IntWalk.i64_in _ (by omega)
      have HGp2 := hide ((HGp1.out.alloc _).trans hgp2)
      have HSp2 := hide hSp2
      clear hz2 hgp2 hSp2
      go_wp2_with fail
      refine (w_PickI _ [0, 59000, 1800000] _ s _ _ (HSp2.out.nx ((Nx.refl _).alloc _)) (by omega) (hnew rfl) (by have := HSp2.out.lt; omega) rfl (by simp) (by simp)).mono ?_
      rintro e wp3 ⟨z3, hz3, rfl, hgp3, hSp3⟩
      have hzb3 : 0 ≤ z3 ∧ z3 ≤ 1800000 := by simp only [List.mem_cons, List.not_mem_nil, or_false] at hz3; omega
      have W4 : IntKind.i64.wrap (z1 * 86400000 + z2 * 3600000 + z3) = z1 * 86400000 + z2 * 3600000 + z3 := IntWalk.i64_in _ (by omega)
      have HGp3 := hide ((HGp2.out.alloc _).trans hgp3)
      have HSp3 := hide hSp3
      clear hz3 hgp3 hSp3
      obtain ⟨fr, hfr⟩ : ∃ fr, fr = z1 * 86400000 + z2 * 3600000 + z3 := ⟨_, rfl⟩
      have hfrb : 0 ≤ fr ∧ fr ≤ 1000000000 := by omega
      have HFR := hide hfr
      have hBp := (HGp3.out.block bx (Array.getElem?_eq_some_iff.1 HBA.out).1 (by intro e; injection e with e; exact hbs e)).trans HBA.out
      have HBp := hide hBp
      have c4 : wp3.cell? ⟨bx, 4, none⟩ = some (.int .i64 0) := cell_of_row wp3 bx 4 _ _ _ hBp
      have f4 : wp3.frozen? ⟨bx, 4, none⟩ = false := by simp [World.frozen?, hBp]
      have hblp := (Array.getElem?_eq_some_iff.1 hBp).1
      clear hBp HGp1 HGp2 HSp1 HSp2 hfr
      go_upto_region 7 with fail
      rw [← HFR.out]
      obtain ⟨wb, hwb⟩ : ∃ wb, wb = wp3.setCell ⟨bx, 4, none⟩ (.int .i64 fr) := ⟨_, rfl⟩
      have hBb : wb.heap[bx]? = some (.cells #[.string rd, .string ri, .slice none 0 0, .int .i64 me, .int .i64 fr, .int .i64 0] 71 (0, 0)) := by rw [hwb]; exact heap_set HBp.out
      have HSb := hide (show Str wb s (k + 20 * k' + 5) from hwb ▸ HSp3.out.setgP hsb)
      have HGb := hide (show Gr s w3 wb from hwb ▸ (HGA.out.trans HGp3.out).setgP (by have := HBW.out; omega))
      have HBb := hide hBb
      rw [← hwb]
      clear hwb W1 W2 W3 W4 c4 f4 hblp HBp HGp3 HSp3 HFR hzb1 hzb2 hzb3 HBA HSA HGA
      go_cut [] (fun wx => ∃ to_ : Int, 0 ≤ to_ ∧ to_ ≤ 1100000000 ∧ wx.heap[bx]? = some (.cells #[.string rd, .string ri, .slice none 0 0, .int .i64 me, .int .i64 fr, .int .i64 to_] 71 (0, 0)) ∧ Gr s w3 wx ∧ Str wx s (k + 20 * k' + 6))
      case first =>
        have c4 : wb.cell? ⟨bx, 4, none⟩ = some (.int .i64 fr) := cell_of_row wb bx 4 _ _ _ hBb
        have hblb := (Array.getElem?_eq_some_iff.1 hBb).1
        have C4 := hide c4
        clear hBb
        go_region_law
          (go_simp; go_at_call 7; refine (w_PickI _ [0, 1, 60000, 60001, 1500000] _ s _ _ (by first | exact HSb.out.nx ((Nx.refl _).alloc _) | exact HSb.out.nx (((Nx.refl _).alloc _).drew) | exact HSb.out.nx (((Nx.refl _).drew).alloc _)) (by omega) (by first | exact hnew rfl | exact hnew_drew rfl) (by omega) rfl (by simp) (by simp)).mono ?_; rintro e wc ⟨z4, hz4, rfl, hg4, hS4⟩; (have hz4b : 0 ≤ z4 ∧ z4 ≤ 1500000 := by { simp only [List.mem_cons, List.not_mem_nil, or_false] at hz4; omega }); (have W5 : IntKind.i64.wrap (fr + z4) = fr + z4 := IntWalk.i64_in _ (by omega)); (have hgA : Gr s wb wc := by first | exact ((Gr.refl s wb).alloc _).drew.trans hg4 | exact ((Gr.refl s wb).drew.alloc _).trans hg4 | exact ((Gr.refl s wb).alloc _).trans hg4); (have hB4 := (hgA.block bx hblb (by intro e; injection e with e; exact hbs e)).trans HBb.out); (have c4' : wc.cell? ⟨bx, 4, none⟩ = some (.int .i64 fr) := cell_of_row wc bx 4 _ _ _ hB4); (have c5 : wc.cell? ⟨bx, 5, none⟩ = some (.int .i64 0) := cell_of_row wc bx 5 _ _ _ hB4); (have f5 : wc.frozen? ⟨bx, 5, none⟩ = false := by simp [World.frozen?, hB4]); (have hblc := (Array.getElem?_eq_some_iff.1 hB4).1); (have HB4 := hide hB4); (have HG4 := hide hgA); (have HS4 := hide hS4); clear hz4 hg4 hS4 hB4 hgA)
        all_goals
          (go_wp2
           go_meet
           exact ⟨fr + z4, by omega, by omega, heap_set HB4.out, (HGb.out.trans HG4.out).setgP (by have := HBW.out; omega), (HS4.out.setgP hsb)⟩)
      case rest =>
      obtain ⟨to_, hto1, hto2, hBc, hGc, hSc⟩ := hcut
      obtain ⟨w7, hw7⟩ : ∃ w7, w7 = wc := ⟨_, rfl⟩
      rw [← hw7] at hBc hGc hSc ⊢
      have HB7 := hide hBc
      have HG7 := hide hGc
      have HS7 := hide hSc
      clear hw7 hBc hGc hSc HBb HSb HGb hBb
      go_wp2_with fail
      refine (w_Range 1 4 s _ _ HS7.out (by omega) (by omega) (by omega)).mono ?_
      rintro e w8 ⟨n4, hn1, hn2, rfl, hg8, hS8⟩
      obtain ⟨n4, rfl⟩ := Int.eq_ofNat_of_zero_le (show 0 ≤ n4 by omega)
      have HB8 := hide ((hg8.block bx (Array.getElem?_eq_some_iff.1 HB7.out).1 (by intro e; injection e with e; exact hbs e)).trans HB7.out)
      have HG8 := hide (HG7.out.trans hg8)
      have HS8 := hide hS8
      clear hg8 hS8 HB7 HG7 HS7
      go_upto_region 9 with fail
      go_loopw [49] (fun i wr => ∃ (j : Nat) (v : Value) (rs : List ByteArray), j ≤ n4 ∧ i = .int .i64 j ∧ rs.length = j ∧ Small rs ∧ wr.ownsRow (bx + 1) 9 1 v rs.length (rs.flatMap encS) ∧ wr.heap[bx]? = some (.cells #[.string rd, .string ri, v, .int .i64 me, .int .i64 fr, .int .i64 to_] 71 (0, 0)) ∧ Gr s w3 wr ∧ Str wr s (k + 20 * k' + 7 + j)) (fun i _ => n4 - (intOf i).toNat)
      case atStart => exact ⟨0, .slice none 0 0, [], by omega, rfl, by simp, fun x hx => (by cases hx), ⟨rfl, .inl ⟨rfl, rfl⟩⟩, HB8.out, HG8.out, HS8.out⟩
      case round =>
        clear HB8 HG8 HS8
        obtain ⟨j, v, rs, hj, rfl, hrl, hsm, hrow, hb, hg3, hS3⟩ := hrel
        have HSM := hide hsm
        have hsz3 := hg3.sz
        have hbz := HBW.out
        have hblt : bx < wr.heap.size := (Array.getElem?_eq_some_iff.1 hb).1
        clear hsm
        by_cases hj4 : j < n4
        · obtain ⟨A0, c0, ev0⟩ := own_form (n := rs.length) rfl hrow
          subst ev0
          have HB := hide hb
          have HRW := hide hrow
          have HG3 := hide hg3
          have HS3 := hide hS3
          have C2 := hide (show wr.cell? ⟨bx, 2, none⟩ = some (.slice A0 rs.length c0) from cell_of_row wr bx 2 _ _ _ hb)
          have c2 := C2.out
          have hrs4 : rs.length ≤ 3 := by omega
          have HRL := hide hrl
          clear hb hrow hg3 hS3 hrl
          obtain ⟨iS, zS, e1, e2, e3, e4, e5⟩ := el_S.hi
          have E1 := hide e1
          have E2 := hide e2
          have E3 := hide e3
          have E4 := hide e4
          have E5 := hide e5
          clear e1 e2 e3 e4 e5
          go_upto_region 10 with fail
          go_region_law
            (first
              | (refine step_append_lies _ rfl _ _ _ rfl (bx + 1) _ iS zS 1 16 Tryz.underlying67 E1.out E2.out E3.out E4.out E5.out (by omega) (.slice A0 rs.length c0) rs.length (rs.flatMap encS) rfl (HR4.out.alloc _) _ 1 1 [.string ky] rfl rfl (news_of (hnew rfl) rfl) (by intro u hu; simp at hu; subst hu; rfl) (by omega) (by unfold maxLen; omega) (by omega) (by simp; omega) _ rfl ?_; intro g5 c5 w5 hown5 hg5 hat5 hlt5; (have hb5 : w5.heap[bx]? = some (.cells #[.string rd, .string ri, .slice A0 rs.length c0, .int .i64 me, .int .i64 fr, .int .i64 to_] 71 (0, 0)) := (World.grownBy.block hg5 _ (by simp; omega) (fun e => by have := own_blk_lt HR4.out bx e.symm; omega)).trans ((((Nx.refl _).alloc _).block bx hbl4).trans HB4.out)); (have c5' : w5.cell? ⟨bx, 2, none⟩ = some (.slice A0 rs.length c0) := cell_of_row w5 bx 2 _ _ _ hb5); (have f5 : w5.frozen? ⟨bx, 2, none⟩ = false := by simp [World.frozen?, hb5]); (have hbl5 := (Array.getElem?_eq_some_iff.1 hb5).1); (have HB5 := hide hb5); (have HO5 := hide hown5); (have HG5 := hide ((HG4.out.alloc (.cells #[.string ky] 9)).grown hg5 (fun j hj => .inr (by have := own_blk_lt HR4.out j hj; omega)))); (have HS5 := hide ((HS4.out.nx ((Nx.refl _).alloc (.cells #[.string ky] 9))).row hg5 (fun j hj => by have := own_blk_lt HR4.out j hj; omega))); clear hb5 hown5)
              | (go_simp; go_at_call 72; refine (w_Some _ [⟨#[110, 97]⟩, ⟨#[110, 98]⟩, ⟨#[110, 99]⟩, ⟨#[110, 100]⟩, ⟨#[110, 101]⟩, ⟨#[110, 122]⟩] _ s _ _ (by first | exact HS3.out.nx ((Nx.refl _).alloc _) | exact HS3.out.nx (((Nx.refl _).alloc _).drew) | exact HS3.out.nx (((Nx.refl _).drew).alloc _)) (by omega) (by first | exact hnew rfl | exact hnew_drew rfl) (by omega) rfl (by simp) (by simp)).mono ?_; rintro e wc ⟨ky, hky, rfl, hg4, hS4⟩; (have hks : ky.size ≤ 1000000 := by { simp only [List.mem_cons, List.not_mem_nil, or_false] at hky; rcases hky with rfl | rfl | rfl | rfl | rfl | rfl <;> decide }); (have hgA : Gr s wr wc := by first | exact ((Gr.refl s wr).alloc _).drew.trans hg4 | exact ((Gr.refl s wr).drew.alloc _).trans hg4 | exact ((Gr.refl s wr).alloc _).trans hg4); (have hB4 := (hgA.block bx hblt (by intro e; injection e with e; exact hbs e)).trans HB.out); (have hbl4 := (Array.getElem?_eq_some_iff.1 hB4).1); (have c24 : wc.cell? ⟨bx, 2, none⟩ = some (.slice A0 rs.length c0) := cell_of_row wc bx 2 _ _ _ hB4); (have hsz4 := hgA.sz); (have HB4 := hide hB4); (have HR4 := hide (own_gr HRW.out hgA (by omega))); (have HG4 := hide (HG3.out.trans hgA)); (have HS4 := hide hS4); clear hky hg4 hS4 hB4 hgA))
          all_goals
            (go_wp2_with fail
             go_roundw
             case rel =>
               have HL1 := hide (show (rs ++ [ky]).length = rs.length + 1 from List.length_append ..)
               refine ⟨j + 1, .slice (some ⟨g5, 0, none⟩) (rs.length + 1) c5, rs ++ [ky], by omega, by go_num, by rw [HL1.out, HRL.out], fun x hx => (by
                rcases List.mem_append.1 hx with hx | hx
                · exact HSM.out x hx
                · simp at hx; subst hx; exact hks), ?_, heap_set HB5.out, HG5.out.setgP (by omega), (HS5.out.setgP hsb).more (by omega)⟩
               rw [HL1.out, List.flatMap_append]
               exact HO5.out.kept ((Gr.refl bx _).setS (p := ⟨bx, 2, none⟩) (.inl rfl) _) (.inr (fun e => by have e' : g5 = bx := by { injection e }; have := own_blk_lt HO5.out g5 rfl; omega))
             case measure => simp [intOf]; omega)
        · have ej : j = n4 := by omega
          subst ej
          clear hj hj4
          obtain ⟨A', c', ev⟩ := own_form (n := rs.length) rfl hrow
          subst ev
          have c0 : wr.cell? ⟨bx, 0, none⟩ = some (.string rd) := cell_of_row wr bx 0 _ _ _ hb
          have c1 : wr.cell? ⟨bx, 1, none⟩ = some (.string ri) := cell_of_row wr bx 1 _ _ _ hb
          have c2 : wr.cell? ⟨bx, 2, none⟩ = some (.slice A' rs.length c') := cell_of_row wr bx 2 _ _ _ hb
          have c3 : wr.cell? ⟨bx, 3, none⟩ = some (.int .i64 me) := cell_of_row wr bx 3 _ _ _ hb
          have c4 : wr.cell? ⟨bx, 4, none⟩ = some (.int .i64 fr) := cell_of_row wr bx 4 _ _ _ hb
          have c5 : wr.cell? ⟨bx, 5, none⟩ = some (.int .i64 to_) := cell_of_row wr bx 5 _ _ _ hb
          have HB := hide hb
          have HR := hide hrow
          have HWO := hide (HO3.out.gr hg3 hsl)
          have HGR := hide (HG3.out.trans hg3)
          have HS3 := hide hS3
          have HRS4 := hide (show rs.length ≤ 4 by omega)
          have HRL := hide hrl
          clear hb hrow hg3 hS3 hrl
          go_upto_region 12 with fail
          go_wp2_with (at_builtin; refine wpApp rfl _ _ _ rfl el_JourS encJ encJ_len encJ_one (by omega) (by omega) w.heap.size _ ts rfl (HWO.out.1.alloc _) _ ⟨rd, ri, A', c', rs, me, fr, to_⟩ _ rfl (hnew (by simp)) rfl (by have := HCL.out; omega) (by simp; omega) ?_; intro v5 w5 hown5 hg5)
          have hO5 : OwnJours w5 w.heap.size v5 (ts ++ [⟨rd, ri, A', c', rs, me, fr, to_⟩]) := ⟨hown5, fun x hx => by
            rcases List.mem_append.1 hx with hx | hx
            · have h1 := HWO.out.2 x hx
              exact ⟨(h1.row.alloc _).kept hg5 (own_apart h1.row HWO.out.1 (by decide)), h1.small, h1.few, h1.ok⟩
            · simp at hx; subst hx
              exact ⟨((HR.out.mono (by omega)).alloc _).kept hg5 (own_apart HR.out HWO.out.1 (by decide)), HSM.out, HRS4.out, ⟨hrd2, hri2, hme2.out, ⟨by show (-100000000000000 : Int) ≤ fr; omega, by show fr ≤ (100000000000000 : Int); omega⟩, ⟨by show (-1000000000000000 : Int) ≤ to_; omega, by show to_ ≤ (1000000000000000 : Int); omega⟩⟩⟩⟩
          have hgr5 := (HGR.out.alloc (.cells #[.string rd, .string ri, .slice A' rs.length c', .int .i64 me, .int .i64 fr, .int .i64 to_] 71)).grown hg5 (fun j hj => .inr (own_blk_lt HWO.out.1 j hj))
          have hS5 := (HS3.out.nx ((Nx.refl _).alloc (.cells #[.string rd, .string ri, .slice A' rs.length c', .int .i64 me, .int .i64 fr, .int .i64 to_] 71))).row hg5 (fun j hj => by have := own_blk_lt HWO.out.1 j hj; omega)
          go_roundw
          case rel => exact ⟨k' + 1, _, by omega, by go_num, by rw [List.length_append, HCL.out]; rfl, hO5, hgr5, hS5.more (by omega)⟩
          case measure => simp [intOf]; omega
    · have ek : k' = many := by omega
      subst ek
      clear hlt hkn
      obtain ⟨A0, c0', ev0⟩ := own_form (n := ts.length) rfl hown.1
      subst ev0
      have HOW := hide hown
      clear hown HT
      by_cases hl0 : ts.length = 0
      · have t3 : decide (0 < ts.length) = false := decide_eq_false (by omega)
        have t1 : decide ((ts.length : Int) > 0) = false := by rw [hl0]; rfl
        have t2 : ¬ (0 : Int) < (ts.length : Int) := by omega
        have HL0 := hide hcl
        clear hl0 hcl
        go_wp2_with fail
        go_ret
        exact ⟨A0, c0', ts, rfl, HL0.out, own_cap HOW.out.1, HOW.out.rd, HOW.out.few, hgr, hSr.more (by omega)⟩
      · have t1 : decide ((ts.length : Int) > 0) = true := by simp; omega
        have t2 : (0 : Int) < (ts.length : Int) := by omega
        have t3 : decide (0 < ts.length) = true := decide_eq_true (by omega)
        have t4 : ¬ ts = [] := by intro e; rw [e] at hl0; exact hl0 rfl
        have hlp : 0 < ts.length := by omega
        have HL0 := hide hcl
        have hl8 : ts.length ≤ 8 := by omega
        clear hl0 hcl
        go_wp2_with fail
        refine (w_Flip _ _ _ _ hSr (by omega) (by omega)).mono ?_
        rintro e w2 ⟨fl, rfl, hg2, hS2⟩
        have HW2 := hide (HOW.out.gr hg2 hsl)
        have hgr2 := hgr.trans hg2
        have hsz2 := hgr2.sz
        clear HOW hgr hSr hg2
        cases fl
        · go_wp2_with fail
          go_ret
          exact ⟨A0, c0', ts, rfl, HL0.out, own_cap HW2.out.1, HW2.out.rd, HW2.out.few, hgr2, hS2.more (by omega)⟩
        · rcases HW2.out.1.2 with ⟨he, h0⟩ | ⟨g, cap, cur, he, hgg, _⟩
          · omega
          injection he with he1 _ he3
          subst he1
          subst he3
          go_wp2_with fail
          refine (w_Next _ _ _ _ hS2 (by omega) (by omega)).mono ?_
          rintro e w3 ⟨q, hq1, hq2, rfl, hg3, hS3⟩
          obtain ⟨q, rfl⟩ := Int.eq_ofNat_of_zero_le hq1
          have hql : q < ts.length := by omega
          have HW3 := hide (HW2.out.gr hg3 hsl)
          have HG3 := hide (hgr2.trans hg3)
          have hsz3 := HG3.out.sz
          have hsg : s < g := by omega
          have HS3 := hide hS3
          clear HW2 hgr2 hS2 hg3 hS3
          obtain ⟨m, hmm⟩ : ∃ m, m = ts.length := ⟨_, rfl⟩
          have HMM := hide hmm
          rw [← hmm] at hql hlp t1 t2 t3 hl8 ⊢
          clear hmm
          have EB := boxJ_jo g m c0' w.heap.size q ts hql
          have HT3 := hide (show TyW s g (k + 20 * k' + 2) (fun w' => ∃ us, BoxJ g m c0' w.heap.size ts w' us) w3 0 w3 from ⟨Two.refl _ _ _, HS3.out, ts, HMM.out.symm, fun x hx => .inl (List.mem_map_of_mem hx), fun x hx => (HW3.out.2 x hx).ok, by rw [HMM.out]; exact HW3.out.1⟩)
          go_upto_region 16 with fail
          refine ty_j16 (w0 := w3) (k := k + 20 * k' + 2) EB hsg (by omega) rfl rfl rfl HT3.out ?_
          intro f w4 hW4
          simp only [ty_j16D, List.foldl, List.setIfInBounds_toArray, List.set_cons_zero, List.set_cons_succ]
          have HW4 := hide hW4
          clear hW4
          go_wp2_with fail
          refine (w_Flip 3 _ _ _ HW4.out.str (by omega) (by omega)).mono ?_
          rintro e w5 ⟨fl, rfl, hg5, hS5⟩
          obtain ⟨us, hus⟩ := EB.same _ _ HW4.out.box (hg5.block g (EB.lt _ HW4.out.box) (by intro e; injection e with e; omega)) hg5.sz
          have HT5 := hide (HW4.out.two.trans (Two.of_gr hg5))
          have HUS := hide hus
          have HS5 := hide hS5
          clear hus hg5 hS5
          have HGF := hide (Two.toGrP ((Two.of_gr HG3.out).trans HT5.out) hgg)
          cases fl
          · go_wp2_with fail
            go_ret
            exact ⟨some ⟨g, 0, none⟩, c0', us, by rw [HUS.out.len]; rfl, HUS.out.len.trans (HMM.out.trans HL0.out), by rw [HUS.out.len]; exact own_cap HUS.out.row, HUS.out.rd HW3.out.2 (by rw [HMM.out]; exact HW3.out.1) HT5.out hsl, HUS.out.few HW3.out.few, HGF.out, HS5.out.more (by omega)⟩
          · have hqu : q < us.length := by rw [HUS.out.len]; exact hql
            have d2 : w5.cell? ⟨g, q * 6 + 2, none⟩ = some (.slice us[q].a us[q].nodes.length us[q].cap) := own_cell encJ_len HUS.out.len HUS.out.row q hqu 2 _ rfl
            have f2 : w5.frozen? ⟨g, q * 6 + 2, none⟩ = false := HUS.out.row.frozenAt _
            have hglt := (HUS.out.row.lt g rfl).2
            go_wp2_with fail
            go_ret
            have hB6 := HUS.out.bare hqu
            exact ⟨some ⟨g, 0, none⟩, c0', _, by rw [hB6.len]; rfl, hB6.len.trans (HMM.out.trans HL0.out), by rw [hB6.len]; exact own_cap hB6.row, hB6.rd HW3.out.2 (by rw [HMM.out]; exact HW3.out.1) (HT5.out.trans (Two.set _)) hsl, few_bare (HUS.out.few HW3.out.few), HGF.out.setgP hgg, (HS5.out.setgP hsg).more (by omega)⟩
end Go.Proofs.YthlhomcgjgfdhaaGreatDoor
