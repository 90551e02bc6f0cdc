/- The reference's out times: the loops. -/
import Derived.Test.YtepbamacebjopaaGreatDoorQG25
import Derived.Deep.DeepCutAuto
namespace Go.Proofs.YtepbamacebjopaaGreatDoor
open Go.RowKit

theorem rep_fill (m k : Nat) (h : k < m) : (List.replicate k endT ++ List.replicate (m - k) (0 : Int)).set k endT = List.replicate (k + 1) endT ++ List.replicate (m - (k + 1)) 0 := by
  obtain ⟨q, hq⟩ : ∃ q, m - k = q + 1 := ⟨m - k - 1, by omega⟩
  rw [hq, show m - (k + 1) = q by omega, List.set_append_right _ _ (by simp), List.length_replicate, Nat.sub_self, List.replicate_succ, List.set_cons_zero, List.replicate_succ']
  simp
theorem madeZero (m : Nat) : (.cells (madeCells #[.int .i64 0] m) 3 (0, 0) : Obj) = intRowO (List.replicate m 0) := by
  unfold intRowO
  congr 1
  apply Array.ext'
  rw [toList_madeCells_one]
  simp
section
variable {ns : List Node} {rs : List Arc} {bs : List Ban} {a : Nat} {at_ : Int} {o0 o : List Int} {ag : Bool} {D0 D0' : Nat → Prop} {D1 D1' : Nat → Nat → Prop}
/-- An arc that begins where one starts is asked. -/
theorem RInv.from_ (h : RInv (gphOf ns rs bs) a at_ o0 o ag D0 D1) (hg : GOk (gphOf ns rs bs)) (h0 : 0 ≤ at_) {i : Nat} (hi : i < rs.length) (hf : (gphOf ns rs bs).from_ i = a) (he : at_ < endT) (hd0 : ∀ j, D0' j → D0 j ∨ j = i) (hd1 : ∀ k j, D1' k j → D1 k j) :
    RInv (gphOf ns rs bs) a at_ o0 (betO (gphOf ns rs bs) o i at_) (ag || betB (gphOf ns rs bs) o i at_) D0' D1' :=
  h.step hg h0 hi h0 (fun _ he2 => .start i hi hf he2) (fun _ => ⟨fun j _ _ hj => (hd0 j hj).imp id (fun e => ⟨e, rfl, he⟩), fun k j _ _ _ _ hj => .inl (hd1 k j hj)⟩)
theorem RInv.over (h : RInv (gphOf ns rs bs) a at_ o0 o ag D0 D1) (hg : GOk (gphOf ns rs bs)) (h0 : 0 ≤ at_) {i j : Nat} (hi : i < rs.length) (hj : j < rs.length) (hf : (gphOf ns rs bs).from_ i = (gphOf ns rs bs).to_ j) (hb : (gphOf ns rs bs).ban j i = false) (hd0 : ∀ j, D0' j → D0 j) (hd1 : ∀ x y, D1' x y → D1 x y ∨ (x = j ∧ y = i)) :
    RInv (gphOf ns rs bs) a at_ o0 (betO (gphOf ns rs bs) o i (gi o j)) (ag || betB (gphOf ns rs bs) o i (gi o j)) D0' D1' := by
  refine h.step hg h0 hi (h.inv.bd hg h0 hj).1 (fun he he2 => ?_) (fun _ => ⟨fun x _ _ hx => .inl (hd0 x hx), fun x y _ _ _ _ hx => (hd1 x y hx).imp id (fun ⟨e1, e2⟩ => ⟨e2, by rw [e1]⟩)⟩)
  rcases h.inv.sound j hj with e | e
  · omega
  · exact .step j i _ e hi hf hb he2
end
/-- What outs gives. -/
def OutsRet (w : World) (G : Gph) (a m : Nat) (at_ : Int) (e : Ending) (w' : World) : Prop := ∃ (g : Nat) (o : List Int), e = .returned (.slice (some ⟨g, 0, none⟩) m m) ∧ OutSol G a at_ o ∧ w'.heap[g]? = some (intRowO o) ∧ Nx w w'
set_option maxRecDepth 100000 in
set_option maxHeartbeats 8000000 in
theorem w_outs (lo : Nat) (A B C : Option Addr) (nn ca cb cc : Nat) (ns : List Node) (rs : List Arc) (bs : List Ban) (fr : ByteArray) (at_ : Int) (w : World) (hA : RdArcs w lo B rs) (hal : rs.length ≤ 400) (hB : Rd w lo C 2 encBan bs) (hbl : bs.length ≤ 400) (hC : chk (arcF ns) none rs = 0) (hfr : 0 ≤ nodeI ns fr) (hat : 0 ≤ at_ ∧ at_ ≤ 345686399999) :
    Calls Tryz.prog 104 #[.agg #[.slice A nn ca, .slice B rs.length cb, .slice C bs.length cc], .string fr, .int .i64 at_] w (OutsRet w (gphOf ns rs bs) (nodeN ns fr) rs.length at_) := by
  have hmk := fun W => run_make_intsC rs.length (by omega) W
  have HMZ := hide (madeZero rs.length)
  have HBT := hide (fun W o i t (hS : OM w W A B C nn rs.length bs.length ca cb cc o) hi ht => w_better w W lo A B C nn bs.length ca cb cc ns rs bs o i t hA hal (knots_ok hC) hS hi ht)
  have HBN := hide (fun f t W (hx : Nx w W) => w_bannedQ lo A B C nn rs.length ca cb cc bs f t W (hB.nx hx) (by omega))
  have HA := hide hA
  have HG := hide (gph_ok (bs := bs) hC)
  have HFI := hide (fun i (hi : i < rs.length) => (show (gphOf ns rs bs).from_ i = nodeN ns fr ↔ (arcX rs i).from_ = fr from node_iff (arc_right hC hi).1 hfr))
  have HTI := hide (fun i j (hi : i < rs.length) (hj : j < rs.length) => (show (gphOf ns rs bs).from_ i = (gphOf ns rs bs).to_ j ↔ (arcX rs j).to_ = (arcX rs i).from_ from (node_iff (arc_right hC hi).1 (arc_right hC hj).2.1).trans ⟨fun e => e.symm, fun e => e.symm⟩))
  have HBI := hide (fun i j => (show (gphOf ns rs bs).ban j i = bannedB bs (arcX rs j).key (arcX rs i).key from rfl))
  have HGM := hide (show (gphOf ns rs bs).m = rs.length from rfl)
  have HRF := hide (fun (o0 o : List Int) (ag : Bool) (D0 : Nat → Prop) (D1 : Nat → Nat → Prop) (D0' : Nat → Prop) (D1' : Nat → Nat → Prop) (h : RInv (gphOf ns rs bs) (nodeN ns fr) at_ o0 o ag D0 D1) (i : Nat) (hi : i < rs.length) hf h1 h2 => (h.from_ (D0' := D0') (D1' := D1') (gph_ok hC) hat.1 (i := i) hi hf (show at_ < endT by unfold endT; omega) h1 h2))
  have HRO := hide (fun (o0 o : List Int) (ag : Bool) (D0 : Nat → Prop) (D1 : Nat → Nat → Prop) (D0' : Nat → Prop) (D1' : Nat → Nat → Prop) (h : RInv (gphOf ns rs bs) (nodeN ns fr) at_ o0 o ag D0 D1) (i j : Nat) (hi : i < rs.length) (hj : j < rs.length) hf hb h1 h2 => (h.over (D0' := D0') (D1' := D1') (gph_ok hC) hat.1 (i := i) (j := j) hi hj hf hb h1 h2))
  clear hA hB hC hfr
  generalize gphOf ns rs bs = G at *
  generalize nodeN ns fr = a at *
  generalize hm : rs.length = m at *
  generalize hb : bs.length = nb at *
  have HM := hide hm
  clear hm hb
  go_enter Tryz.func104, Tryz.ntmps104
  go_wp2_with fail
  obtain ⟨wI, hwI⟩ : ∃ wI, wI = ((w.alloc (.cells #[.slice A nn ca, .slice B m cb, .slice C nb cc] 30)).alloc (.cells (madeCells #[.int .i64 0] m) 3)).alloc (.cells #[.slice (some ⟨w.heap.size + 1, 0, none⟩) m m] 22) := ⟨_, rfl⟩
  have hOM : OM w wI A B C nn m nb ca cb cc (List.replicate m 0) := by
    refine ⟨hwI ▸ (((Nx.refl w).alloc _).alloc _).alloc _, ?_, ?_, ?_, by simp⟩
    · rw [hwI]; exact ((((Nx.refl _).alloc _).alloc _).block _ (by simp)).trans (hnew rfl)
    · rw [hwI, ← HMZ.out]; exact (((Nx.refl _).alloc _).block _ (by simp)).trans (hnew (by simp))
    · rw [hwI]; exact hnew (by simp)
  rw [← hwI]
  have HOM := hide hOM
  have HWI := hide hwI
  clear hwI hOM hmk
  go_loopw [21] (fun i wr => ∃ k : Nat, k ≤ m ∧ i = .int .i64 k ∧ OM w wr A B C nn m nb ca cb cc (List.replicate k endT ++ List.replicate (m - k) 0)) (fun i _ => m - (intOf i).toNat)
  case atStart => exact ⟨0, Nat.zero_le _, rfl, by simpa using HOM.out⟩
  case round =>
    clear HOM
    obtain ⟨k, hk, rfl, hOM⟩ := hrel
    have HOM := hide hOM
    by_cases hlt : k < m
    · have v0 := hOM.v0
      have hc := intRowO_cell (i := k) hOM.row (by simp; omega)
      have hf : wr.frozen? ⟨w.heap.size + 1, k, none⟩ = false := by simp [World.frozen?, hOM.row, intRowO]
      have i1 : (0 : Int) ≤ (k : Int) := by omega
      have i2 : (k : Int) < (m : Int) := by omega
      have HF := hide (rep_fill m k hlt)
      clear hOM
      generalize gi (List.replicate k endT ++ List.replicate (m - k) 0) k = u0 at *
      go_wp2_with fail
      go_roundw
      case rel => exact ⟨k + 1, by omega, by go_num, by rw [← HF.out]; exact HOM.out.set k endT⟩
      case measure => simp [intOf]; omega
    · obtain rfl : m = k := by omega
      have HO1 := hide (show OM w wr A B C nn m nb ca cb cc (List.replicate m endT) by have h := HOM.out; rw [Nat.sub_self] at h; simpa using h)
      have HI1 := hide (show OutInv G a at_ (List.replicate m endT) by have h := outInv_new (g := G) (a := a) (at_ := at_); rw [HGM.out] at h; exact h)
      have HSU := hide (sumO_rep m)
      clear hlt hOM HOM
      go_wp2_with fail
      go_loopg [10] (2 * (m * endT.toNat) + 1) (fun f v wr => ∃ (o : List Int) (ag : Bool), v = .bool ag ∧ OM w wr A B C nn m nb ca cb cc o ∧ OutInv G a at_ o ∧ (ag = false → OutSol G a at_ o) ∧ 2 * sumO o + (if ag then 1 else 0) ≤ f)
      case atStart => exact ⟨_, true, rfl, HO1.out, HI1.out, (fun h => by cases h), by rw [HSU.out]; exact Nat.le_refl _⟩
      case round =>
        clear HO1 HI1 HSU
        obtain ⟨o, ag, rfl, hO, hI, hsol, hfu⟩ := hrel
        have HO := hide hO
        have HI := hide hI
        have HSOL := hide hsol
        have HFU := hide hfu
        clear hO hI hsol hfu
        cases ag
        · have v0 := HO.out.v0
          go_wp2_with fail
          go_ret
          exact ⟨w.heap.size + 1, o, rfl, HSOL.out (by trivial), HO.out.row, HO.out.nx⟩
        · have b1 := HO.out.b1
          go_wp2_with fail
          clear b1
          go_loopw [10, 33] (fun v i wr => ∃ (k : Nat) (o2 : List Int) (ag : Bool), k ≤ m ∧ i = .int .i64 k ∧ v = .bool ag ∧ OM w wr A B C nn m nb ca cb cc o2 ∧ RInv G a at_ o o2 ag (fun i => i < k) (fun _ y => y < k)) (fun _ i _ => m - (intOf i).toNat)
          case atStart => exact ⟨0, o, false, Nat.zero_le _, rfl, rfl, HO.out, (RInv.start HI.out).mono (fun _ _ _ h => absurd h (by omega)) (fun _ _ _ _ _ _ h => absurd h (by omega))⟩
          case round =>
            clear HO
            obtain ⟨k, o2, ag, hk, rfl, rfl, hO2, hR2⟩ := hrel
            have HO2 := hide hO2
            have HR2 := hide hR2
            clear hO2 hR2
            by_cases hlt : k < m
            · have hkl : k < rs.length := by have := HM.out; omega
              obtain ⟨b, off, rfl, _, hb, hbr, hc⟩ := HA.out.1.open_ HO2.out.nx (by have := HM.out; omega)
              have a0 : wr.cell? ⟨b, off + k * 5, none⟩ = some (.string rs[k].key) := hc k hkl 0 _ rfl
              have a1 : wr.cell? ⟨b, off + k * 5 + 1, none⟩ = some (.string rs[k].from_) := hc k hkl 1 _ rfl
              have a2 : wr.cell? ⟨b, off + k * 5 + 2, none⟩ = some (.string rs[k].to_) := hc k hkl 2 _ rfl
              have a3 : wr.cell? ⟨b, off + k * 5 + 3, none⟩ = some (.int .i64 rs[k].long) := hc k hkl 3 _ rfl
              have a4 : wr.cell? ⟨b, off + k * 5 + 4, none⟩ = some (.slice rs[k].ka rs[k].knots.length rs[k].kc) := hc k hkl 4 _ rfl
              have hXk : arcX rs k = rs[k] := arcX_get hkl
              have HFI2 := hide (HFI.out k hlt)
              have HTI2 := hide (fun j hj => HTI.out k j hlt hj)
              have HBI2 := hide (fun j => HBI.out k j)
              rw [hXk] at HFI2 HTI2 HBI2
              have i1 : (0 : Int) ≤ (k : Int) := by omega
              have i2 : (k : Int) < (m : Int) := by omega
              clear hc hXk
              generalize rs[k] = x at *
              generalize x.knots.length = kn at *
              go_upto_region 14 with fail
              obtain ⟨wk, hwk⟩ : ∃ wk, wk = wr.alloc (.cells #[.string x.key, .string x.from_, .string x.to_, .int .i64 x.long, .slice x.ka kn x.kc] 37) := ⟨_, rfl⟩
              have hnk : Nx wr wk := hwk ▸ (Nx.refl wr).alloc _
              have hex : wk.heap[wr.heap.size]? = some (.cells #[.string x.key, .string x.from_, .string x.to_, .int .i64 x.long, .slice x.ka kn x.kc] 37 (0, 0)) := by rw [hwk]; exact hnew rfl
              have hexs : w.heap.size + 2 < wr.heap.size := (Array.getElem?_eq_some_iff.1 HO2.out.var_).1
              have HOK := hide (HO2.out.step hnk)
              have HEX := hide hex
              generalize wr.heap.size = ex at *
              rw [← hwk]
              have HWK := hide hwk
              have d1 : wk.cell? ⟨ex, 1, none⟩ = some (.string x.from_) := (cell_of_row wk _ 1 _ _ _ hex).trans rfl
              clear hwk hex a0 a1 a2 a3 a4 HO2
              go_cut [47] (fun v wx => ∃ (bb : Bool) (o3 : List Int), v = .bool bb ∧ OM w wx A (some ⟨b, off, none⟩) C nn m nb ca cb cc o3 ∧ RInv G a at_ o o3 (ag || bb) (fun i => i < k + 1) (fun _ y => y < k) ∧ wx.heap[ex]? = some (.cells #[.string x.key, .string x.from_, .string x.to_, .int .i64 x.long, .slice x.ka kn x.kc] 37 (0, 0)))
              case first =>
                by_cases hf : x.from_ = fr
                · have te : (x.from_.toList == fr.toList) = true := by rw [eqS_iff]; exact decide_eq_true hf
                  have HC := hide (HBT.out wk o2 k at_ HOK.out hlt hat.1)
                  have HN := hide (HRF.out o o2 ag _ _ (fun i => i < k + 1) (fun _ y => y < k) HR2.out k hlt (HFI2.out.2 hf) (fun j hj => by omega) (fun _ _ h => h))
                  clear hf
                  generalize betO G o2 k at_ = O3 at *
                  generalize betB G o2 k at_ = BB at *
                  go_wp2_with (go_at_call 136; refine HC.out.mono ?_; rintro e w3 ⟨rfl, hO3, hg3⟩)
                  go_meet
                  exact ⟨BB, O3, rfl, hO3, HN.out, (World.grownBy.block (row := some (w.heap.size + 1)) hg3 ex (Array.getElem?_eq_some_iff.1 HEX.out).1 (by simp; omega)).trans HEX.out⟩
                · have te : (x.from_.toList == fr.toList) = false := by rw [eqS_iff]; exact decide_eq_false hf
                  have HN := hide (HR2.out.mono (D0' := fun i => i < k + 1) (D1' := fun _ y => y < k) (fun i _ hfi hlt2 => by
                    rcases (by omega : i < k ∨ i = k) with h | h
                    · exact h
                    · subst h; exact absurd (HFI2.out.1 hfi) hf) (fun _ _ _ _ _ _ h => h))
                  clear hf
                  go_wp2_with fail
                  go_meet
                  exact ⟨false, o2, rfl, HOK.out, by rw [Bool.or_false]; exact HN.out, HEX.out⟩
              case rest =>
                obtain ⟨bb, o3, rfl, hO3, hR3, hE3⟩ := hcut
                have HO3 := hide hO3
                have HR3 := hide hR3
                have HE3 := hide hE3
                clear hO3 hR3 hE3 d1 HOK HEX HR2
                go_upto_if 47 with fail
                go_cut [10] (fun v wx => v = .bool (ag || bb) ∧ wc = wx)
                case first =>
                  cases bb
                  · go_wp2_with fail
                    go_meet
                    exact ⟨by rw [Bool.or_false], rfl⟩
                  · go_wp2_with fail
                    go_meet
                    exact ⟨by rw [Bool.or_true], rfl⟩
                case rest =>
                  obtain ⟨rfl, rfl⟩ := hcut
                  have b1 := HO3.out.b1
                  generalize (ag || bb) = ag2 at *
                  go_wp2_with fail
                  clear b1
                  go_loopw [10, 51] (fun v i wr => ∃ (j : Nat) (o4 : List Int) (ag : Bool), j ≤ m ∧ i = .int .i64 j ∧ v = .bool ag ∧ OM w wr A (some ⟨b, off, none⟩) C nn m nb ca cb cc o4 ∧ RInv G a at_ o o4 ag (fun i => i < k + 1) (fun x y => y < k ∨ (y = k ∧ x < j)) ∧ wr.heap[ex]? = some (.cells #[.string x.key, .string x.from_, .string x.to_, .int .i64 x.long, .slice x.ka kn x.kc] 37 (0, 0))) (fun _ i _ => m - (intOf i).toNat)
                  case atStart => exact ⟨0, o3, ag2, Nat.zero_le _, rfl, rfl, HO3.out, HR3.out.mono (fun _ _ _ h => h) (fun _ _ _ _ _ _ h => h.elim id (fun h => absurd h.2 (by omega))), HE3.out⟩
                  case round =>
                    clear HO3 HR3 HE3
                    obtain ⟨j, o4, ag3, hj, rfl, rfl, hO4, hR4, hE4⟩ := hrel
                    have HO4 := hide hO4
                    have HR4 := hide hR4
                    have HE4 := hide hE4
                    clear hO4 hR4 hE4
                    by_cases hlj : j < m
                    · have hjl : j < rs.length := by have := HM.out; omega
                      obtain ⟨b', off', eB, _, hb', hbr', hc⟩ := HA.out.1.open_ HO4.out.nx (by have := HM.out; omega)
                      injection eB with eB
                      injection eB with e1 e2
                      subst e1 e2
                      have a0 : wr.cell? ⟨b, off + j * 5, none⟩ = some (.string rs[j].key) := hc j hjl 0 _ rfl
                      have a1 : wr.cell? ⟨b, off + j * 5 + 1, none⟩ = some (.string rs[j].from_) := hc j hjl 1 _ rfl
                      have a2 : wr.cell? ⟨b, off + j * 5 + 2, none⟩ = some (.string rs[j].to_) := hc j hjl 2 _ rfl
                      have a3 : wr.cell? ⟨b, off + j * 5 + 3, none⟩ = some (.int .i64 rs[j].long) := hc j hjl 3 _ rfl
                      have a4 : wr.cell? ⟨b, off + j * 5 + 4, none⟩ = some (.slice rs[j].ka rs[j].knots.length rs[j].kc) := hc j hjl 4 _ rfl
                      have hXj : arcX rs j = rs[j] := arcX_get hjl
                      have HTI3 := hide (HTI2.out j hlj)
                      have HBI3 := hide (HBI2.out j)
                      rw [hXj] at HTI3 HBI3
                      have j1 : (0 : Int) ≤ (j : Int) := by omega
                      have j2 : (j : Int) < (m : Int) := by omega
                      clear hc hXj
                      generalize rs[j] = y at *
                      generalize y.knots.length = yn at *
                      go_upto_region 19 with fail
                      obtain ⟨wk, hwk⟩ : ∃ wk, wk = wr.alloc (.cells #[.string y.key, .string y.from_, .string y.to_, .int .i64 y.long, .slice y.ka yn y.kc] 37) := ⟨_, rfl⟩
                      have hnk : Nx wr wk := hwk ▸ (Nx.refl wr).alloc _
                      have hey : wk.heap[wr.heap.size]? = some (.cells #[.string y.key, .string y.from_, .string y.to_, .int .i64 y.long, .slice y.ka yn y.kc] 37 (0, 0)) := by rw [hwk]; exact hnew rfl
                      have HOK := hide (HO4.out.step hnk)
                      have HEX := hide ((hnk.block _ (Array.getElem?_eq_some_iff.1 HE4.out).1).trans HE4.out)
                      have HEY := hide hey
                      generalize wr.heap.size = ey at *
                      rw [← hwk]
                      have HWK := hide hwk
                      have HCE := hide (fun W (hx : Nx wk W) => (⟨(cell_of_row W _ 0 _ _ _ ((hx.block _ (Array.getElem?_eq_some_iff.1 HEX.out).1).trans HEX.out)).trans rfl, (cell_of_row W _ 1 _ _ _ ((hx.block _ (Array.getElem?_eq_some_iff.1 HEX.out).1).trans HEX.out)).trans rfl, (cell_of_row W _ 0 _ _ _ ((hx.block _ (Array.getElem?_eq_some_iff.1 HEY.out).1).trans HEY.out)).trans rfl, (cell_of_row W _ 2 _ _ _ ((hx.block _ (Array.getElem?_eq_some_iff.1 HEY.out).1).trans HEY.out)).trans rfl, (HOK.out.step hx).v0, intRowO_cell (HOK.out.step hx).row (by rw [HOK.out.len]; exact hlj), (cell_of_row W _ 0 _ _ _ (HOK.out.step hx).box).trans rfl, (cell_of_row W _ 1 _ _ _ (HOK.out.step hx).box).trans rfl, (cell_of_row W _ 2 _ _ _ (HOK.out.step hx).box).trans rfl⟩ : W.cell? ⟨ex, 0, none⟩ = some (.string x.key) ∧ W.cell? ⟨ex, 1, none⟩ = some (.string x.from_) ∧ W.cell? ⟨ey, 0, none⟩ = some (.string y.key) ∧ W.cell? ⟨ey, 2, none⟩ = some (.string y.to_) ∧ W.cell? ⟨w.heap.size + 2, 0, none⟩ = some (.slice (some ⟨w.heap.size + 1, 0, none⟩) m m) ∧ W.cell? ⟨w.heap.size + 1, j, none⟩ = some (.int .i64 (gi o4 j)) ∧ W.cell? ⟨w.heap.size, 0, none⟩ = some (.slice A nn ca) ∧ W.cell? ⟨w.heap.size, 1, none⟩ = some (.slice (some ⟨b, off, none⟩) m cb) ∧ W.cell? ⟨w.heap.size, 2, none⟩ = some (.slice C nb cc)))
                      obtain ⟨x0, x1, y0, y2, v0, v1, r0, r1, r2⟩ := HCE.out wk (Nx.refl _)
                      clear hwk hey a0 a1 a2 a3 a4 HO4 HE4
                      go_cut [78] (fun v wx => ∃ (bb : Bool) (o5 : List Int), v = .bool bb ∧ OM w wx A (some ⟨b, off, none⟩) C nn m nb ca cb cc o5 ∧ RInv G a at_ o o5 (ag3 || bb) (fun i => i < k + 1) (fun x y => y < k ∨ (y = k ∧ x < j + 1)) ∧ wx.heap[ex]? = some (.cells #[.string x.key, .string x.from_, .string x.to_, .int .i64 x.long, .slice x.ka kn x.kc] 37 (0, 0)))
                      case first =>
                        have HSK := hide (fun (hno : ¬ (G.from_ k = G.to_ j ∧ G.ban j k = false)) => HR4.out.mono (D0' := fun i => i < k + 1) (D1' := fun x y => y < k ∨ (y = k ∧ x < j + 1)) (fun _ _ _ h => h) (fun x' y' _ _ hf hb h => by
                          rcases h with h | ⟨h1, h2⟩
                          · exact .inl h
                          · rcases (by omega : x' < j ∨ x' = j) with h3 | h3
                            · exact .inr ⟨h1, h3⟩
                            · subst h1 h3; exact absurd ⟨hf, hb⟩ hno))
                        by_cases hf : y.to_ = x.from_
                        · have te : (y.to_.toList == x.from_.toList) = true := by rw [eqS_iff]; exact decide_eq_true hf
                          have HC1 := hide (HBN.out y.key x.key wk HOK.out.nx)
                          cases hbn : bannedB bs y.key x.key
                          · rw [hbn] at HC1
                            have HN := hide (HRO.out o o4 ag3 _ _ (fun i => i < k + 1) (fun x y => y < k ∨ (y = k ∧ x < j + 1)) HR4.out k j hlt hlj (HTI3.out.2 hf) (by rw [HBI3.out]; exact hbn) (fun _ h => h) (fun x' y' h => by omega))
                            have HC2 := hide (fun W (hx : Nx wk W) => HBT.out W o4 k (gi o4 j) (HOK.out.step hx) hlt (HR4.out.inv.bd HG.out hat.1 (by rw [HGM.out]; exact hlj)).1)
                            clear hf hbn
                            generalize betO G o4 k (gi o4 j) = O5 at *
                            generalize betB G o4 k (gi o4 j) = BB at *
                            generalize gi o4 j = gj at *
                            go_wp2_with (go_at_call 138; refine HC1.out.mono ?_; rintro e w3 ⟨rfl, hn3⟩; (obtain ⟨_, _, _, _, v0', v1', _, _, _⟩ := HCE.out w3 hn3))
                            refine (HC2.out _ hn3).mono ?_
                            rintro e w4 ⟨rfl, hO5, hg4⟩
                            go_wp2_with fail
                            go_meet
                            exact ⟨BB, O5, rfl, hO5, HN.out, (World.grownBy.block (row := some (w.heap.size + 1)) hg4 ex (Nat.lt_of_lt_of_le (Array.getElem?_eq_some_iff.1 HEX.out).1 hn3.sz) (by simp; omega)).trans ((hn3.block ex (Array.getElem?_eq_some_iff.1 HEX.out).1).trans HEX.out)⟩
                          · rw [hbn] at HC1
                            have HN := hide (HSK.out (fun h => by have h2 := h.2; rw [HBI3.out, hbn] at h2; cases h2))
                            clear hf hbn
                            go_wp2_with (go_at_call 138; refine HC1.out.mono ?_; rintro e w3 ⟨rfl, hn3⟩)
                            go_meet
                            exact ⟨false, o4, rfl, HOK.out.step hn3, by rw [Bool.or_false]; exact HN.out, (hn3.block ex (Array.getElem?_eq_some_iff.1 HEX.out).1).trans HEX.out⟩
                        · have te : (y.to_.toList == x.from_.toList) = false := by rw [eqS_iff]; exact decide_eq_false hf
                          have HN := hide (HSK.out (fun h => hf (HTI3.out.1 h.1)))
                          clear hf
                          go_wp2_with fail
                          go_meet
                          exact ⟨false, o4, rfl, HOK.out, by rw [Bool.or_false]; exact HN.out, HEX.out⟩
                      case rest =>
                        obtain ⟨bb2, o5, rfl, hO5, hR5, hE5⟩ := hcut
                        have HO5 := hide hO5
                        have HR5 := hide hR5
                        have HE5 := hide hE5
                        clear hO5 hR5 hE5 x0 x1 y0 y2 v0 v1 r0 r1 r2 HOK HEX HR4
                        cases bb2
                        · go_wp2_with fail
                          go_roundw
                          case rel => exact ⟨j + 1, o5, ag3, by omega, by go_num, rfl, HO5.out, by have h := HR5.out; rw [Bool.or_false] at h; exact h, HE5.out⟩
                          case measure => simp [intOf]; omega
                        · go_wp2_with fail
                          go_roundw
                          case rel => exact ⟨j + 1, o5, true, by omega, by go_num, rfl, HO5.out, by have h := HR5.out; rw [Bool.or_true] at h; exact h, HE5.out⟩
                          case measure => simp [intOf]; omega
                    · obtain rfl : m = j := by omega
                      have HN := hide (HR4.out.mono (D0' := fun i => i < k + 1) (D1' := fun _ y => y < k + 1) (fun _ _ _ h => h) (fun x y hx _ _ _ h => by rw [HGM.out] at hx; omega))
                      clear hlj
                      go_wp2_with fail
                      go_roundw
                      case rel => exact ⟨k + 1, o4, ag3, by omega, by go_num, rfl, HO4.out, HN.out⟩
                      case measure => simp [intOf]; omega
            · obtain rfl : m = k := by omega
              clear hlt
              go_wp2_with fail
              cases ag
              · go_roundg (gk - 1)
                case measure => have := HFU.out; simp at this; omega
                case rel => exact ⟨o2, false, rfl, HO2.out, HR2.out.inv, fun _ => HR2.out.sol (fun i hi => by rw [HGM.out] at hi; exact hi) (fun _ i _ hi => by rw [HGM.out] at hi; exact hi), by have := HFU.out; have := (HR2.out.same rfl).1; subst this; simp at *; omega⟩
              · go_roundg (gk - 1)
                case measure => have := HFU.out; simp at this; omega
                case rel => exact ⟨o2, true, rfl, HO2.out, HR2.out.inv, fun h => (by cases h), by have := HFU.out; have := HR2.out.less rfl; simp at *; omega⟩
end Go.Proofs.YtepbamacebjopaaGreatDoor
