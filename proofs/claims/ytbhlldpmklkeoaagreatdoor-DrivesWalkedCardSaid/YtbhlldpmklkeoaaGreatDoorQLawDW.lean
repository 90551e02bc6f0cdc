/- jitlaw1.DrivesWalked returns true. -/
import Derived.Test.YtbhlldpmklkeoaaGreatDoorQRdsS
import Derived.Test.YtbhlldpmklkeoaaGreatDoorQRoadsR
import Derived.Test.YtbhlldpmklkeoaaGreatDoorQG34
import Derived.Test.YtbhlldpmklkeoaaGreatDoorQG39
import Derived.Test.YtbhlldpmklkeoaaGreatDoorQG44
import Derived.Deep.DeepCutAuto
namespace Go.Proofs.YtbhlldpmklkeoaaGreatDoor
open Go.RowKit

theorem walkO_len (rs : List Arc) : ∀ (l : List ByteArray) (a : Int) (r : List Int), walkO rs a l = some r → r.length = l.length
  | [], _, r, h => by injection h with h; subst h; rfl
  | k :: l, a, r, h => by
    rw [walkO] at h
    split at h
    · cases h
    · cases h2 : walkO rs (outAt rs a k) l with
      | none => rw [h2] at h; cases h
      | some r2 =>
        rw [h2] at h
        injection h with h
        subst h
        rw [List.length_cons, List.length_cons, walkO_len rs l _ r2 h2]
theorem w_EqualN (lo : Nat) (A : Option Addr) (c : Nat) (L : List Int) (w : World) (h : Rd w lo A 1 encI L) (h0 : L = []) :
    Calls Tryz.prog 24 #[.slice A L.length c, .slice none 0 0] w fun e w' => e = .returned (.bool true) ∧ Nx w w' := by
  subst h0; exact w_EqualIJ lo 0 A none c 0 [] w h Rd.nil (by simp)
theorem w_EqualL (lo lo' : Nat) (A B : Option Addr) (c d : Nat) (L U : List Int) (w : World) (h : Rd w lo A 1 encI L) (h' : Rd w lo' B 1 encI U) (h0 : L = U) (hl : L.length ≤ 65536) :
    Calls Tryz.prog 24 #[.slice A L.length c, .slice B U.length d] w fun e w' => e = .returned (.bool true) ∧ Nx w w' := by
  subst h0; exact w_EqualIJ lo lo' A B c d L w h h' hl
theorem mom_bd {a : Int} (h : momB a = true) : 0 ≤ a ∧ a ≤ 345686399999 := by
  have hb := outB_false.1 (show outB a 0 lastMo = false by unfold momB at h; simpa using h)
  unfold lastMo at hb
  exact hb

set_option maxRecDepth 100000 in
set_option maxHeartbeats 8000000 in
theorem w_lawDW (A : Option Addr) (n c : Nat) (w : World) (hn : n ≤ 9223372036854775807)
    (hL : 0 < n → ∃ b off, A = some ⟨b, off, none⟩ ∧ b < w.heap.size ∧ ∀ j, j < n → ∃ z : Int, w.cell? ⟨b, off + j, none⟩ = some (.int .i64 z) ∧ -9223372036854775808 ≤ z ∧ z ≤ 9223372036854775807) :
    Calls Tryz.prog 4 #[.slice A n c] w (TrueNx w) := by
  have hS0 : Str (w.alloc (.cells #[.slice A n c, .int .i64 0] 25)) w.heap.size 0 := str_new A n c w hn hL
  clear hL
  go_enter Tryz.func4, Tryz.ntmps4
  go_wp2_with fail
  refine (w_RoadsS _ 0 _ hS0 (by omega)).mono ?_
  rintro e w1 ⟨vN, vA, vB, ns, rs, bs, rfl, hown, hn0, hn5, hr10, hb101, hg1, hS1⟩
  have hsz : (w.alloc (.cells #[.slice A n c, .int .i64 0] 25)).heap.size = w.heap.size + 1 := by simp
  rw [hsz] at hown
  have hz1 := hg1.sz
  rw [hsz] at hz1
  have hg01 : Gr w.heap.size w w1 := (Gr.of_nx ((Nx.refl w).alloc _)).trans hg1
  clear hg1 hS0
  have hsmN := hown.smN
  obtain ⟨B0, B1, B2, ca, cb, cc, e1, e2, e3, hRN, hRA, hRB⟩ := hown.rd
  subst e1 e2 e3
  clear hown
  obtain ⟨w2, hw2⟩ : ∃ w2, w2 = w1.alloc (.cells #[.slice B0 ns.length ca, .slice B1 rs.length cb, .slice B2 bs.length cc] 30) := ⟨_, rfl⟩
  have hn2 : Nx w1 w2 := hw2 ▸ (Nx.refl w1).alloc _
  have hs2 : w1.heap.size < w2.heap.size := by rw [hw2]; simp
  have b0 : w2.cell? ⟨w1.heap.size, 0, none⟩ = some (.slice B0 ns.length ca) := by rw [hw2]; go_simp
  have b1 : w2.cell? ⟨w1.heap.size, 1, none⟩ = some (.slice B1 rs.length cb) := by rw [hw2]; go_simp
  have b2 : w2.cell? ⟨w1.heap.size, 2, none⟩ = some (.slice B2 bs.length cc) := by rw [hw2]; go_simp
  have hg02 := hg01.then_nx hn2
  have hS2 := hS1.nx hn2
  have HRN := hide (hRN.nx hn2)
  have HRA := hide (hRA.nx hn2)
  have HRB := hide (hRB.nx hn2)
  have HSN := hide hsmN
  clear hRN hRA hRB hsmN hg01 hS1
  go_upto_region 3 with fail
  rw [← hw2]
  have HW2 := hide hw2
  clear hw2
  have hgs : w.heap.size < w1.heap.size := by omega
  generalize w1.heap.size = g at *
  have hlos : w.heap.size < w.heap.size + 1 := by omega
  have HRD := hide (fun W (hg : Gr w.heap.size w2 W) => (⟨HRN.out.gr hg hlos, ⟨HRA.out.1.gr hg hlos, fun x hx => ⟨(HRA.out.2 x hx).1.gr hg hlos, (HRA.out.2 x hx).2⟩⟩, HRB.out.gr hg hlos⟩ : Rd W (w.heap.size + 1) B0 3 encNode ns ∧ RdArcs W (w.heap.size + 1) B1 rs ∧ Rd W (w.heap.size + 1) B2 2 encBan bs))
  have HBX := hide (fun W (hg : Gr w.heap.size w2 W) => (⟨World.grownBy.cell (row := some w.heap.size) hg b0 (by simp; omega), World.grownBy.cell (row := some w.heap.size) hg b1 (by simp; omega), World.grownBy.cell (row := some w.heap.size) hg b2 (by simp; omega)⟩ : W.cell? ⟨g, 0, none⟩ = some (.slice B0 ns.length ca) ∧ W.cell? ⟨g, 1, none⟩ = some (.slice B1 rs.length cb) ∧ W.cell? ⟨g, 2, none⟩ = some (.slice B2 bs.length cc)))
  have HNK := hide (w_NodeKey w.heap.size _ (w.heap.size + 1) B0 B1 B2 rs.length bs.length ca cb cc ns w2 hS2 (by omega) HRN.out HSN.out hn0 (by omega) hlos)
  have HDR := hide (fun k f W (hg : Gr w.heap.size w2 W) (hS : Str W w.heap.size k) (hk : k < 700000) => w_Drive w.heap.size k (w.heap.size + 1) B0 B1 B2 ns.length bs.length ca cb cc rs f W hS hk (HRD.out W hg).2.1.1 (by omega) hlos)
  have HWK := hide (fun lo2 D cd l f a W (hg : Gr w.heap.size w2 W) hR hl => w_Walk (w.heap.size + 1) B0 B1 B2 ca cb cc ns rs bs lo2 D cd l f a W (HRD.out W hg).1 HSN.out (by omega) (HRD.out W hg).2.1 (by omega) (HRD.out W hg).2.2 (by omega) hR hl)
  have HLN := hide (fun lo2 D cd l W (hg : Gr w.heap.size w2 W) hR hl => w_Length (w.heap.size + 1) B0 B1 B2 ca cb cc ns rs bs lo2 D cd l W (HRD.out W hg).1 HSN.out (by omega) (HRD.out W hg).2.1 (by omega) (HRD.out W hg).2.2 (by omega) hR hl)
  have HRF := hide (fun W (hg : Gr w.heap.size w2 W) => w_RoadsFault (w.heap.size + 1) (w.heap.size + 1) (w.heap.size + 1) B0 B1 B2 ca cb cc ns rs bs W (HRD.out W hg).1 HSN.out (by omega) (HRD.out W hg).2.1 (by omega) (HRD.out W hg).2.2 (by omega))
  have HNF := hide (fun f W (hg : Gr w.heap.size w2 W) => w_NodeFault (w.heap.size + 1) B0 B1 B2 rs.length bs.length ca cb cc ns f W (HRD.out W hg).1 (by omega))
  have HWR := hide (fun f lo2 D cd l W (hg : Gr w.heap.size w2 W) hR hl => w_WalkFault (w.heap.size + 1) B0 B1 B2 ns.length ca cb cc rs bs f lo2 D cd l W (HRD.out W hg).2.1 (by omega) (HRD.out W hg).2.2 (by omega) hR hl)
  have HLR := hide (fun (h : ∀ x ∈ rs, 1 ≤ x.long ∧ x.long ≤ 1000000) lo2 D cd l W (hg : Gr w.heap.size w2 W) hR hl hOK => w_LengthOf (w.heap.size + 1) B0 B1 B2 ns.length bs.length ca cb cc rs lo2 D cd l W (HRD.out W hg).2.1.1 (by omega) h hR hl hOK)
  have HWU := hide (fun (h : ∀ x ∈ rs, KOk x.knots) lo2 D cd l a W (hg : Gr w.heap.size w2 W) hR hl hOK ha => w_WalkOf (w.heap.size + 1) B0 B1 B2 ns.length bs.length ca cb cc rs lo2 D cd l a W (HRD.out W hg).2.1 (by omega) h hR hl hOK ha)
  have HOKR := hide (fun h : roadsF ns rs bs = 0 => roads_ok h)
  clear HRN HRA HRB HSN b0 b1 b2 HRD
  obtain ⟨c0, c1, c2⟩ := HBX.out w2 (Gr.refl _ _)
  go_wp2_with fail
  refine HNK.out.mono ?_
  rintro e w3 ⟨fr, rfl, _, hg3, hS3⟩
  clear HNK c0 c1 c2
  generalize hnl : ns.length = nn at *
  generalize hrl : rs.length = nr at *
  generalize hbl : bs.length = nb at *
  clear hnl hrl hbl
  go_wp2_with fail
  refine (w_Departure _ _ _ hS3 (by omega)).mono ?_
  rintro e w4 ⟨at_, ha1, ha2, rfl, hg4, hS4⟩
  have hg24 := hg3.trans hg4
  obtain ⟨c0, c1, c2⟩ := HBX.out w4 hg24
  go_wp2_with fail
  refine (HDR.out _ fr w4 hg24 hS4 (by omega)).mono ?_
  rintro e w5 ⟨D, cd, l, rfl, hl6, hRl, hg5, hS5⟩
  have hg25 := hg24.trans hg5
  have HRL := hide (fun W (hx : Nx w5 W) => hRl.nx hx)
  have HB5 := hide (fun W (hx : Nx w5 W) => HBX.out W (hg25.then_nx hx))
  have HG5 := hide (fun W (hx : Nx w5 W) => hg25.then_nx hx)
  have HT := hide (fun W (hx : Nx w5 W) => Nx.of_gr (hg02.trans (hg25.then_nx hx)) (Nat.le_refl _))
  clear c0 c1 c2 hg3 hg4 hg5 hg24 hS2 hS3 hS4 hS5 hg02 HDR HBX hg25 hRl HW2 hn2 hs2 hz1
  obtain ⟨c0, c1, c2⟩ := HB5.out w5 (Nx.refl _)
  go_wp2_with fail
  refine (HWK.out _ _ cd l fr at_ w5 (HG5.out _ (Nx.refl _)) (HRL.out _ (Nx.refl _)) (by omega)).mono ?_
  rintro e w6 ⟨Z, cz, rfl, hRz, hn6⟩
  have HRZ := hide hRz
  clear hRz c0 c1 c2 HWK
  obtain ⟨c0, c1, c2⟩ := HB5.out w6 hn6
  go_wp2_with fail
  refine (HLN.out _ _ cd l w6 (HG5.out _ hn6) (HRL.out _ hn6) (by omega)).mono ?_
  rintro e w7 ⟨rfl, hn7⟩
  have hn57 := hn6.trans hn7
  clear c0 c1 c2 HLN
  obtain ⟨c0, c1, c2⟩ := HB5.out w7 hn57
  go_wp2_with fail
  refine (HRF.out w7 (HG5.out _ hn57)).mono ?_
  rintro e w8 ⟨rfl, hn8⟩
  have hn58 := hn57.trans hn8
  have HRZ := hide (HRZ.out.nx (hn7.trans hn8))
  clear c0 c1 c2 HRF hn6 hn7 hn57
  obtain ⟨c0, c1, c2⟩ := HB5.out w8 hn58
  have HWF := hide (show walkF ns rs bs fr at_ l = if roadsF ns rs bs = 0 then (if nodeI ns fr < 0 then 8 else if momB at_ then (if chainF rs bs fr none l = 0 then (if (walkO rs at_ l).isSome then 0 else 12) else chainF rs bs fr none l) else 1) else roadsF ns rs bs from rfl)
  have HWL := hide (show walkL ns rs bs fr at_ l = if walkF ns rs bs fr at_ l = 0 then at_ :: (walkO rs at_ l).getD [] else [] from rfl)
  have HLF := hide (show lenF ns rs bs l = if roadsF ns rs bs = 0 then chainF rs bs ByteArray.empty none l else roadsF ns rs bs from rfl)
  have HLI := hide (show lenI ns rs bs l = if lenF ns rs bs l = 0 then lengthI rs l else 0 from rfl)
  generalize walkF ns rs bs fr at_ l = F at *
  generalize walkL ns rs bs fr at_ l = L at *
  generalize lenF ns rs bs l = LF at *
  generalize lenI ns rs bs l = LI at *
  by_cases hF : roadsF ns rs bs = 0
  · rw [hF]
    obtain ⟨o1, o2, o3⟩ := HOKR.out hF
    have HLB := hide (HLR.out (long_bd o2))
    have HWU := hide (HWU.out (knots_ok o2))
    have HWF := hide (HWF.out.trans (if_pos hF))
    have HLF := hide (HLF.out.trans (if_pos hF))
    clear o1 o2 o3 hF HOKR HLR
    go_wp2_with fail
    refine (HWR.out ByteArray.empty _ _ cd l w8 (HG5.out _ hn58) (HRL.out _ hn58) (by omega)).mono ?_
    rintro e w9 ⟨rfl, hn9⟩
    have hn59 := hn58.trans hn9
    have HRZ := hide (HRZ.out.nx hn9)
    clear c0 c1 c2 hn58 hn9
    obtain ⟨c0, c1, c2⟩ := HB5.out w9 hn59
    have HCE := hide (fun h : chainF rs bs ByteArray.empty none l = 0 => HLB.out _ _ cd l w9 (HG5.out _ hn59) (HRL.out _ hn59) (by omega) (chain_ok rs bs l ByteArray.empty none h))
    have HCW := hide (fun h : chainF rs bs fr none l = 0 => chain_ok rs bs l fr none h)
    generalize hCL : chainF rs bs ByteArray.empty none l = CL at *
    clear hCL
    have HLI := hide HLI.out
    obtain ⟨wd, hwd⟩ : ∃ wd, wd = w9 := ⟨_, rfl⟩
    subst hwd
    go_upto_region 11 with fail
    go_cut [93] (fun v wx => v = .bool false ∧ Nx wd wx)
    case first =>
      have hLF := HLF.out
      subst hLF
      by_cases hc : LF = 0
      · have hLI := HLI.out.trans (if_pos hc)
        have HCE2 := hide (HCE.out hc)
        clear HCE
        subst hc
        generalize lengthI rs l = T at *
        subst hLI
        have t1 : (LI != LI) = false := by simp
        go_wp2_with fail
        refine HCE2.out.mono ?_
        rintro e w10 ⟨rfl, hn10⟩
        go_wp2_with fail
        go_meet
        exact ⟨rfl, hn10⟩
      · have hLI := HLI.out.trans (if_neg hc)
        subst hLI
        have t1 : (LF != LF) = false := by simp
        have t2 : (LF == 0) = false := by simpa using hc
        have t3 : (LF != 0) = true := by simpa using hc
        go_wp2_with fail
        go_meet
        exact ⟨rfl, Nx.refl _⟩
    case rest =>
      obtain ⟨rfl, hx⟩ := hcut
      have hn5c := hn59.trans hx
      have HRZ := hide (HRZ.out.nx hx)
      clear c0 c1 c2 HCE HLB HLF HLI
      obtain ⟨c0, c1, c2⟩ := HB5.out wc hn5c
      have HNF := hide (HNF.out fr wc (HG5.out _ hn5c))
      have HO2 := hide (fun g W (hg : W.heap[g]? = some (.cells #[.int .i64 (noneF ns fr), .int .i64 (momF at_)] 33 (0, 0))) => w_Or2 (noneF ns fr) (momF at_) g 2 W hg)
      obtain ⟨W0, hW0⟩ : ∃ W0, W0 = orI [noneF ns fr, momF at_] := ⟨_, rfl⟩
      rw [← hW0] at HO2
      have hWc : (W0 ≠ 0 → F = W0 ∧ L = []) ∧ (W0 = 0 → F = (if chainF rs bs fr none l = 0 then (if (walkO rs at_ l).isSome then 0 else 12) else chainF rs bs fr none l) ∧ 0 ≤ at_ ∧ at_ ≤ 345686399999) := by
        rw [orI_two] at hW0
        unfold noneF at hW0
        have h1 := HWF.out
        have h2 := HWL.out
        by_cases hnf : nodeI ns fr < 0
        · rw [if_pos hnf] at hW0 h1
          have e : W0 = 8 := by rw [hW0]; rfl
          exact ⟨fun _ => ⟨h1.trans e.symm, by rw [h2, h1]; rfl⟩, fun h => absurd (e.symm.trans h) (by decide)⟩
        · rw [if_neg hnf, if_pos rfl] at hW0
          rw [if_neg hnf] at h1
          cases hm : momB at_
          · rw [hm] at h1
            have e : W0 = 1 := by rw [hW0]; unfold momF argF; rw [hm]; rfl
            exact ⟨fun _ => ⟨h1.trans e.symm, by rw [h2, h1]; rfl⟩, fun h => absurd (e.symm.trans h) (by decide)⟩
          · rw [hm, if_pos rfl] at h1
            have e : W0 = 0 := by rw [hW0]; unfold momF argF; rw [hm]; rfl
            exact ⟨fun h => absurd e h, fun _ => ⟨h1, mom_bd hm⟩⟩
      have HWC := hide hWc
      clear hWc hW0 HWF
      generalize noneF ns fr = NF at *
      have HMF := hide (w_MomentFault at_)
      generalize momF at_ = MF at *
      go_wp2_with (first
        | (go_at_call 21; refine HNF.out.mono ?_; rintro e w10 ⟨rfl, hn10⟩)
        | (go_at_call 13; refine (HMF.out _).mono ?_; rintro e w' ⟨rfl, rfl⟩))
      refine (HO2.out _ _ (hnew rfl)).mono ?_
      rintro e w' ⟨rfl, rfl⟩
      have hn11 := (hn5c.trans hn10).alloc (.cells #[.int .i64 NF, .int .i64 MF] 33)
      have HRZ := hide ((HRZ.out.nx hn10).nx ((Nx.refl w10).alloc (.cells #[.int .i64 NF, .int .i64 MF] 33)))
      generalize hw11 : w10.alloc (.cells #[.int .i64 NF, .int .i64 MF] 33) = w11 at *
      clear c0 c1 c2 HO2 HNF hn10 hw11
      by_cases hz : W0 = 0
      · obtain ⟨hF, hab⟩ := HWC.out.2 hz
        subst hz
        obtain ⟨c0, c1, c2⟩ := HB5.out w11 hn11
        clear HWC
        have HF := hide hF
        clear hF
        go_wp2_with fail
        refine (HWR.out fr _ _ cd l w11 (HG5.out _ hn11) (HRL.out _ hn11) (by omega)).mono ?_
        rintro e w12 ⟨rfl, hn12⟩
        have hn5d := hn11.trans hn12
        have HRZ := hide (HRZ.out.nx hn12)
        clear c0 c1 c2 hn11 hn12
        obtain ⟨c0, c1, c2⟩ := HB5.out w12 hn5d
        by_cases hc : chainF rs bs fr none l = 0
        · have hF := HF.out.trans (if_pos hc)
          have hOK := HCW.out hc
          have HUC := hide (HWU.out _ _ cd l at_ w12 (HG5.out _ hn5d) (HRL.out _ hn5d) (by omega) hOK hab)
          rw [hc]
          clear HF HCW hc hOK HWU HWR
          have HUL := hide (show L = walkU rs at_ l by
            have h2 := HWL.out
            unfold walkU
            cases h : walkO rs at_ l with
            | none => rw [h] at hF; rw [h2, if_neg (by rw [hF]; decide)]
            | some r => rw [h] at hF; rw [h2, if_pos (by rw [hF]; rfl), h]; rfl)
          have HLL := hide (show L.length ≤ 65536 by
            have h2 := HUL.out
            unfold walkU at h2
            cases h : walkO rs at_ l with
            | none => rw [h] at h2; rw [h2]; exact Nat.zero_le _
            | some r =>
              rw [h] at h2
              have h3 := walkO_len rs l at_ r h
              rw [h2]
              show r.length + 1 ≤ _
              omega)
          clear HWL
          generalize walkU rs at_ l = U at *
          generalize hok : (walkO rs at_ l).isSome = ok at *
          clear hok
          cases ok
          · have hF' : F = 12 := hF
            subst hF'
            clear hF
            go_wp2_with fail
            refine HUC.out.mono ?_
            rintro e w13 ⟨Y, cy, rfl, hRY, hn13⟩
            have hn5e := hn5d.trans hn13
            have HEQ := hide (w_EqualL 0 0 Z Y cz cy L U w13 (HRZ.out.nx hn13) hRY HUL.out HLL.out)
            clear c0 c1 c2 hRY
            go_wp2_with fail
            refine (w_when true 12 _).mono ?_
            rintro e w' ⟨rfl, rfl⟩
            go_wp2_with fail
            refine HEQ.out.mono ?_
            rintro e w14 ⟨rfl, hn14⟩
            go_wp2_with fail
            refine (w_driven _).mono ?_
            rintro e w15 ⟨rfl, hn15⟩
            go_wp2_with fail
            go_ret
            exact ⟨rfl, HT.out _ ((hn5e.trans hn14).trans hn15)⟩
          · have hF' : F = 0 := hF
            subst hF'
            clear hF
            go_wp2_with fail
            refine HUC.out.mono ?_
            rintro e w13 ⟨Y, cy, rfl, hRY, hn13⟩
            have hn5e := hn5d.trans hn13
            have HEQ := hide (w_EqualL 0 0 Z Y cz cy L U w13 (HRZ.out.nx hn13) hRY HUL.out HLL.out)
            clear c0 c1 c2 hRY
            go_wp2_with fail
            refine (w_when false 12 _).mono ?_
            rintro e w' ⟨rfl, rfl⟩
            go_wp2_with fail
            refine HEQ.out.mono ?_
            rintro e w14 ⟨rfl, hn14⟩
            go_wp2_with fail
            refine (w_driven _).mono ?_
            rintro e w15 ⟨rfl, hn15⟩
            go_wp2_with fail
            go_ret
            exact ⟨rfl, HT.out _ ((hn5e.trans hn14).trans hn15)⟩
        · have hF := HF.out.trans (if_neg hc)
          have hL := HWL.out.trans (if_neg (by rw [hF]; exact hc))
          have tc : (F == 0) = false := by rw [hF]; simpa using hc
          rw [← hF]
          have t1 : (F == F) = true := by simp
          have HEQ := hide (w_EqualN 0 Z cz L w12 HRZ.out hL)
          clear HF HCW HWU HWR HWL c0 c1 c2 hF hc hL
          go_wp2_with fail
          refine HEQ.out.mono ?_
          rintro e w14 ⟨rfl, hn14⟩
          go_wp2_with fail
          refine (w_driven _).mono ?_
          rintro e w15 ⟨rfl, hn15⟩
          go_wp2_with fail
          go_ret
          exact ⟨rfl, HT.out _ ((hn5d.trans hn14).trans hn15)⟩
      · obtain ⟨hF, hL⟩ := HWC.out.1 hz
        have tc : (W0 == 0) = false := by simpa using hz
        have t1 : (W0 == W0) = true := by simp
        have HEQ := hide (w_EqualN 0 Z cz L w11 HRZ.out hL)
        subst hF
        clear HWC HCW HWU HWR HWL hL hz
        go_wp2_with fail
        refine HEQ.out.mono ?_
        rintro e w14 ⟨rfl, hn14⟩
        go_wp2_with fail
        refine (w_driven _).mono ?_
        rintro e w15 ⟨rfl, hn15⟩
        go_wp2_with fail
        go_ret
        exact ⟨rfl, HT.out _ ((hn11.trans hn14).trans hn15)⟩
  · have tF : (roadsF ns rs bs != 0) = true := by simpa using hF
    have hF1 := HWF.out.trans (if_neg hF)
    have hF2 := HLF.out.trans (if_neg hF)
    have hL0 : L = [] := by rw [HWL.out, hF1, if_neg hF]
    have hI0 : LI = 0 := by rw [HLI.out, hF2, if_neg hF]
    subst hF1 hF2 hL0 hI0
    have t1 : (roadsF ns rs bs == roadsF ns rs bs) = true := by simp
    clear hF
    generalize roadsF ns rs bs = RF at *
    go_wp2_with (go_at_call 9; refine (w_driven _).mono ?_; rintro e w12 ⟨rfl, hn12⟩)
    go_ret
    exact ⟨rfl, HT.out _ (hn58.trans hn12)⟩
end Go.Proofs.YtbhlldpmklkeoaaGreatDoor
