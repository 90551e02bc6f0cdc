/- Ways are searched: the walk. -/
import Derived.Test.YtbjbeddjaajdaaaGreatDoorQSrchW
import Derived.Test.YtbjbeddjaajdaaaGreatDoorQG14
import Derived.Deep.LoopGhost
import Derived.Deep.QuietTactic
import Derived.BigQuiet
namespace Go.Proofs.YtbjbeddjaajdaaaGreatDoor
open Go.RowKit Go.Maps

/-- What a search gives. -/
def SrchOut (w : World) (bm fr nn m : Nat) (ad : Int) (R : Sr) (e : Ending) (w' : World) : Prop := ∃ a : SA, e = .returned (.pointer (some ⟨a.T, 0, none⟩)) ∧ SM w w' a bm fr nn m ad R
set_option maxRecDepth 100000 in
set_option maxHeartbeats 8000000 in
theorem w_Search (w : World) (bm fr : Nat) (ad : Int) (g0 lo : Nat) (A B C : Option Addr) (ca cb cc : Nat) (M : MapA) (ns : List Node) (rs : List Arc) (bs : List Ban)
    (hM : MapR w bm g0 lo A B C ca cb cc M ns rs bs) (hC : chk (arcF ns) none rs = 0) (hfr : fr < ns.length) (had : 0 ≤ ad ∧ ad ≤ 345686399999) :
    Calls Tryz.prog 92 #[.pointer (some ⟨bm, 0, none⟩), .int .i64 (fr : Int), .int .i64 ad] w (SrchOut w bm fr ns.length rs.length ad (searchG (gphOf ns rs bs) fr ad)) := by
  have hnl := hM.box.nl
  have hal := hM.box.al
  have hbl := hM.lt
  have HM := hide hM
  have HC := hide hC
  have HRN := hide (repOk ns.length (by omega))
  have HRM := hide (repOk rs.length (by omega))
  have HIN := hide (show initG (gphOf ns rs bs) fr ad = ⟨(List.replicate ns.length (-1)).set fr ad, List.replicate ns.length (-1), List.replicate rs.length (-1), List.replicate rs.length (-1), List.replicate rs.length false, []⟩ from rfl)
  generalize hRN : intRow (List.replicate ns.length (-1)) = RN at HRN
  generalize hRM : intRow (List.replicate rs.length (-1)) = RM at HRM
  have HN1 := hide hRN
  have HM1 := hide hRM
  have b2 := hM.c2
  have b3 := hM.c3
  clear hM hC hRN hRM
  generalize hn : ns.length = nn at *
  generalize hm : rs.length = m at *
  have HN := hide hn
  have HR := hide hm
  clear hn hm
  go_enter Tryz.func92, Tryz.ntmps92
  go_wp2_with fail
  obtain ⟨s, hs⟩ : ∃ s, s = w.heap.size := ⟨_, rfl⟩
  obtain ⟨wA, hwA⟩ : ∃ wA, wA = ((w.alloc (.cells #[.pointer (some ⟨bm, 0, none⟩)] 106)).alloc (.cells #[.pointer (some ⟨bm, 0, none⟩), .int .i64 (fr : Int), .int .i64 ad, .slice none 0 0, .slice none 0 0, .slice none 0 0] 161)).alloc (.cells #[.pointer (some ⟨w.heap.size + 1, 0, none⟩)] 158) := ⟨_, rfl⟩
  have hnA : Nx w wA := hwA ▸ (((Nx.refl w).alloc _).alloc _).alloc _
  have hsA : wA.heap.size = s + 3 := by rw [hwA, hs]; simp
  have hX0 : RowAt wA s (.cells #[.pointer (some ⟨bm, 0, none⟩)] 106 (0, 0)) := by rw [hwA, hs]; exact ((RowAt.new w _).alloc _).alloc _
  have hT0 : TreeIs (s + 1) bm fr ad wA (.slice none 0 0) (.slice none 0 0) (.slice none 0 0) := by rw [hwA, hs]; exact TreeIs.alloc (hnew (by simp)) _
  have hY0 : RowAt wA (s + 2) (.cells #[.pointer (some ⟨s + 1, 0, none⟩)] 158 (0, 0)) := by rw [hwA, hs]; exact hnew (by simp)
  rw [← hwA]
  rw [← hs]
  have HWA := hide hwA
  have HS := hide hs
  have HX0 := hide hX0
  have HT0 := hide hT0
  have HY0 := hide hY0
  have HB := hide (fun W (hx : Nx wA W) => (⟨nx_cell (hnA.trans hx) hbl b2, nx_cell (hnA.trans hx) hbl b3⟩ : W.cell? ⟨bm, 2, none⟩ = some (.slice M.T m M.cT) ∧ W.cell? ⟨bm, 3, none⟩ = some (.slice (some ⟨M.bo, 0, none⟩) nn nn)))
  have hbs : bm < s := by omega
  have k0 : wA.cell? ⟨s, 0, none⟩ = some (.pointer (some ⟨bm, 0, none⟩)) := (cell_of_row wA _ 0 _ _ _ hX0).trans rfl
  have k2 : wA.cell? ⟨s + 2, 0, none⟩ = some (.pointer (some ⟨s + 1, 0, none⟩)) := (cell_of_row wA _ 0 _ _ _ hY0).trans rfl
  have b3 := (HB.out wA (Nx.refl _)).2
  have hs3 : s + 3 ≤ wA.heap.size := by omega
  have HSA := hide hsA
  have HELD := hide (fun W (hg : Gr (s + 1) wA W) => (⟨World.grownBy.cell (row := some (s + 1)) hg k0 (by simp), World.grownBy.cell (row := some (s + 1)) hg k2 (by simp), World.grownBy.cell (row := some (s + 1)) hg b3 (by simp; omega)⟩ : W.cell? ⟨s, 0, none⟩ = some (.pointer (some ⟨bm, 0, none⟩)) ∧ W.cell? ⟨s + 2, 0, none⟩ = some (.pointer (some ⟨s + 1, 0, none⟩)) ∧ W.cell? ⟨bm, 3, none⟩ = some (.slice (some ⟨M.bo, 0, none⟩) nn nn)))
  clear hwA hs hX0 hT0 hY0 b2 hsA
  go_cut [38] (fun _ wx => ∃ gF gL : Nat, TreeIs (s + 1) bm fr ad wx (.slice (some ⟨gF, 0, none⟩) nn nn) (.slice (some ⟨gL, 0, none⟩) nn nn) (.slice none 0 0) ∧ RowAt wx gF RN ∧ RowAt wx gL RN ∧ gF ≠ gL ∧ s + 3 ≤ gF ∧ s + 3 ≤ gL ∧ Gr (s + 1) wA wx)
  case first =>
    go_region_held3 (fun w' => w'.cell? ⟨s, 0, none⟩ = some (.pointer (some ⟨bm, 0, none⟩)) ∧ w'.cell? ⟨s + 2, 0, none⟩ = some (.pointer (some ⟨s + 1, 0, none⟩)) ∧ w'.cell? ⟨bm, 3, none⟩ = some (.slice (some ⟨M.bo, 0, none⟩) nn nn))
      (exact HELD.out _ (by repeat (first | assumption | with_reducible exact Gr.refl _ _ | with_reducible refine Gr.drew ?_ | with_reducible refine Gr.alloc ?_ _ | with_reducible refine Gr.chain ?_ _)))
      ((go_at_call 140; refine (HRN.out _ _ (by repeat (first | (with_reducible refine RowAt.new' (by first | rfl | (simp; done) | (simp; omega))) | with_reducible refine RowAt.drew ?_ | with_reducible refine RowAt.alloc ?_ _ | (with_reducible refine RowAt.set ?_ _ (by simp; omega)) | (with_reducible refine RowAt.nx ?_ (by assumption))))).mono ?_; rintro e w5 ⟨g5, rfl, hge5, hgl5, hrow5, hn5⟩; (have hs5 := hn5.sz); (try simp at hge5 hs5); (have hgr5 : Gr (s + 1) wA w5 := Gr.then_nx (by repeat (first | assumption | with_reducible exact Gr.refl _ _ | with_reducible refine Gr.drew ?_ | with_reducible refine Gr.alloc ?_ _ | with_reducible refine Gr.chain ?_ _)) hn5); (have hTE5 : TreeE (s + 1) bm fr ad w5 := TreeE.nx (by repeat (first | assumption | exact ⟨_, _, HT0.out⟩ | with_reducible refine TreeE.drew ?_ | with_reducible refine TreeE.alloc ?_ _ | with_reducible refine TreeE.set3 ?_ | with_reducible refine TreeE.set4 ?_)) hn5); (obtain ⟨c3, c4, hT5⟩ := hTE5); (have hTE5 : TreeE (s + 1) bm fr ad w5 := ⟨c3, c4, hT5⟩); (have x3 := hT5.cell3); (have x4 := hT5.cell4); (have f3 := hT5.fro 3); (have f4 := hT5.fro 4); (have x3A : ∀ o, _ := fun o => (hT5.alloc o).cell3); (have x4A : ∀ o, _ := fun o => (hT5.alloc o).cell4); (have f3A : ∀ o, _ := fun o => (hT5.alloc o).fro 3); (have f4A : ∀ o, _ := fun o => (hT5.alloc o).fro 4)))
    all_goals
      go_wp2
      go_meet
      apply Exists.intro
      apply Exists.intro
      refine ⟨?_, ?_, ?_, ?_, ?_, ?_, (by repeat (first | assumption | with_reducible exact Gr.refl _ _ | with_reducible refine Gr.drew ?_ | with_reducible refine Gr.alloc ?_ _ | with_reducible refine Gr.chain ?_ _))⟩
      · repeat (first | assumption | exact HT0.out | with_reducible apply TreeIs.set3 | with_reducible apply TreeIs.set4 | with_reducible apply TreeIs.drew | with_reducible apply TreeIs.alloc | (with_reducible refine TreeIs.nx ?_ (by assumption)))
      · repeat (first | assumption | with_reducible refine RowAt.drew ?_ | with_reducible refine RowAt.alloc ?_ _ | (with_reducible refine RowAt.set ?_ _ (by simp; omega)) | (with_reducible refine RowAt.nx ?_ (by assumption)))
      · repeat (first | assumption | with_reducible refine RowAt.drew ?_ | with_reducible refine RowAt.alloc ?_ _ | (with_reducible refine RowAt.set ?_ _ (by simp; omega)) | (with_reducible refine RowAt.nx ?_ (by assumption)))
      · omega
      · omega
      · omega
  case rest =>
    obtain ⟨gF, gL, hT, hrF, hrL, hne, hgF, hgL, hgr⟩ := hcut
    have HT := hide hT
    have HRF := hide hrF
    have HRL := hide hrL
    have HGR := hide hgr
    have b2w := (HB.out wA (Nx.refl _)).1
    have HELD3 := hide (fun W (hg : Gr (s + 1) wA W) => (⟨World.grownBy.cell (row := some (s + 1)) hg k0 (by simp), World.grownBy.cell (row := some (s + 1)) hg k2 (by simp), World.grownBy.cell (row := some (s + 1)) hg b2w (by simp; omega)⟩ : W.cell? ⟨s, 0, none⟩ = some (.pointer (some ⟨bm, 0, none⟩)) ∧ W.cell? ⟨s + 2, 0, none⟩ = some (.pointer (some ⟨s + 1, 0, none⟩)) ∧ W.cell? ⟨bm, 2, none⟩ = some (.slice M.T m M.cT)))
    have hltF := lt_of_heap hrF
    have hltL := lt_of_heap hrL
    have hszc := hgr.sz
    have HNE := hide hne
    clear k0 k2 b3 hT hrF hrL b2w HELD hne
    obtain ⟨k0, k2, b2c⟩ := HELD3.out wc hgr
    go_wp2_with fail
    go_cut [50] (fun _ wx => ∃ gP : Nat, TreeIs (s + 1) bm fr ad wx (.slice (some ⟨gF, 0, none⟩) nn nn) (.slice (some ⟨gL, 0, none⟩) nn nn) (.slice (some ⟨gP, 0, none⟩) m m) ∧ RowAt wx gF RN ∧ RowAt wx gL RN ∧ RowAt wx gP RM ∧ gP ≠ gF ∧ gP ≠ gL ∧ s + 3 ≤ gP ∧ Gr (s + 1) wA wx)
    case first =>
      go_region_held3 (fun w' => w'.cell? ⟨s, 0, none⟩ = some (.pointer (some ⟨bm, 0, none⟩)) ∧ w'.cell? ⟨s + 2, 0, none⟩ = some (.pointer (some ⟨s + 1, 0, none⟩)) ∧ w'.cell? ⟨bm, 2, none⟩ = some (.slice M.T m M.cT))
        (exact HELD3.out _ (by repeat (first | assumption | with_reducible exact HGR.out | with_reducible refine Gr.drew ?_ | with_reducible refine Gr.alloc ?_ _ | with_reducible refine Gr.chain ?_ _)))
        ((go_at_call 140; refine (HRM.out _ _ (by repeat (first | (with_reducible refine RowAt.new' (by first | rfl | (simp [World.setCell]; done) | (simp [World.setCell]; omega))) | with_reducible refine RowAt.drew ?_ | with_reducible refine RowAt.alloc ?_ _))).mono ?_; rintro e w5 ⟨g5, rfl, hge5, hgl5, hrow5, hn5⟩; (have hs5 := hn5.sz); (try simp at hge5 hs5); (have hgr5 : Gr (s + 1) wA w5 := Gr.then_nx (by repeat (first | assumption | with_reducible exact HGR.out | with_reducible refine Gr.drew ?_ | with_reducible refine Gr.alloc ?_ _)) hn5); (have hT5 : TreeIs (s + 1) bm fr ad w5 (.slice (some ⟨gF, 0, none⟩) nn nn) (.slice (some ⟨gL, 0, none⟩) nn nn) (.slice none 0 0) := TreeIs.nx (by repeat (first | exact HT.out | with_reducible refine TreeIs.drew ?_ | with_reducible refine TreeIs.alloc ?_ _)) hn5); (have x3 := hT5.cell5); (have f3 := hT5.fro 5); (have hrF5 : RowAt w5 gF RN := RowAt.nx (by repeat (first | exact HRF.out | with_reducible refine RowAt.drew ?_ | with_reducible refine RowAt.alloc ?_ _)) hn5); (have hrL5 : RowAt w5 gL RN := RowAt.nx (by repeat (first | exact HRL.out | with_reducible refine RowAt.drew ?_ | with_reducible refine RowAt.alloc ?_ _)) hn5)))
      all_goals
        go_wp2
        go_meet
        refine ⟨g5, ?_, ?_, ?_, ?_, by omega, by omega, by omega, ?_⟩
        · repeat (first | assumption | with_reducible apply TreeIs.set5 | with_reducible apply TreeIs.drew | with_reducible apply TreeIs.alloc)
        · repeat (first | assumption | with_reducible refine RowAt.drew ?_ | with_reducible refine RowAt.alloc ?_ _ | (with_reducible refine RowAt.set ?_ _ (by simp; omega)))
        · repeat (first | assumption | with_reducible refine RowAt.drew ?_ | with_reducible refine RowAt.alloc ?_ _ | (with_reducible refine RowAt.set ?_ _ (by simp; omega)))
        · repeat (first | assumption | with_reducible refine RowAt.drew ?_ | with_reducible refine RowAt.alloc ?_ _ | (with_reducible refine RowAt.set ?_ _ (by simp; omega)))
        · repeat (first | assumption | with_reducible refine Gr.drew ?_ | with_reducible refine Gr.alloc ?_ _ | with_reducible refine Gr.chain ?_ _)
    case rest =>
      clear hltF hltL HT HRF HRL hgr HGR hszc k0 k2 b2c
      obtain ⟨gP, hT, hrF, hrL, hrP, hPF, hPL, hgP, hgr⟩ := hcut
      have hltF := lt_of_heap hrF
      have hltL := lt_of_heap hrL
      have hltP := lt_of_heap hrP
      have hszc := hgr.sz
      obtain ⟨k0, k2, b2c⟩ := HELD3.out wc hgr
      have x3 := hT.cell3
      rw [← HN1.out] at hrF
      have x4 := intRow_cell hrF (i := fr) (by simpa using hfr)
      have f4 := frozen_blkQ (j := fr) hrF
      have hfr2 : (fr : Int) < (nn : Int) := by omega
      have hfr0 : (0 : Int) ≤ (fr : Int) := by omega
      obtain ⟨W1, hW1⟩ : ∃ W1, W1 = wc.setCell ⟨gF, fr, none⟩ (.int .i64 ad) := ⟨_, rfl⟩
      have hgF1 : Gr gF wc W1 := by rw [hW1]; exact (Gr.refl gF wc).setS (.inl rfl) _
      have hT1 : TreeIs (s + 1) bm fr ad W1 (.slice (some ⟨gF, 0, none⟩) nn nn) (.slice (some ⟨gL, 0, none⟩) nn nn) (.slice (some ⟨gP, 0, none⟩) m m) := (World.grownBy.block (row := some gF) hgF1 _ hT.lt (by simp; omega)).trans hT
      have hrF1 : RowAt W1 gF (intRow ((List.replicate nn (-1)).set fr ad)) := by
        rw [hW1]
        refine (heap_set hrF).trans ?_
        rw [intRow_set]; rfl
      have hrL1 : RowAt W1 gL RN := (World.grownBy.block (row := some gF) hgF1 _ hltL (by have := HNE.out; simp; omega)).trans hrL
      have hrP1 : RowAt W1 gP RM := (World.grownBy.block (row := some gF) hgF1 _ hltP (by simp; omega)).trans hrP
      have hX1 : RowAt W1 s (.cells #[.pointer (some ⟨bm, 0, none⟩)] 106 (0, 0)) := (World.grownBy.block (row := some gF) hgF1 _ (by omega) (by simp; omega)).trans ((World.grownBy.block (row := some (s + 1)) hgr _ (by omega) (by simp)).trans HX0.out)
      have hY1 : RowAt W1 (s + 2) (.cells #[.pointer (some ⟨s + 1, 0, none⟩)] 158 (0, 0)) := (World.grownBy.block (row := some gF) hgF1 _ (by omega) (by simp; omega)).trans ((World.grownBy.block (row := some (s + 1)) hgr _ (by omega) (by simp)).trans HY0.out)
      have hnc : Nx w wc := Nx.of_gr ((Gr.of_nx hnA).trans hgr) (by have := HS.out; omega)
      have hn1 : Nx w W1 := hnc.grown hgF1 (fun k hk => by injection hk with hk; have := HS.out; omega)
      have HP1 := hide (And.intro hT1 (And.intro hrF1 (And.intro hrL1 (And.intro hrP1 (And.intro hX1 (And.intro hY1 hn1))))))
      have hb2 : W1.cell? ⟨bm, 2, none⟩ = some (.slice M.T m M.cT) := nx_cell hn1 hbl HM.out.c2 |>.trans (by rw [HR.out])
      have HB1 := hide (fun W (hx : Nx W1 W) => (⟨(cell_of_row W _ 0 _ _ _ (hX1.nx hx)).trans rfl, nx_cell (hn1.trans hx) hbl (HM.out.c2.trans (by rw [HR.out]))⟩ : W.cell? ⟨s, 0, none⟩ = some (.pointer (some ⟨bm, 0, none⟩)) ∧ W.cell? ⟨bm, 2, none⟩ = some (.slice M.T m M.cT)))
      go_upto_region 5 with fail
      rw [← hW1]
      have HW1 := hide hW1
      have hs1 : wc.heap.size ≤ W1.heap.size := hgF1.sz
      clear hW1 hT hrF hrL hrP hgr x3 x4 f4 k0 k2 b2c hT1 hrF1 hrL1 hrP1 hX1 hY1 hnc hgF1 hb2
      have k0A : ∀ o, (W1.alloc o).cell? ⟨s, 0, none⟩ = some (.pointer (some ⟨bm, 0, none⟩)) := fun o => (HB1.out _ ((Nx.refl _).alloc o)).1
      have b2A : ∀ o, (W1.alloc o).cell? ⟨bm, 2, none⟩ = some (.slice M.T m M.cT) := fun o => (HB1.out _ ((Nx.refl _).alloc o)).2
      have hmkB := fun w => run_make_boolsR m (by omega) w
      go_wp2_with fail
      refine (HRM.out _ _ (RowAt.new _ _)).mono ?_
      rintro e w5 ⟨gB, rfl, hgeB, hgtB, hrB, hn5⟩
      have hx5 : Nx W1 w5 := ((Nx.refl W1).alloc _).trans hn5
      have k0B : ∀ o, (w5.alloc o).cell? ⟨s, 0, none⟩ = some (.pointer (some ⟨bm, 0, none⟩)) := fun o => (HB1.out _ (hx5.alloc o)).1
      have b2B : ∀ o, (w5.alloc o).cell? ⟨bm, 2, none⟩ = some (.slice M.T m M.cT) := fun o => (HB1.out _ (hx5.alloc o)).2
      go_upto_region 9 with fail
      obtain ⟨z, hz⟩ : ∃ z, z = w5.heap.size := ⟨_, rfl⟩
      obtain ⟨WZ, hWZ⟩ : ∃ WZ, WZ = (((w5.alloc (.cells #[.slice (some ⟨gB, 0, none⟩) m m] 22)).alloc (boolRow (List.replicate m false))).alloc (.cells #[.slice none 0 0] 230)) := ⟨_, rfl⟩
      have hx5Z : Nx w5 WZ := hWZ ▸ (((Nx.refl w5).alloc _).alloc _).alloc _
      have hsW1 : s = w.heap.size := HS.out
      have hszB : W1.heap.size + 1 ≤ gB := by simpa using hgeB
      have hSZ : SM w WZ ⟨s, s + 1, s + 1 + 1, gF, gL, gP, gB, z + 1, z, z + 1 + 1, z + 1 + 1 + 1⟩ bm fr nn m ad (initG (gphOf ns rs bs) fr ad) := by
        obtain ⟨hT1, hrF1, hrL1, hrP1, hX1, hY1, hn1⟩ := HP1.out
        have hx1 := hx5.trans hx5Z
        have u1 := hT1.nx hx1
        have u2 := hrF1.nx hx1
        have u3 := hrL1.nx hx1
        have u4 := hrP1.nx hx1
        have u5 := hX1.nx hx1
        have u6 := hY1.nx hx1
        have u7 := hrB.nx hx5Z
        have u8 : WZ.heap[z]? = some (.cells #[.slice (some ⟨gB, 0, none⟩) m m] 22 (0, 0)) := by rw [hWZ, hz]; exact RowAt.alloc (RowAt.alloc (RowAt.new _ _) _) _
        have u9 : WZ.heap[z + 1]? = some (boolRow (List.replicate m false)) := by rw [hWZ, hz]; exact RowAt.alloc (RowAt.new' (by simp)) _
        have u10 : WZ.heap[z + 1 + 1]? = some (.cells #[.slice none 0 0] 230 (0, 0)) := by rw [hWZ, hz]; exact RowAt.new' (by simp)
        have hne := HNE.out
        rw [← HN1.out] at u3
        rw [← HM1.out] at u4 u7
        rw [HIN.out]
        refine ⟨hn1.trans hx1, ⟨?_, ?_⟩, ⟨_, u10, World.ownsRow_nil _ _ _ _, by show z + 1 + 1 < z + 1 + 1 + 1; omega, by show z + 1 + 1 + 1 ≤ _; rw [hWZ, hz]; simp⟩, ?_, by show _ ≤ z + 1 + 1; omega, by simp, by simp, by simp, by simp, by simp⟩
        · simp only [memOf, List.map_cons, List.map_nil, List.nodup_cons, List.mem_cons, List.not_mem_nil, or_false, not_or, not_false_eq_true, and_true, List.nodup_nil]
          omega
        · intro p hp
          simp only [memOf, List.mem_cons, List.not_mem_nil, or_false] at hp
          rcases hp with rfl | rfl | rfl | rfl | rfl | rfl | rfl | rfl | rfl
          · exact u5
          · exact u1
          · exact u6
          · exact u8
          · exact u2
          · exact u3
          · exact u4
          · exact u7
          · exact u9
        · intro b hb
          simp only [List.mem_cons, List.not_mem_nil, or_false] at hb
          show w.heap.size ≤ b ∧ b < z + 1 + 1 + 1 ∧ b ≠ z + 1 + 1
          rcases hb with rfl | rfl | rfl | rfl | rfl | rfl | rfl | rfl | rfl <;> omega
      rw [← hWZ]
      rw [← hz]
      have HSZ := hide hSZ
      clear hSZ HP1 hx5 hrB hgeB hgtB hn5 k0A b2A k0B b2B hmkB hx5Z hWZ hz
      generalize hA : (⟨s, s + 1, s + 1 + 1, gF, gL, gP, gB, z + 1, z, z + 1 + 1, z + 1 + 1 + 1⟩ : SA) = a at HSZ
      have e1 : s + 1 + 1 = a.bt := by rw [← hA]
      have e2 : z + 1 + 1 = a.gq := by rw [← hA]
      have e3 : z + 1 = a.gD := by rw [← hA]
      have e4 : z = a.bb := by rw [← hA]
      have e5 : s = a.bx := by rw [← hA]
      rw [e1, e2, e3, e4, e5]
      clear e1 e2 e3 e4 e5 hA HX0 HT0 HY0 HB HRN HRM HN1 HM1 HSA HELD3 HW1 HB1 HNE HWA
      have HEN := hide (fun W st arc p t (hS : SM w W a bm fr nn rs.length ad st) (ha : arc < rs.length) ht hq => w_enter w W a bm fr nn ad st g0 lo A B C ca cb cc M ns rs bs arc p t HM.out (knots_ok HC.out) hS ha ht hq)
      have HG := hide (gph_ok (bs := bs) HC.out)
      have HLT := hide (fun W (hx : Nx w W) => HM.out.nx hx)
      have HTO := hide (fun k (hk : k < rs.length) => (show (gphOf ns rs bs).to_ k = nodeN ns (arcX rs k).to_ from rfl))
      have hGm : (gphOf ns rs bs).m = m := HR.out
      have hGn : (gphOf ns rs bs).nn = nn := HN.out
      have HGM := hide hGm
      have HGN := hide hGn
      have HRW := hide (show searchG (gphOf ns rs bs) fr ad = runG (gphOf ns rs bs) (fuelG (gphOf ns rs bs)) (startG (gphOf ns rs bs) fr ad) from rfl)
      have HST := hide (show startG (gphOf ns rs bs) fr ad = ((gphOf ns rs bs).outs fr).foldl (fun s k => enterG (gphOf ns rs bs) s k (-1) ad) (initG (gphOf ns rs bs) fr ad) from rfl)
      have HOX := hide (fun n (hn : n < ns.length) => HM.out.hO n hn)
      have HBL := hide HM.out.bol
      have HMN := hide (fun p j (hp : p < rs.length) (hj : j < rs.length) => (show (mapB rs bs bs.length ((p : Int), (j : Int))).getD false = (gphOf ns rs bs).ban p j from mapB_ban (sortA_of HC.out) hp hj))
      have HFU := hide (show fuelG (gphOf ns rs bs) ≤ 401 * 401 by unfold fuelG; rw [HGM.out]; exact Nat.mul_le_mul (by omega) (by omega))
      rw [HR.out] at HEN HTO HMN
      rw [HN.out] at HOX
      clear hGm hGn HIN
      generalize gphOf ns rs bs = G at *
      obtain ⟨Ao, co, hoc, hoR⟩ := HOX.out fr hfr
      have HOL := hide (fun k hk => HG.out.outs_lt fr k hk)
      have HOLL := hide (HG.out.outs_len fr)
      generalize hol : G.outs fr = ol at *
      have hnl2 : ol.length ≤ m := by have := HOLL.out; rw [HGM.out] at this; exact this
      have k0 := HSZ.out.hbx
      have b3 := (HLT.out WZ HSZ.out.nx).c3
      rw [HN.out] at b3
      have ho := nx_cell HSZ.out.nx HBL.out hoc
      have HOR := hide hoR
      have hfr2 : (fr : Int) < (nn : Int) := by omega
      have hfr0 : (0 : Int) ≤ (fr : Int) := by omega
      generalize hnl3 : ol.length = nl at *
      have HNL := hide hnl3
      clear hoR hoc hol hnl3
      go_wp2_with fail
      clear k0 b3 ho
      go_loopw [82] (fun i wr => ∃ k : Nat, k ≤ nl ∧ i = .int .i64 k ∧ SM w wr a bm fr nn m ad ((ol.take k).foldl (fun s k => enterG G s k (-1) ad) (initG G fr ad))) (fun i _ => nl - (intOf i).toNat)
      case atStart => exact ⟨0, Nat.zero_le _, rfl, HSZ.out⟩
      case round =>
        clear HSZ
        obtain ⟨k, hk, rfl, hSr⟩ := hrel
        have HSR := hide hSr
        clear hSr
        by_cases hlt : k < nl
        · have hkl : k < ol.length := by have := HNL.out; omega
          have hki : k < (intsOf ol).length := by unfold intsOf; simpa using hkl
          obtain ⟨b, off, rfl, _, hb, hbr, hc⟩ := HOR.out.open_ HSR.out.nx (by omega)
          have c0 : wr.cell? ⟨b, off + k, none⟩ = some (.int .i64 (ol[k] : Int)) := by
            have := hc k hki 0 _ rfl
            have e : (intsOf ol)[k] = (ol[k] : Int) := by simp [intsOf]
            rw [e] at this
            simpa using this
          have HTK := hide (show (ol.take (k + 1)).foldl (fun s k => enterG G s k (-1) ad) (initG G fr ad) = enterG G ((ol.take k).foldl (fun s k => enterG G s k (-1) ad) (initG G fr ad)) ol[k] (-1) ad by rw [List.take_succ_eq_append_getElem hkl, List.foldl_append]; rfl)
          have hom := HOL.out ol[k] (List.getElem_mem hkl)
          rw [HGM.out] at hom
          have hql := (start_qlen (g := G) (at_ := ad) (ol.take k) (initG G fr ad)).1
          have hq0 : (initG G fr ad).q.length = 0 := rfl
          rw [List.length_take] at hql
          have HE := hide (HEN.out wr _ ol[k] (-1) ad HSR.out hom had (by omega))
          clear hc hql hq0
          generalize (ol.take k).foldl (fun s k => enterG G s k (-1) ad) (initG G fr ad) = st at *
          generalize ol[k] = arc at *
          go_wp2_with fail
          refine HE.out.mono ?_
          rintro e wn ⟨rfl, hSn, _⟩
          have HSN := hide hSn
          clear hSn
          go_wp2_with fail
          go_roundw
          case rel => exact ⟨k + 1, by omega, by go_num, by rw [HTK.out]; exact HSN.out⟩
          case measure => simp [intOf]; omega
        · obtain rfl : nl = k := by omega
          have HS1 := hide (show SM w wr a bm fr nn m ad (startG G fr ad) by rw [HST.out]; have h := HSR.out; rw [List.take_of_length_le (by have := HNL.out; omega)] at h; exact h)
          clear hlt HSR HST HOR HOL HOLL
          have HSI := hide (start_inv HG.out had.1 (a := fr) (at_ := ad) (by rw [HGN.out]; exact hfr))
          have HSM := hide (start_meas (a := fr) (at_ := ad) HG.out)
          go_wp2_with fail
          go_loopg [91] (fuelG G) (fun f v wr => ∃ st : Sr, SM w wr a bm fr nn m ad st ∧ runG G f st = searchG G fr ad ∧ (∃ T, Inv G fr ad st T (fun _ => True) (fun _ _ => True)) ∧ meas G st ≤ f ∧ f ≤ fuelG G)
          case atStart => exact ⟨_, HS1.out, HRW.out.symm, ⟨_, HSI.out⟩, HSM.out, Nat.le_refl _⟩
          case round =>
            clear HS1 HSI HSM
            obtain ⟨st, hSr, hrun, ⟨T, hInv⟩, hmeas, hfu⟩ := hrel
            have HSR := hide hSr
            have HRU := hide hrun
            have HIV := hide (And.intro True.intro hInv)
            have hqm : st.q.length ≤ gk := by unfold meas at hmeas; omega
            have hFU := HFU.out
            have HME := hide hmeas
            clear hSr hrun hInv hmeas
            by_cases hq : st.q = []
            · have hR : searchG G fr ad = st := by
                rw [← HRU.out]
                cases gk with
                | zero => rfl
                | succ f => unfold runG; rw [if_pos hq]
              obtain ⟨Aq, cq, hqc⟩ := HSR.out.q.head
              have hq0 : st.q.length = 0 := by rw [hq]; rfl
              rw [hq0] at hqc
              have k2 := HSR.out.hbt
              have HR2 := hide hR
              clear hR hq hqm hq0
              go_wp2_with fail
              go_ret
              exact ⟨a, rfl, by rw [HR2.out]; exact HSR.out⟩
            · obtain ⟨f, rfl⟩ : ∃ f, gk = f + 1 := ⟨gk - 1, by have := List.length_pos_iff.2 hq; omega⟩
              have hpos := List.length_pos_iff.2 hq
              have HSTEP := hide (show runG G f (popG G st) = searchG G fr ad by rw [← HRU.out]; conv => rhs; unfold runG; rw [if_neg hq])
              have hqmem : gx st.q 0 ∈ st.q := (hrest_perm st.q hq).mem_iff.2 (by simp)
              obtain ⟨hxm, hxr, _, _, _⟩ := HIV.out.2.qr _ hqmem
              have hxb := hxr.ge HG.out had.1
              rw [HGM.out] at hxm
              have HPI := hide (pop_inv HG.out had.1 HIV.out.2 hq)
              have HPM := hide (pop_meas HG.out hq (by rw [HSR.out.lD]; exact hxm))
              have HPOP := hide (show popG G st = if gb st.done (gx st.q 0).arc then { st with q := hrest st.q } else (G.outs (G.to_ (gx st.q 0).arc)).foldl (onG G (gx st.q 0).arc (gx st.q 0).at_) (markG G st (gx st.q 0)) from rfl)
              obtain ⟨Aq, cq, hqc⟩ := HSR.out.q.head
              have HQP := hide (w_HPop a.base a.gq st.q wr HSR.out.q hq (by omega))
              have hTA := q_assert
              have tl : decide ((0 : Int) < (st.q.length : Int)) = true := decide_eq_true (by omega)
              generalize gx st.q 0 = x at *
              have hxe : x.at_ < endT := hxb.2
              have hxa : ad < x.at_ := hxb.1
              have hxe2 : x.at_ ≤ 345686399999 := by unfold endT at hxe; omega
              clear hqmem hxr hxb hxe HRU
              have HQ0 := hide hq
              clear hq
              go_wp2_with fail
              refine HQP.out.mono ?_
              rintro e w1 ⟨rfl, hQ1, hk1⟩
              have HS1 := hide (HSR.out.keep hk1 hQ1)
              go_upto_region 16 with fail
              obtain ⟨wx, hwx⟩ : ∃ wx, wx = w1.alloc (.cells #[.int .i64 x.at_, .int .i64 (x.arc : Int)] 234) := ⟨_, rfl⟩
              have hexc : wx.heap[w1.heap.size]? = some (.cells #[.int .i64 x.at_, .int .i64 (x.arc : Int)] 234 (0, 0)) := by rw [hwx]; exact hnew rfl
              have HS2 := hide (HS1.out.step (hwx ▸ (Nx.refl w1).alloc _))
              have hgqb : a.gq < a.base := by obtain ⟨_, _, _, h3, _⟩ := HS1.out.q; exact h3
              have hexb : a.base ≤ w1.heap.size := by obtain ⟨_, _, _, _, h4⟩ := HS1.out.q; exact h4
              have hnoq : NotOwn a.gq w1.heap.size wx := by
                obtain ⟨v, h1, h2, _, h4⟩ := HS1.out.q
                intro v' z' hv'
                have h5 : wx.heap[a.gq]? = some (.cells #[v] 230 (0, 0)) := by rw [hwx]; exact (((Nx.refl w1).alloc _).block _ (lt_of_heap h1)).trans h1
                rw [h5] at hv'
                injection hv' with hv'
                injection hv' with hv' _ _
                have e : v' = v := by
                  have := congrArg (fun x : Array Value => x[0]?) hv'
                  simpa using this.symm
                rw [e]
                intro e2
                have := (h2.lt _ e2).2
                omega
              have HEX := hide hexc
              have HNO := hide hnoq
              generalize w1.heap.size = ex at *
              rw [← hwx]
              have HWX := hide hwx
              have hD0 := boolRow_cell HS2.out.hD (i := x.arc) (by rw [HS2.out.lD]; exact hxm)
              have fD := frozen_blkQ (j := x.arc) HS2.out.hD
              have d0 : wx.cell? ⟨ex, 0, none⟩ = some (.int .i64 x.at_) := (cell_of_row wx _ 0 _ _ _ hexc).trans rfl
              have d1 : wx.cell? ⟨ex, 1, none⟩ = some (.int .i64 (x.arc : Int)) := (cell_of_row wx _ 1 _ _ _ hexc).trans rfl
              have i1 : (0 : Int) ≤ (x.arc : Int) := by omega
              have i2 : (x.arc : Int) < (m : Int) := by omega
              clear hwx hexc hnoq hqc hTA HQP hQ1 hk1 HS1
              have HD0 := hide (show gb ({ st with q := hrest st.q } : Sr).done x.arc = gb st.done x.arc from rfl)
              rw [HD0.out] at hD0
              cases hd : gb st.done x.arc
              · rw [hd] at hD0 HPOP
                rw [if_neg (by simp)] at HPOP
                go_upto_region 18 with fail
                obtain ⟨wy, hwy⟩ : ∃ wy, wy = wx.setCell ⟨a.gD, x.arc, none⟩ (.bool true) := ⟨_, rfl⟩
                have hlD := HS2.out.lo a.gD (by simp)
                have hSy : SM w wy a bm fr nn m ad { ({ st with q := hrest st.q } : Sr) with done := st.done.set x.arc true } := by rw [hwy]; exact HS2.out.setD x.arc true
                have hfy : FrE a wx wy := by rw [hwy]; exact FrE.set hlD.2.1 hlD.2.2
                rw [← hwy]
                have HWY := hide hwy
                have hexl := lt_of_heap HEX.out
                obtain ⟨hey, hny⟩ := hfy ex hexb hexl HNO.out
                have HSY := hide hSy
                have HEY := hide (hey.trans HEX.out)
                have HNY := hide hny
                have hxm2 : x.arc < rs.length := by rw [HR.out]; exact hxm
                have hnlt : G.to_ x.arc < nn := by have := HG.out.to_lt x.arc (by rw [HGM.out]; exact hxm); rw [HGN.out] at this; exact this
                obtain ⟨bT, oT, eT, _, hbT, _, hcT⟩ := HM.out.hT.open_ (Nx.refl w) (by simp; omega)
                have HTE := hide (show w.cell? ⟨bT, oT + x.arc, none⟩ = some (.int .i64 (G.to_ x.arc : Int)) by
                  have h := hcT x.arc (by simpa using hxm2) 0 _ rfl
                  rw [HTO.out x.arc hxm]
                  simpa using h)
                have HMAP := hide (fun W (hx : Nx w W) => (⟨nx_cell hx hbl (HM.out.c2.trans (by rw [HR.out, eT])), nx_cell hx hbl (HM.out.c3.trans (by rw [HN.out])), nx_cell hx hbl HM.out.c4, nx_cell hx hbT HTE.out⟩ : W.cell? ⟨bm, 2, none⟩ = some (.slice (some ⟨bT, oT, none⟩) m M.cT) ∧ W.cell? ⟨bm, 3, none⟩ = some (.slice (some ⟨M.bo, 0, none⟩) nn nn) ∧ W.cell? ⟨bm, 4, none⟩ = some (.map (some M.b4)) ∧ W.cell? ⟨bT, oT + x.arc, none⟩ = some (.int .i64 (G.to_ x.arc : Int))))
                have HMK := hide (show markG G st x = if gi st.first (G.to_ x.arc) < 0 then { st with done := st.done.set x.arc true, q := hrest st.q, first := st.first.set (G.to_ x.arc) x.at_, last := st.last.set (G.to_ x.arc) (x.arc : Int) } else { st with done := st.done.set x.arc true, q := hrest st.q } from rfl)
                clear hwy hSy hfy hey hny hD0 fD d0 d1 HS2 HEX HNO hcT eT hexl
                generalize hnd : G.to_ x.arc = nd at *
                have HND := hide hnd
                clear hnd
                have k0 := HSY.out.hbx
                have HGQ := hide (show a.gq < wy.heap.size by obtain ⟨_, hq1, _⟩ := HSY.out.q; exact lt_of_heap hq1)
                obtain ⟨m2, m3, m4, m5⟩ := HMAP.out wy HSY.out.nx
                have d1 : wy.cell? ⟨ex, 1, none⟩ = some (.int .i64 (x.arc : Int)) := (cell_of_row wy _ 1 _ _ _ HEY.out).trans rfl
                go_cut [15] (fun v wx2 => v = .int .i64 (nd : Int) ∧ Nx wy wx2)
                case first =>
                  refine wp_region_held_drew (S := fun w' => w'.cell? ⟨a.bx, 0, none⟩ = some (.pointer (some ⟨bm, 0, none⟩)) ∧ w'.cell? ⟨bm, 2, none⟩ = some (.slice (some ⟨bT, oT, none⟩) m M.cT) ∧ w'.cell? ⟨ex, 1, none⟩ = some (.int .i64 (x.arc : Int)) ∧ w'.cell? ⟨bT, oT + x.arc, none⟩ = some (.int .i64 (nd : Int))) (by kernel_rfl) ?_ (fun hHeld => ?_)
                  · exact ⟨k0, m2, d1, m5⟩
                  refine wpAnyH_take (i := 0) (v := ?_) rfl (by kernel_rfl) (by kernel_rfl) (by kernel_rfl) (fun _ _ _ h => h) (Or.inl ⟨by rfl, ?_⟩) (by assumption) ?_
                  rotate_left 1
                  · intro w hSw
                    (try dsimp only at hSw)
                    go_simp
                    try with_reducible rfl
                  try simp only [Act.put, List.setIfInBounds_toArray]
                  refine wpAnyH_take (i := 1) (v := ?_) rfl (by kernel_rfl) (by kernel_rfl) (by kernel_rfl) (fun _ _ _ h => h) (Or.inl ⟨by rfl, ?_⟩) (by assumption) ?_
                  rotate_left 1
                  · intro w hSw
                    (try dsimp only at hSw)
                    go_simp
                    try with_reducible rfl
                  try simp only [Act.put]
                  refine wpAnyH_take (i := 2) (v := ?_) rfl (by kernel_rfl) (by kernel_rfl) (by kernel_rfl) (fun _ _ _ h => h) (Or.inl ⟨by rfl, ?_⟩) (by assumption) ?_
                  rotate_left 1
                  · intro w hSw
                    (try dsimp only at hSw)
                    go_simp
                    try with_reducible rfl
                  try simp only [Act.put]
                  refine wpAnyH_take (i := 3) (v := ?_) rfl (by kernel_rfl) (by kernel_rfl) (by kernel_rfl) (fun _ _ _ h => h) (Or.inl ⟨by rfl, ?_⟩) (by assumption) ?_
                  rotate_left 1
                  · intro w hSw
                    (try dsimp only at hSw)
                    go_simp
                    try with_reducible rfl
                  try simp only [Act.put]
                  refine wpAnyH_take (i := 4) (v := ?_) rfl (by kernel_rfl) (by kernel_rfl) (by kernel_rfl) (fun _ _ _ h => h) (Or.inl ⟨by rfl, ?_⟩) (by assumption) ?_
                  rotate_left 1
                  · intro w hSw
                    (try dsimp only at hSw)
                    go_simp
                    try with_reducible rfl
                  try simp only [Act.put]
                  refine wpAnyH_take (i := 5) (v := ?_) rfl (by kernel_rfl) (by kernel_rfl) (by kernel_rfl) (fun _ _ _ h => h) (Or.inl ⟨by rfl, ?_⟩) (by assumption) ?_
                  rotate_left 1
                  · intro w hSw
                    (try dsimp only at hSw)
                    go_simp
                    try with_reducible rfl
                  try simp only [Act.put]
                  refine wpAnyH_take (i := 6) (v := ?_) rfl (by kernel_rfl) (by kernel_rfl) (by kernel_rfl) (fun _ _ _ h => h) (Or.inl ⟨by rfl, ?_⟩) (by assumption) ?_
                  rotate_left 1
                  · intro w hSw
                    (try dsimp only at hSw)
                    go_simp
                    try with_reducible rfl
                  try simp only [Act.put]
                  refine wpAnyH_take (i := 7) (v := ?_) rfl (by kernel_rfl) (by kernel_rfl) (by kernel_rfl) (fun _ _ _ h => h) (Or.inl ⟨by rfl, ?_⟩) (by assumption) ?_
                  rotate_left 1
                  · intro w hSw
                    (try dsimp only at hSw)
                    go_simp
                    try with_reducible rfl
                  try simp only [Act.put]
                  refine wpAnyH_take (i := 8) (v := ?_) rfl (by kernel_rfl) (by kernel_rfl) (by kernel_rfl) (fun _ _ _ h => h) (Or.inl ⟨by rfl, ?_⟩) (by assumption) ?_
                  rotate_left 1
                  · intro w hSw
                    (try dsimp only at hSw)
                    go_simp
                    try with_reducible rfl
                  try simp only [Act.put]
                  refine wpAnyH_done (by kernel_rfl) ?_ _
                  go_wp2
                  go_meet
                  exact ⟨rfl, (Nx.refl _).drew⟩
                case rest =>
                  obtain ⟨rfl, hx2⟩ := hcut
                  have HSY := hide (HSY.out.step hx2)
                  have hexl := lt_of_heap HEY.out
                  have HEY := hide ((hx2.block ex hexl).trans HEY.out)
                  have HNY := hide ((FrE.nx (a := a) HGQ.out hx2) ex hexb hexl HNY.out).2
                  clear k0 m2 m3 m4 m5 d1
                  generalize wc = wv at *
                  have k2 := HSY.out.hbt
                  have t3 : wv.cell? ⟨a.T, 3, none⟩ = some (.slice (some ⟨a.gF, 0, none⟩) nn nn) := (cell_of_row wv _ 3 _ _ _ HSY.out.hTb).trans rfl
                  have t4 : wv.cell? ⟨a.T, 4, none⟩ = some (.slice (some ⟨a.gL, 0, none⟩) nn nn) := (cell_of_row wv _ 4 _ _ _ HSY.out.hTb).trans rfl
                  have x5 : wv.cell? ⟨a.gF, nd, none⟩ = some (.int .i64 (gi st.first nd)) := intRow_cell HSY.out.hF (i := nd) (by rw [HSY.out.lF]; exact hnlt)
                  have x6 : wv.cell? ⟨a.gL, nd, none⟩ = some (.int .i64 (gi st.last nd)) := intRow_cell HSY.out.hL (i := nd) (by rw [HSY.out.lL]; exact hnlt)
                  have f5 := frozen_blkQ (j := nd) HSY.out.hF
                  have f6 := frozen_blkQ (j := nd) HSY.out.hL
                  have d0 : wv.cell? ⟨ex, 0, none⟩ = some (.int .i64 x.at_) := (cell_of_row wv _ 0 _ _ _ HEY.out).trans rfl
                  have d1 : wv.cell? ⟨ex, 1, none⟩ = some (.int .i64 (x.arc : Int)) := (cell_of_row wv _ 1 _ _ _ HEY.out).trans rfl
                  have j1 : (0 : Int) ≤ (nd : Int) := by omega
                  have j2 : (nd : Int) < (nn : Int) := by omega
                  have hlF := HSY.out.lo a.gF (by simp)
                  have hlL := HSY.out.lo a.gL (by simp)
                  have hneFL : a.gF ≠ a.gL := by
                    have h := HSY.out.mem.1
                    simp only [memOf, List.map_cons, List.map_nil, List.nodup_cons, List.mem_cons, List.not_mem_nil, or_false, not_or] at h
                    exact h.2.2.2.2.1.1
                  generalize hgf : gi st.first nd = gf at *
                  generalize gi st.last nd = gl at *
                  have HFE := hide (FrE.refl (a := a) (w := wv))
                  have HFL := hide hlF
                  have HLL := hide hlL
                  clear hlF hlL hgf
                  go_upto_if 121 with fail
                  go_cut [137] (fun _ wx2 => SM w wx2 a bm fr nn m ad (markG G st x) ∧ FrE a wv wx2)
                  case first =>
                    go_wp2_with fail
                    ·
                      rename_i hgf0
                      have HMK2 := hide (HMK.out.trans (if_pos hgf0))
                      clear hgf0
                      have hlo := HSY.out.lo
                      have n1 : a.bt ≠ a.gF := by
                        have h := HSY.out.mem.1
                        simp only [memOf, List.map_cons, List.map_nil, List.nodup_cons, List.mem_cons, List.not_mem_nil, or_false, not_or] at h
                        exact h.2.2.1.2.1
                      have n2 : a.bt ≠ a.gL := by
                        have h := HSY.out.mem.1
                        simp only [memOf, List.map_cons, List.map_nil, List.nodup_cons, List.mem_cons, List.not_mem_nil, or_false, not_or] at h
                        exact h.2.2.1.2.2.1
                      have n3 : a.T ≠ a.gF := by
                        have h := HSY.out.mem.1
                        simp only [memOf, List.map_cons, List.map_nil, List.nodup_cons, List.mem_cons, List.not_mem_nil, or_false, not_or] at h
                        exact h.2.1.2.2.1
                      have n4 : a.T ≠ a.gL := by
                        have h := HSY.out.mem.1
                        simp only [memOf, List.map_cons, List.map_nil, List.nodup_cons, List.mem_cons, List.not_mem_nil, or_false, not_or] at h
                        exact h.2.1.2.2.2.1
                      have n5 : ex ≠ a.gF := by have := HFL.out; omega
                      have n6 : ex ≠ a.gL := by have := HLL.out; omega
                      have n7 : a.gL ≠ a.gF := Ne.symm hneFL
                      have hA := (HSY.out.setF nd x.at_).setL nd (x.arc : Int)
                      have hB := (HSY.out.setL nd (x.arc : Int)).setF nd x.at_
                      have HA := hide hA
                      have HB := hide hB
                      have fF := fun (W : World) (i : Nat) (u : Value) => FrE.set (a := a) (w := W) (k := a.gF) (i := i) (u := u) HFL.out.2.1 HFL.out.2.2
                      have fL := fun (W : World) (i : Nat) (u : Value) => FrE.set (a := a) (w := W) (k := a.gL) (i := i) (u := u) HLL.out.2.1 HLL.out.2.2
                      have HfF := hide fF
                      have HfL := hide fL
                      clear hlo hA hB fF fL
                      refine wp_region_held_drew (S := fun w' => w'.cell? ⟨a.bt, 0, none⟩ = some (.pointer (some ⟨a.T, 0, none⟩)) ∧ w'.cell? ⟨a.T, 3, none⟩ = some (.slice (some ⟨a.gF, 0, none⟩) nn nn) ∧ w'.cell? ⟨a.T, 4, none⟩ = some (.slice (some ⟨a.gL, 0, none⟩) nn nn) ∧ w'.cell? ⟨ex, 0, none⟩ = some (.int .i64 x.at_) ∧ w'.cell? ⟨ex, 1, none⟩ = some (.int .i64 (x.arc : Int))) (by kernel_rfl) ?_ (fun hHeld => ?_)
                      · exact ⟨k2, t3, t4, d0, d1⟩
                      refine wpAnyH_take (i := 0) (oi := ⟨some 122, _, _, _, _, _⟩) (v := ?_) rfl (by kernel_rfl) (by kernel_rfl) (by kernel_rfl) (fun _ _ _ h => h) (Or.inl ⟨by rfl, ?_⟩) (by assumption) ?_
                      rotate_left 1
                      · intro w hSw
                        (try dsimp only at hSw)
                        go_simp
                        try with_reducible rfl
                      try simp only [Act.put, List.setIfInBounds_toArray, List.set_cons_zero, List.set_cons_succ]
                      refine wpAnyH_take (i := 1) (oi := ⟨some 123, _, _, _, _, _⟩) (v := ?_) rfl (by kernel_rfl) (by kernel_rfl) (by kernel_rfl) (fun _ _ _ h => h) (Or.inl ⟨by rfl, ?_⟩) (by assumption) ?_
                      rotate_left 1
                      · intro w hSw
                        (try dsimp only at hSw)
                        go_simp
                        try with_reducible rfl
                      try simp only [Act.put, List.setIfInBounds_toArray, List.set_cons_zero, List.set_cons_succ]
                      refine wpAnyH_take (i := 2) (oi := ⟨some 124, _, _, _, _, _⟩) (v := ?_) rfl (by kernel_rfl) (by kernel_rfl) (by kernel_rfl) (fun _ _ _ h => h) (Or.inl ⟨by rfl, ?_⟩) (by assumption) ?_
                      rotate_left 1
                      · intro w hSw
                        (try dsimp only at hSw)
                        go_simp
                        try with_reducible rfl
                      try simp only [Act.put, List.setIfInBounds_toArray, List.set_cons_zero, List.set_cons_succ]
                      refine wpAnyH_take (i := 3) (oi := ⟨some 125, _, _, _, _, _⟩) (v := ?_) rfl (by kernel_rfl) (by kernel_rfl) (by kernel_rfl) (fun _ _ _ h => h) (Or.inl ⟨by rfl, ?_⟩) (by assumption) ?_
                      rotate_left 1
                      · intro w hSw
                        (try dsimp only at hSw)
                        go_simp
                        try with_reducible rfl
                      try simp only [Act.put, List.setIfInBounds_toArray, List.set_cons_zero, List.set_cons_succ]
                      refine wpAnyH_take (i := 4) (oi := ⟨some 126, _, _, _, _, _⟩) (v := ?_) rfl (by kernel_rfl) (by kernel_rfl) (by kernel_rfl) (fun _ _ _ h => h) (Or.inl ⟨by rfl, ?_⟩) (by assumption) ?_
                      rotate_left 1
                      · intro w hSw
                        (try dsimp only at hSw)
                        go_simp
                        try with_reducible rfl
                      try simp only [Act.put, List.setIfInBounds_toArray, List.set_cons_zero, List.set_cons_succ]
                      refine wpAnyH_take (i := 5) (oi := ⟨some 127, _, _, _, _, _⟩) (v := ?_) rfl (by kernel_rfl) (by kernel_rfl) (by kernel_rfl) (fun _ _ _ h => h) (Or.inl ⟨by rfl, ?_⟩) (by assumption) ?_
                      rotate_left 1
                      · intro w hSw
                        (try dsimp only at hSw)
                        go_simp
                        try with_reducible rfl
                      try simp only [Act.put, List.setIfInBounds_toArray, List.set_cons_zero, List.set_cons_succ]
                      refine wpAnyH_take (i := 6) (oi := ⟨some 128, _, _, _, _, _⟩) (v := ?_) rfl (by kernel_rfl) (by kernel_rfl) (by kernel_rfl) (fun _ _ _ h => h) (Or.inl ⟨by rfl, ?_⟩) (by assumption) ?_
                      rotate_left 1
                      · intro w hSw
                        (try dsimp only at hSw)
                        go_simp
                        try with_reducible rfl
                      try simp only [Act.put, List.setIfInBounds_toArray, List.set_cons_zero, List.set_cons_succ]
                      refine wpAnyH_take (i := 7) (oi := ⟨some 129, _, _, _, _, _⟩) (v := ?_) rfl (by kernel_rfl) (by kernel_rfl) (by kernel_rfl) (fun _ _ _ h => h) (Or.inl ⟨by rfl, ?_⟩) (by assumption) ?_
                      rotate_left 1
                      · intro w hSw
                        (try dsimp only at hSw)
                        go_simp
                        try with_reducible rfl
                      try simp only [Act.put, List.setIfInBounds_toArray, List.set_cons_zero, List.set_cons_succ]
                      refine wpAnyH_take (i := 8) (oi := ⟨some 130, _, _, _, _, _⟩) (v := ?_) rfl (by kernel_rfl) (by kernel_rfl) (by kernel_rfl) (fun _ _ _ h => h) (Or.inl ⟨by rfl, ?_⟩) (by assumption) ?_
                      rotate_left 1
                      · intro w hSw
                        (try dsimp only at hSw)
                        go_simp
                        try with_reducible rfl
                      try simp only [Act.put, List.setIfInBounds_toArray, List.set_cons_zero, List.set_cons_succ]
                      refine wpAnyH_take (i := 9) (oi := ⟨some 131, _, _, _, _, _⟩) (v := ?_) rfl (by kernel_rfl) (by kernel_rfl) (by kernel_rfl) (fun _ _ _ h => h) (Or.inl ⟨by rfl, ?_⟩) (by assumption) ?_
                      rotate_left 1
                      · intro w hSw
                        (try dsimp only at hSw)
                        go_simp
                        try with_reducible rfl
                      try simp only [Act.put, List.setIfInBounds_toArray, List.set_cons_zero, List.set_cons_succ]
                      refine wpAnyH_take (i := 10) (oi := ⟨some 132, _, _, _, _, _⟩) (v := ?_) rfl (by kernel_rfl) (by kernel_rfl) (by kernel_rfl) (fun _ _ _ h => h) (Or.inl ⟨by rfl, ?_⟩) (by assumption) ?_
                      rotate_left 1
                      · intro w hSw
                        (try dsimp only at hSw)
                        go_simp
                        try with_reducible rfl
                      try simp only [Act.put, List.setIfInBounds_toArray, List.set_cons_zero, List.set_cons_succ]
                      refine wpAnyH_take (i := 11) (oi := ⟨some 133, _, _, _, _, _⟩) (v := ?_) rfl (by kernel_rfl) (by kernel_rfl) (by kernel_rfl) (fun _ _ _ h => h) (Or.inl ⟨by rfl, ?_⟩) (by assumption) ?_
                      rotate_left 1
                      · intro w hSw
                        (try dsimp only at hSw)
                        go_simp
                        try with_reducible rfl
                      try simp only [Act.put, List.setIfInBounds_toArray, List.set_cons_zero, List.set_cons_succ]
                      refine wpAnyH_take (i := 12) (oi := ⟨some 134, _, _, _, _, _⟩) (v := ?_) rfl (by kernel_rfl) (by kernel_rfl) (by kernel_rfl) (fun _ _ _ h => h) (Or.inl ⟨by rfl, ?_⟩) (by assumption) ?_
                      rotate_left 1
                      · intro w hSw
                        (try dsimp only at hSw)
                        go_simp
                        try with_reducible rfl
                      try simp only [Act.put, List.setIfInBounds_toArray, List.set_cons_zero, List.set_cons_succ]
                      refine wpAnyH_take (i := 13) (oi := ⟨some 135, _, _, _, _, _⟩) (v := ?_) rfl (by kernel_rfl) (by kernel_rfl) (by kernel_rfl) (fun _ _ _ h => h) (Or.inl ⟨by rfl, ?_⟩) (by assumption) ?_
                      rotate_left 1
                      · intro w hSw
                        (try dsimp only at hSw)
                        go_simp
                        try with_reducible rfl
                      try simp only [Act.put, List.setIfInBounds_toArray, List.set_cons_zero, List.set_cons_succ]
                      refine wpAnyH_take (i := 14) (oi := ⟨some 136, _, _, _, _, _⟩) (v := ?_) rfl (by kernel_rfl) (by kernel_rfl) (by kernel_rfl) (fun _ _ _ h => h) (Or.inl ⟨by rfl, ?_⟩) (by assumption) ?_
                      rotate_left 1
                      · intro w hSw
                        (try dsimp only at hSw)
                        go_simp
                        try with_reducible rfl
                      try simp only [Act.put, List.setIfInBounds_toArray, List.set_cons_zero, List.set_cons_succ]
                      refine wpAnyH_ready (rs := [15]) (by kernel_rfl) (by simp) ?_
                      refine AllReadyH.cons rfl (fun K hK => ?_) ?_
                      · go_simp
                        refine hK.out _ _ (by refine ⟨?_, ?_, ?_, ?_, ?_⟩ <;> first | exact (cell_set (by assumption)).trans k2 | exact (cell_set (by assumption)).trans t3 | exact (cell_set (by assumption)).trans t4 | exact (cell_set (by assumption)).trans d0 | exact (cell_set (by assumption)).trans d1 | exact (cell_set (by assumption)).trans ((cell_set (by assumption)).trans k2) | exact (cell_set (by assumption)).trans ((cell_set (by assumption)).trans t3) | exact (cell_set (by assumption)).trans ((cell_set (by assumption)).trans t4) | exact (cell_set (by assumption)).trans ((cell_set (by assumption)).trans d0) | exact (cell_set (by assumption)).trans ((cell_set (by assumption)).trans d1)) (fun hHeld => ?_)
                        clear hK K
                        try simp only [Act.put, List.setIfInBounds_toArray, List.set_cons_zero, List.set_cons_succ]
                        refine wpAnyH_take (i := 16) (oi := ⟨some 137, _, _, _, _, _⟩) (v := ?_) rfl (by kernel_rfl) (by kernel_rfl) (by kernel_rfl) (fun _ _ _ h => h) (Or.inl ⟨by rfl, ?_⟩) (by assumption) ?_
                        rotate_left 1
                        · intro w hSw
                          (try dsimp only at hSw)
                          go_simp
                          try with_reducible rfl
                        try simp only [Act.put, List.setIfInBounds_toArray, List.set_cons_zero, List.set_cons_succ]
                        refine wpAnyH_ready (rs := [17]) (by kernel_rfl) (by simp) ?_
                        refine AllReadyH.cons rfl (fun K hK => ?_) ?_
                        · go_simp
                          refine hK.out _ _ (by refine ⟨?_, ?_, ?_, ?_, ?_⟩ <;> first | exact (cell_set (by assumption)).trans k2 | exact (cell_set (by assumption)).trans t3 | exact (cell_set (by assumption)).trans t4 | exact (cell_set (by assumption)).trans d0 | exact (cell_set (by assumption)).trans d1 | exact (cell_set (by assumption)).trans ((cell_set (by assumption)).trans k2) | exact (cell_set (by assumption)).trans ((cell_set (by assumption)).trans t3) | exact (cell_set (by assumption)).trans ((cell_set (by assumption)).trans t4) | exact (cell_set (by assumption)).trans ((cell_set (by assumption)).trans d0) | exact (cell_set (by assumption)).trans ((cell_set (by assumption)).trans d1)) (fun hHeld => ?_)
                          clear hK K
                          try simp only [Act.put, List.setIfInBounds_toArray, List.set_cons_zero, List.set_cons_succ]
                          refine wpAnyH_done (by kernel_rfl) ?_ _
                          go_wp2
                          go_meet
                          rw [HMK2.out]
                          first | exact ⟨HA.out, (HfF.out _ _ _).trans (HfL.out _ _ _)⟩ | exact ⟨HA.out.step (Nx.refl _).drew, ((HfF.out _ _ _).trans (HfL.out _ _ _)).drew⟩
                        · exact AllReadyH.nil
                      · exact AllReadyH.nil
                    · rename_i hgf0
                      have HMK2 := hide (HMK.out.trans (if_neg (by omega)))
                      go_meet
                      rw [HMK2.out]
                      exact ⟨HSY.out, FrE.refl⟩
                  case rest =>
                    obtain ⟨hSM, hFR⟩ := hcut
                    generalize wc = wm at *
                    have HSM := hide hSM
                    have hexl := lt_of_heap HEY.out
                    obtain ⟨q1, q2⟩ := hFR ex hexb hexl HNY.out
                    have HEM := hide (q1.trans HEY.out)
                    have HNM := hide q2
                    clear hSM hFR q1 q2 k2 t3 t4 x5 x6 f5 f6 d0 d1 HEY HNY HSY
                    obtain ⟨Ao, co, hoc, hoR⟩ := HOX.out nd hnlt
                    have HOLn := hide (fun k hk => HG.out.outs_lt nd k hk)
                    have HOLL := hide (HG.out.outs_len nd)
                    have hnl2 : (G.outs nd).length ≤ m := by have := HOLL.out; rw [HGM.out] at this; exact this
                    have ho : wm.cell? ⟨M.bo, nd, none⟩ = some (.slice Ao (G.outs nd).length co) := nx_cell HSM.out.nx HBL.out hoc
                    have HOR := hide hoR
                    have k0 := HSM.out.hbx
                    obtain ⟨m2, m3, m4, m5⟩ := HMAP.out wm HSM.out.nx
                    have d1 : wm.cell? ⟨ex, 1, none⟩ = some (.int .i64 (x.arc : Int)) := (cell_of_row wm _ 1 _ _ _ HEM.out).trans rfl
                    have HPOP2 := hide (show popG G st = (G.outs nd).foldl (onG G x.arc x.at_) (markG G st x) by rw [HPOP.out])
                    generalize hol : G.outs nd = ol at *
                    generalize hnl3 : ol.length = nl at *
                    have HNL := hide hnl3
                    have HLF := hide (fun l => fold_qlen (g := G) x.arc x.at_ l (markG G st x))
                    have HMQ := hide (show (markG G st x).q.length ≤ st.q.length by
                      have := hrest_len st.q
                      unfold markG
                      split <;> (show (hrest st.q).length ≤ _; omega))
                    generalize markG G st x = mk at *
                    clear hoc hoR hol hnl3 HPOP hexl
                    go_wp2_with fail
                    go_cut [151, 152, 153] (fun v0 v1 v2 wx2 => v0 = .slice Ao nl co ∧ v1 = .int .i64 (nl : Int) ∧ v2 = .int .i64 0 ∧ Nx wm wx2)
                    case first =>
                      refine wp_region_held_drew (S := fun w' => w'.cell? ⟨a.bx, 0, none⟩ = some (.pointer (some ⟨bm, 0, none⟩)) ∧ w'.cell? ⟨bm, 2, none⟩ = some (.slice (some ⟨bT, oT, none⟩) m M.cT) ∧ w'.cell? ⟨bm, 3, none⟩ = some (.slice (some ⟨M.bo, 0, none⟩) nn nn) ∧ w'.cell? ⟨ex, 1, none⟩ = some (.int .i64 (x.arc : Int)) ∧ w'.cell? ⟨bT, oT + x.arc, none⟩ = some (.int .i64 (nd : Int)) ∧ w'.cell? ⟨M.bo, nd, none⟩ = some (.slice Ao nl co)) (by kernel_rfl) ?_ (fun hHeld => ?_)
                      · exact ⟨k0, m2, m3, d1, m5, ho⟩
                      refine wpAnyH_take (i := 0) (oi := ⟨some 138, _, _, _, _, _⟩) (v := ?_) rfl (by kernel_rfl) (by kernel_rfl) (by kernel_rfl) (fun _ _ _ h => h) (Or.inl ⟨by rfl, ?_⟩) (by assumption) ?_
                      rotate_left 1
                      · intro w hSw
                        (try dsimp only at hSw)
                        go_simp
                        try with_reducible rfl
                      try simp only [Act.put, List.setIfInBounds_toArray, List.set_cons_zero, List.set_cons_succ]
                      refine wpAnyH_take (i := 1) (oi := ⟨some 139, _, _, _, _, _⟩) (v := ?_) rfl (by kernel_rfl) (by kernel_rfl) (by kernel_rfl) (fun _ _ _ h => h) (Or.inl ⟨by rfl, ?_⟩) (by assumption) ?_
                      rotate_left 1
                      · intro w hSw
                        (try dsimp only at hSw)
                        go_simp
                        try with_reducible rfl
                      try simp only [Act.put, List.setIfInBounds_toArray, List.set_cons_zero, List.set_cons_succ]
                      refine wpAnyH_take (i := 2) (oi := ⟨some 140, _, _, _, _, _⟩) (v := ?_) rfl (by kernel_rfl) (by kernel_rfl) (by kernel_rfl) (fun _ _ _ h => h) (Or.inl ⟨by rfl, ?_⟩) (by assumption) ?_
                      rotate_left 1
                      · intro w hSw
                        (try dsimp only at hSw)
                        go_simp
                        try with_reducible rfl
                      try simp only [Act.put, List.setIfInBounds_toArray, List.set_cons_zero, List.set_cons_succ]
                      refine wpAnyH_take (i := 3) (oi := ⟨some 141, _, _, _, _, _⟩) (v := ?_) rfl (by kernel_rfl) (by kernel_rfl) (by kernel_rfl) (fun _ _ _ h => h) (Or.inl ⟨by rfl, ?_⟩) (by assumption) ?_
                      rotate_left 1
                      · intro w hSw
                        (try dsimp only at hSw)
                        go_simp
                        try with_reducible rfl
                      try simp only [Act.put, List.setIfInBounds_toArray, List.set_cons_zero, List.set_cons_succ]
                      refine wpAnyH_take (i := 4) (oi := ⟨some 142, _, _, _, _, _⟩) (v := ?_) rfl (by kernel_rfl) (by kernel_rfl) (by kernel_rfl) (fun _ _ _ h => h) (Or.inl ⟨by rfl, ?_⟩) (by assumption) ?_
                      rotate_left 1
                      · intro w hSw
                        (try dsimp only at hSw)
                        go_simp
                        try with_reducible rfl
                      try simp only [Act.put, List.setIfInBounds_toArray, List.set_cons_zero, List.set_cons_succ]
                      refine wpAnyH_take (i := 5) (oi := ⟨some 143, _, _, _, _, _⟩) (v := ?_) rfl (by kernel_rfl) (by kernel_rfl) (by kernel_rfl) (fun _ _ _ h => h) (Or.inl ⟨by rfl, ?_⟩) (by assumption) ?_
                      rotate_left 1
                      · intro w hSw
                        (try dsimp only at hSw)
                        go_simp
                        try with_reducible rfl
                      try simp only [Act.put, List.setIfInBounds_toArray, List.set_cons_zero, List.set_cons_succ]
                      refine wpAnyH_take (i := 6) (oi := ⟨some 144, _, _, _, _, _⟩) (v := ?_) rfl (by kernel_rfl) (by kernel_rfl) (by kernel_rfl) (fun _ _ _ h => h) (Or.inl ⟨by rfl, ?_⟩) (by assumption) ?_
                      rotate_left 1
                      · intro w hSw
                        (try dsimp only at hSw)
                        go_simp
                        try with_reducible rfl
                      try simp only [Act.put, List.setIfInBounds_toArray, List.set_cons_zero, List.set_cons_succ]
                      refine wpAnyH_take (i := 7) (oi := ⟨some 145, _, _, _, _, _⟩) (v := ?_) rfl (by kernel_rfl) (by kernel_rfl) (by kernel_rfl) (fun _ _ _ h => h) (Or.inl ⟨by rfl, ?_⟩) (by assumption) ?_
                      rotate_left 1
                      · intro w hSw
                        (try dsimp only at hSw)
                        go_simp
                        try with_reducible rfl
                      try simp only [Act.put, List.setIfInBounds_toArray, List.set_cons_zero, List.set_cons_succ]
                      refine wpAnyH_take (i := 8) (oi := ⟨some 146, _, _, _, _, _⟩) (v := ?_) rfl (by kernel_rfl) (by kernel_rfl) (by kernel_rfl) (fun _ _ _ h => h) (Or.inl ⟨by rfl, ?_⟩) (by assumption) ?_
                      rotate_left 1
                      · intro w hSw
                        (try dsimp only at hSw)
                        go_simp
                        try with_reducible rfl
                      try simp only [Act.put, List.setIfInBounds_toArray, List.set_cons_zero, List.set_cons_succ]
                      refine wpAnyH_take (i := 9) (oi := ⟨some 147, _, _, _, _, _⟩) (v := ?_) rfl (by kernel_rfl) (by kernel_rfl) (by kernel_rfl) (fun _ _ _ h => h) (Or.inl ⟨by rfl, ?_⟩) (by assumption) ?_
                      rotate_left 1
                      · intro w hSw
                        (try dsimp only at hSw)
                        go_simp
                        try with_reducible rfl
                      try simp only [Act.put, List.setIfInBounds_toArray, List.set_cons_zero, List.set_cons_succ]
                      refine wpAnyH_take (i := 10) (oi := ⟨some 148, _, _, _, _, _⟩) (v := ?_) rfl (by kernel_rfl) (by kernel_rfl) (by kernel_rfl) (fun _ _ _ h => h) (Or.inl ⟨by rfl, ?_⟩) (by assumption) ?_
                      rotate_left 1
                      · intro w hSw
                        (try dsimp only at hSw)
                        go_simp
                        try with_reducible rfl
                      try simp only [Act.put, List.setIfInBounds_toArray, List.set_cons_zero, List.set_cons_succ]
                      refine wpAnyH_take (i := 11) (oi := ⟨some 149, _, _, _, _, _⟩) (v := ?_) rfl (by kernel_rfl) (by kernel_rfl) (by kernel_rfl) (fun _ _ _ h => h) (Or.inl ⟨by rfl, ?_⟩) (by assumption) ?_
                      rotate_left 1
                      · intro w hSw
                        (try dsimp only at hSw)
                        go_simp
                        try with_reducible rfl
                      try simp only [Act.put, List.setIfInBounds_toArray, List.set_cons_zero, List.set_cons_succ]
                      refine wpAnyH_take (i := 12) (oi := ⟨some 150, _, _, _, _, _⟩) (v := ?_) rfl (by kernel_rfl) (by kernel_rfl) (by kernel_rfl) (fun _ _ _ h => h) (Or.inl ⟨by rfl, ?_⟩) (by assumption) ?_
                      rotate_left 1
                      · intro w hSw
                        (try dsimp only at hSw)
                        go_simp
                        try with_reducible rfl
                      try simp only [Act.put, List.setIfInBounds_toArray, List.set_cons_zero, List.set_cons_succ]
                      refine wpAnyH_take (i := 13) (oi := ⟨some 151, _, _, _, _, _⟩) (v := ?_) rfl (by kernel_rfl) (by kernel_rfl) (by kernel_rfl) (fun _ _ _ h => h) (Or.inl ⟨by rfl, ?_⟩) (by assumption) ?_
                      rotate_left 1
                      · intro w hSw
                        (try dsimp only at hSw)
                        go_simp
                        try with_reducible rfl
                      try simp only [Act.put, List.setIfInBounds_toArray, List.set_cons_zero, List.set_cons_succ]
                      refine wpAnyH_take (i := 14) (oi := ⟨some 152, _, _, _, _, _⟩) (v := ?_) rfl (by kernel_rfl) (by kernel_rfl) (by kernel_rfl) (fun _ _ _ h => h) (Or.inl ⟨by rfl, ?_⟩) (by assumption) ?_
                      rotate_left 1
                      · intro w hSw
                        (try dsimp only at hSw)
                        go_simp
                        try with_reducible rfl
                      try simp only [Act.put, List.setIfInBounds_toArray, List.set_cons_zero, List.set_cons_succ]
                      refine wpAnyH_take (i := 15) (oi := ⟨some 153, _, _, _, _, _⟩) (v := ?_) rfl (by kernel_rfl) (by kernel_rfl) (by kernel_rfl) (fun _ _ _ h => h) (Or.inl ⟨by rfl, ?_⟩) (by assumption) ?_
                      rotate_left 1
                      · intro w hSw
                        (try dsimp only at hSw)
                        go_simp
                        try with_reducible rfl
                      try simp only [Act.put, List.setIfInBounds_toArray, List.set_cons_zero, List.set_cons_succ]
                      refine wpAnyH_done (by kernel_rfl) ?_ _
                      go_wp2
                      go_meet
                      exact ⟨rfl, rfl, rfl, (Nx.refl _).drew⟩
                    case rest =>
                      obtain ⟨rfl, rfl, rfl, hx3⟩ := hcut
                      have HSZ := hide (HSM.out.step hx3)
                      have hexl := lt_of_heap HEM.out
                      have HGQ2 := hide (show a.gq < wm.heap.size by have := HSM.out.nx.sz; obtain ⟨_, hq1, _⟩ := HSM.out.q; exact lt_of_heap hq1)
                      have HEZ := hide ((hx3.block ex hexl).trans HEM.out)
                      clear k0 m2 m3 m4 m5 d1 ho
                      go_wp2_with fail
                      go_loopw [153] (fun i wr => ∃ k : Nat, k ≤ nl ∧ i = .int .i64 k ∧ SM w wr a bm fr nn m ad ((ol.take k).foldl (onG G x.arc x.at_) mk) ∧ wr.heap[ex]? = some (.cells #[.int .i64 x.at_, .int .i64 (x.arc : Int)] 234 (0, 0)) ∧ NotOwn a.gq ex wr) (fun i _ => nl - (intOf i).toNat)
                      case atStart => exact ⟨0, Nat.zero_le _, rfl, HSZ.out, HEZ.out, ((FrE.nx (a := a) HGQ2.out hx3) ex hexb hexl HNM.out).2⟩
                      case round =>
                        clear HSZ HEZ HSM HEM HNM hexl hx3 HGQ2
                        obtain ⟨k, hk, rfl, hS3, hE3, hN3⟩ := hrel
                        have HS3 := hide hS3
                        have HE3 := hide hE3
                        have HN3 := hide hN3
                        clear hS3 hE3 hN3
                        by_cases hlt : k < nl
                        · have hkl : k < ol.length := by have := HNL.out; omega
                          have hki : k < (intsOf ol).length := by unfold intsOf; simpa using hkl
                          obtain ⟨b, off, rfl, _, hb, hbr, hc⟩ := HOR.out.open_ HS3.out.nx (by omega)
                          have c0 : wr.cell? ⟨b, off + k, none⟩ = some (.int .i64 (ol[k] : Int)) := by
                            have := hc k hki 0 _ rfl
                            have e : (intsOf ol)[k] = (ol[k] : Int) := by simp [intsOf]
                            rw [e] at this
                            simpa using this
                          have HTK := hide (show (ol.take (k + 1)).foldl (onG G x.arc x.at_) mk = onG G x.arc x.at_ ((ol.take k).foldl (onG G x.arc x.at_) mk) ol[k] by rw [List.take_succ_eq_append_getElem hkl, List.foldl_append]; rfl)
                          have hom := HOLn.out ol[k] (List.getElem_mem hkl)
                          rw [HGM.out] at hom
                          have hql := (HLF.out (ol.take k)).1
                          rw [List.length_take] at hql
                          have hmq := HMQ.out
                          have hqb : ((ol.take k).foldl (onG G x.arc x.at_) mk).q.length < 1000000 := by omega
                          have HQB := hide hqb
                          clear hc hql hmq hqb
                          generalize (ol.take k).foldl (onG G x.arc x.at_) mk = s3 at *
                          generalize ol[k] = kk at *
                          have hDk := boolRow_cell HS3.out.hD (i := kk) (by rw [HS3.out.lD]; exact hom)
                          have HON := hide (show onG G x.arc x.at_ s3 kk = if gb s3.done kk = false ∧ G.ban x.arc kk = false then enterG G s3 kk (x.arc : Int) x.at_ else s3 from rfl)
                          have k0 := HS3.out.hbx
                          obtain ⟨_, _, m4, _⟩ := HMAP.out wr HS3.out.nx
                          have d0 : wr.cell? ⟨ex, 0, none⟩ = some (.int .i64 x.at_) := (cell_of_row wr _ 0 _ _ _ HE3.out).trans rfl
                          have d1 : wr.cell? ⟨ex, 1, none⟩ = some (.int .i64 (x.arc : Int)) := (cell_of_row wr _ 1 _ _ _ HE3.out).trans rfl
                          have l1 : (0 : Int) ≤ (kk : Int) := by omega
                          have l2 : (kk : Int) < (m : Int) := by omega
                          have l3 : (0 : Int) ≤ (k : Int) := by omega
                          have l4 : (k : Int) < (nl : Int) := by omega
                          obtain ⟨lb, hlb⟩ := key_pair ((x.arc : Int), (kk : Int)) ⟨wf_i64o.2 ⟨by show _ ≤ (x.arc : Int); omega, by show (x.arc : Int) ≤ _; omega⟩, wf_i64o.2 ⟨by show _ ≤ (kk : Int); omega, by show (kk : Int) ≤ _; omega⟩⟩
                          obtain ⟨bnv, hbnv⟩ : ∃ v, v = G.ban x.arc kk := ⟨_, rfl⟩
                          have HLB := hide (fun W (hx : Nx w W) => (show (Instr.lookup 221 (.map (some M.b4)) (.agg #[.int .i64 (x.arc : Int), .int .i64 (kk : Int)]) false).run Tryz.prog W = .ok (.bool bnv) W by
                            have h := ((HM.out.m4.nx hx).look boolR law_pair Tryz.underlying221 (z := false) trivial (zeroBoolR _) (k := ((x.arc : Int), (kk : Int))) ⟨wf_i64o.2 ⟨by show _ ≤ (x.arc : Int); omega, by show (x.arc : Int) ≤ _; omega⟩, wf_i64o.2 ⟨by show _ ≤ (kk : Int); omega, by show (kk : Int) ≤ _; omega⟩⟩ hlb).1
                            rw [HMN.out x.arc kk (by omega) (by omega), ← hbnv] at h
                            exact h))
                          rw [← hbnv] at HON
                          have HEE := hide (fun W (hx : Nx wr W) => HEN.out W s3 kk (x.arc : Int) x.at_ (HS3.out.step hx) hom ⟨by omega, hxe2⟩ HQB.out)
                          have hLB := HLB.out wr.drew (HS3.out.nx.drew)
                          clear hlb hbnv
                          generalize gb s3.done kk = dk at *
                          go_wp2_with fail
                          clear c0
                          go_cut [173] (fun v wx2 => v = .bool (!dk && !bnv) ∧ Nx wr wx2)
                          case first =>
                            cases dk
                            · refine wp_region_held_drew (S := fun w' => w'.cell? ⟨a.gD, kk, none⟩ = some (.bool false) ∧ w'.cell? ⟨a.bx, 0, none⟩ = some (.pointer (some ⟨bm, 0, none⟩)) ∧ w'.cell? ⟨bm, 4, none⟩ = some (.map (some M.b4)) ∧ w'.cell? ⟨ex, 1, none⟩ = some (.int .i64 (x.arc : Int)) ∧ (Instr.lookup 221 (.map (some M.b4)) (.agg #[.int .i64 (x.arc : Int), .int .i64 (kk : Int)]) false).run Tryz.prog w' = .ok (.bool bnv) w') (by kernel_rfl) ?_ (fun hHeld => ?_)
                              · exact ⟨hDk, k0, m4, d1, hLB⟩
                              refine wpAnyH_take (i := 0) (oi := ⟨some 157, _, _, _, _, _⟩) (v := ?_) rfl (by kernel_rfl) (by kernel_rfl) (by kernel_rfl) (fun _ _ _ h => h) (Or.inl ⟨by rfl, ?_⟩) (by assumption) ?_
                              rotate_left 1
                              · intro w hSw
                                (try dsimp only at hSw)
                                go_simp
                                try with_reducible rfl
                              try simp only [Act.put, List.setIfInBounds_toArray, List.set_cons_zero, List.set_cons_succ]
                              refine wpAnyH_take (i := 1) (oi := ⟨some 158, _, _, _, _, _⟩) (v := ?_) rfl (by kernel_rfl) (by kernel_rfl) (by kernel_rfl) (fun _ _ _ h => h) (Or.inl ⟨by rfl, ?_⟩) (by assumption) ?_
                              rotate_left 1
                              · intro w hSw
                                (try dsimp only at hSw)
                                go_simp
                                try with_reducible rfl
                              try simp only [Act.put, List.setIfInBounds_toArray, List.set_cons_zero, List.set_cons_succ]
                              refine wpAnyH_take (i := 2) (oi := ⟨some 159, _, _, _, _, _⟩) (v := ?_) rfl (by kernel_rfl) (by kernel_rfl) (by kernel_rfl) (fun _ _ _ h => h) (Or.inl ⟨by rfl, ?_⟩) (by assumption) ?_
                              rotate_left 1
                              · intro w hSw
                                (try dsimp only at hSw)
                                go_simp
                                try with_reducible rfl
                              try simp only [Act.put, List.setIfInBounds_toArray, List.set_cons_zero, List.set_cons_succ]
                              refine wpAnyH_take (i := 3) (oi := ⟨some 160, _, _, _, _, _⟩) (v := ?_) rfl (by kernel_rfl) (by kernel_rfl) (by kernel_rfl) (fun _ _ _ h => h) (Or.inl ⟨by rfl, ?_⟩) (by assumption) ?_
                              rotate_left 1
                              · intro w hSw
                                (try dsimp only at hSw)
                                go_simp
                                try with_reducible rfl
                              try simp only [Act.put, List.setIfInBounds_toArray, List.set_cons_zero, List.set_cons_succ]
                              refine wpAnyH_take (i := 4) (oi := ⟨some 161, _, _, _, _, _⟩) (v := ?_) rfl (by kernel_rfl) (by kernel_rfl) (by kernel_rfl) (fun _ _ _ h => h) (Or.inl ⟨by rfl, ?_⟩) (by assumption) ?_
                              rotate_left 1
                              · intro w hSw
                                (try dsimp only at hSw)
                                go_simp
                                try with_reducible rfl
                              try simp only [Act.put, List.setIfInBounds_toArray, List.set_cons_zero, List.set_cons_succ]
                              refine wpAnyH_take (i := 5) (oi := ⟨some 162, _, _, _, _, _⟩) (v := ?_) rfl (by kernel_rfl) (by kernel_rfl) (by kernel_rfl) (fun _ _ _ h => h) (Or.inl ⟨by rfl, ?_⟩) (by assumption) ?_
                              rotate_left 1
                              · intro w hSw
                                (try dsimp only at hSw)
                                go_simp
                                try with_reducible rfl
                              try simp only [Act.put, List.setIfInBounds_toArray, List.set_cons_zero, List.set_cons_succ]
                              refine wpAnyH_take (i := 6) (oi := ⟨some 163, _, _, _, _, _⟩) (v := ?_) rfl (by kernel_rfl) (by kernel_rfl) (by kernel_rfl) (fun _ _ _ h => h) (Or.inl ⟨by rfl, ?_⟩) (by assumption) ?_
                              rotate_left 1
                              · intro w hSw
                                (try dsimp only at hSw)
                                go_simp
                                try with_reducible rfl
                              try simp only [Act.put, List.setIfInBounds_toArray, List.set_cons_zero, List.set_cons_succ]
                              refine wpAnyH_take (i := 7) (oi := ⟨some 164, _, _, _, _, _⟩) (v := ?_) rfl (by kernel_rfl) (by kernel_rfl) (by kernel_rfl) (fun _ _ _ h => h) (Or.inl ⟨by rfl, ?_⟩) (by assumption) ?_
                              rotate_left 1
                              · intro w hSw
                                (try dsimp only at hSw)
                                go_simp
                                try with_reducible rfl
                              try simp only [Act.put, List.setIfInBounds_toArray, List.set_cons_zero, List.set_cons_succ]
                              refine wpAnyH_take (i := 8) (oi := ⟨some 165, _, _, _, _, _⟩) (v := ?_) rfl (by kernel_rfl) (by kernel_rfl) (by kernel_rfl) (fun _ _ _ h => h) (Or.inl ⟨by rfl, ?_⟩) (by assumption) ?_
                              rotate_left 1
                              · intro w hSw
                                (try dsimp only at hSw)
                                go_simp
                                try with_reducible rfl
                              try simp only [Act.put, List.setIfInBounds_toArray, List.set_cons_zero, List.set_cons_succ]
                              refine wpAnyH_take (i := 9) (oi := ⟨some 166, _, _, _, _, _⟩) (v := ?_) rfl (by kernel_rfl) (by kernel_rfl) (by kernel_rfl) (fun _ _ _ h => h) (Or.inl ⟨by rfl, ?_⟩) (by assumption) ?_
                              rotate_left 1
                              · intro w hSw
                                (try dsimp only at hSw)
                                go_simp
                                try with_reducible rfl
                              try simp only [Act.put, List.setIfInBounds_toArray, List.set_cons_zero, List.set_cons_succ]
                              refine wpAnyH_take (i := 10) (oi := ⟨some 167, _, _, _, _, _⟩) (v := ?_) rfl (by kernel_rfl) (by kernel_rfl) (by kernel_rfl) (fun _ _ _ h => h) (Or.inl ⟨by rfl, ?_⟩) (by assumption) ?_
                              rotate_left 1
                              · intro w hSw
                                (try dsimp only at hSw)
                                go_simp
                                try with_reducible rfl
                              try simp only [Act.put, List.setIfInBounds_toArray, List.set_cons_zero, List.set_cons_succ]
                              refine wpAnyH_take (i := 11) (oi := ⟨some 168, _, _, _, _, _⟩) (v := ?_) rfl (by kernel_rfl) (by kernel_rfl) (by kernel_rfl) (fun _ _ _ h => h) (Or.inl ⟨by rfl, ?_⟩) (by assumption) ?_
                              rotate_left 1
                              · intro w hSw
                                (try dsimp only at hSw)
                                go_simp
                                try with_reducible rfl
                              try simp only [Act.put, List.setIfInBounds_toArray, List.set_cons_zero, List.set_cons_succ]
                              refine wpAnyH_take (i := 12) (oi := ⟨some 169, _, _, _, _, _⟩) (v := ?_) rfl (by kernel_rfl) (by kernel_rfl) (by kernel_rfl) (fun _ _ _ h => h) (Or.inl ⟨by rfl, ?_⟩) (by assumption) ?_
                              rotate_left 1
                              · intro w hSw
                                (try dsimp only at hSw)
                                go_simp
                                try with_reducible rfl
                              try simp only [Act.put, List.setIfInBounds_toArray, List.set_cons_zero, List.set_cons_succ]
                              refine wpAnyH_take (i := 13) (oi := ⟨some 170, _, _, _, _, _⟩) (v := ?_) rfl (by kernel_rfl) (by kernel_rfl) (by kernel_rfl) (fun _ _ _ h => h) (Or.inl ⟨by rfl, ?_⟩) (by assumption) ?_
                              rotate_left 1
                              · intro w hSw
                                (try dsimp only at hSw)
                                go_simp
                                try with_reducible rfl
                              try simp only [Act.put, List.setIfInBounds_toArray, List.set_cons_zero, List.set_cons_succ]
                              refine wpAnyH_take (i := 14) (oi := ⟨some 171, _, _, _, _, _⟩) (v := ?_) rfl (by kernel_rfl) (by kernel_rfl) (by kernel_rfl) (fun _ _ _ h => h) (Or.inl ⟨by rfl, ?_⟩) (by assumption) ?_
                              rotate_left 1
                              · intro w hSw
                                (try dsimp only at hSw)
                                go_simp
                                try with_reducible rfl
                              try simp only [Act.put, List.setIfInBounds_toArray, List.set_cons_zero, List.set_cons_succ]
                              refine wpAnyH_take (i := 15) (oi := ⟨some 172, _, _, _, _, _⟩) (v := ?_) rfl (by kernel_rfl) (by kernel_rfl) (by kernel_rfl) (fun _ _ _ h => h) (Or.inl ⟨by rfl, ?_⟩) (by assumption) ?_
                              rotate_left 1
                              · intro w hSw
                                (try dsimp only at hSw)
                                go_simp
                                try with_reducible rfl
                              try simp only [Act.put, List.setIfInBounds_toArray, List.set_cons_zero, List.set_cons_succ]
                              refine wpAnyH_take (i := 16) (oi := ⟨some 173, _, _, _, _, _⟩) (v := ?_) rfl (by kernel_rfl) (by kernel_rfl) (by kernel_rfl) (fun _ _ _ h => h) (Or.inl ⟨by rfl, ?_⟩) (by assumption) ?_
                              rotate_left 1
                              · intro w hSw
                                (try dsimp only at hSw)
                                go_simp
                                try with_reducible rfl
                              try simp only [Act.put, List.setIfInBounds_toArray, List.set_cons_zero, List.set_cons_succ]
                              refine wpAnyH_done (by kernel_rfl) ?_ _
                              go_wp2
                              go_meet
                              exact ⟨rfl, (Nx.refl _).drew⟩
                            · refine wp_region_held_drew (S := fun w' => w'.cell? ⟨a.gD, kk, none⟩ = some (.bool true)) (by kernel_rfl) ?_ (fun hHeld => ?_)
                              · exact hDk
                              refine wpAnyH_take (i := 0) (oi := ⟨some 157, _, _, _, _, _⟩) (v := ?_) rfl (by kernel_rfl) (by kernel_rfl) (by kernel_rfl) (fun _ _ _ h => h) (Or.inl ⟨by rfl, ?_⟩) (by assumption) ?_
                              rotate_left 1
                              · intro w hSw
                                (try dsimp only at hSw)
                                go_simp
                                try with_reducible rfl
                              try simp only [Act.put, List.setIfInBounds_toArray, List.set_cons_zero, List.set_cons_succ]
                              refine wpAnyH_take (i := 1) (oi := ⟨some 158, _, _, _, _, _⟩) (v := ?_) rfl (by kernel_rfl) (by kernel_rfl) (by kernel_rfl) (fun _ _ _ h => h) (Or.inl ⟨by rfl, ?_⟩) (by assumption) ?_
                              rotate_left 1
                              · intro w hSw
                                (try dsimp only at hSw)
                                go_simp
                                try with_reducible rfl
                              try simp only [Act.put, List.setIfInBounds_toArray, List.set_cons_zero, List.set_cons_succ]
                              refine wpAnyH_take (i := 2) (oi := ⟨some 159, _, _, _, _, _⟩) (v := ?_) rfl (by kernel_rfl) (by kernel_rfl) (by kernel_rfl) (fun _ _ _ h => h) (Or.inl ⟨by rfl, ?_⟩) (by assumption) ?_
                              rotate_left 1
                              · intro w hSw
                                (try dsimp only at hSw)
                                go_simp
                                try with_reducible rfl
                              try simp only [Act.put, List.setIfInBounds_toArray, List.set_cons_zero, List.set_cons_succ]
                              refine wpAnyH_take (i := 3) (oi := ⟨some 160, _, _, _, _, _⟩) (v := ?_) rfl (by kernel_rfl) (by kernel_rfl) (by kernel_rfl) (fun _ _ _ h => h) (Or.inl ⟨by rfl, ?_⟩) (by assumption) ?_
                              rotate_left 1
                              · intro w hSw
                                (try dsimp only at hSw)
                                go_simp
                                try with_reducible rfl
                              try simp only [Act.put, List.setIfInBounds_toArray, List.set_cons_zero, List.set_cons_succ]
                              refine wpAnyH_take (i := 4) (oi := ⟨some 161, _, _, _, _, _⟩) (v := ?_) rfl (by kernel_rfl) (by kernel_rfl) (by kernel_rfl) (fun _ _ _ h => h) (Or.inl ⟨by rfl, ?_⟩) (by assumption) ?_
                              rotate_left 1
                              · intro w hSw
                                (try dsimp only at hSw)
                                go_simp
                                try with_reducible rfl
                              try simp only [Act.put, List.setIfInBounds_toArray, List.set_cons_zero, List.set_cons_succ]
                              refine wpAnyH_take (i := 5) (oi := ⟨some 162, _, _, _, _, _⟩) (v := ?_) rfl (by kernel_rfl) (by kernel_rfl) (by kernel_rfl) (fun _ _ _ h => h) (Or.inl ⟨by rfl, ?_⟩) (by assumption) ?_
                              rotate_left 1
                              · intro w hSw
                                (try dsimp only at hSw)
                                go_simp
                                try with_reducible rfl
                              try simp only [Act.put, List.setIfInBounds_toArray, List.set_cons_zero, List.set_cons_succ]
                              refine wpAnyH_take (i := 6) (oi := ⟨some 163, _, _, _, _, _⟩) (v := undef) rfl (by kernel_rfl) (by kernel_rfl) (by kernel_rfl) (fun _ _ _ h => h) (Or.inr ⟨by rfl, rfl⟩) (by assumption) ?_
                              try simp only [Act.put, List.setIfInBounds_toArray, List.set_cons_zero, List.set_cons_succ]
                              refine wpAnyH_take (i := 7) (oi := ⟨some 164, _, _, _, _, _⟩) (v := undef) rfl (by kernel_rfl) (by kernel_rfl) (by kernel_rfl) (fun _ _ _ h => h) (Or.inr ⟨by rfl, rfl⟩) (by assumption) ?_
                              try simp only [Act.put, List.setIfInBounds_toArray, List.set_cons_zero, List.set_cons_succ]
                              refine wpAnyH_take (i := 8) (oi := ⟨some 165, _, _, _, _, _⟩) (v := undef) rfl (by kernel_rfl) (by kernel_rfl) (by kernel_rfl) (fun _ _ _ h => h) (Or.inr ⟨by rfl, rfl⟩) (by assumption) ?_
                              try simp only [Act.put, List.setIfInBounds_toArray, List.set_cons_zero, List.set_cons_succ]
                              refine wpAnyH_take (i := 9) (oi := ⟨some 166, _, _, _, _, _⟩) (v := undef) rfl (by kernel_rfl) (by kernel_rfl) (by kernel_rfl) (fun _ _ _ h => h) (Or.inr ⟨by rfl, rfl⟩) (by assumption) ?_
                              try simp only [Act.put, List.setIfInBounds_toArray, List.set_cons_zero, List.set_cons_succ]
                              refine wpAnyH_take (i := 10) (oi := ⟨some 167, _, _, _, _, _⟩) (v := undef) rfl (by kernel_rfl) (by kernel_rfl) (by kernel_rfl) (fun _ _ _ h => h) (Or.inr ⟨by rfl, rfl⟩) (by assumption) ?_
                              try simp only [Act.put, List.setIfInBounds_toArray, List.set_cons_zero, List.set_cons_succ]
                              refine wpAnyH_take (i := 11) (oi := ⟨some 168, _, _, _, _, _⟩) (v := undef) rfl (by kernel_rfl) (by kernel_rfl) (by kernel_rfl) (fun _ _ _ h => h) (Or.inr ⟨by rfl, rfl⟩) (by assumption) ?_
                              try simp only [Act.put, List.setIfInBounds_toArray, List.set_cons_zero, List.set_cons_succ]
                              refine wpAnyH_take (i := 12) (oi := ⟨some 169, _, _, _, _, _⟩) (v := undef) rfl (by kernel_rfl) (by kernel_rfl) (by kernel_rfl) (fun _ _ _ h => h) (Or.inr ⟨by rfl, rfl⟩) (by assumption) ?_
                              try simp only [Act.put, List.setIfInBounds_toArray, List.set_cons_zero, List.set_cons_succ]
                              refine wpAnyH_take (i := 13) (oi := ⟨some 170, _, _, _, _, _⟩) (v := undef) rfl (by kernel_rfl) (by kernel_rfl) (by kernel_rfl) (fun _ _ _ h => h) (Or.inr ⟨by rfl, rfl⟩) (by assumption) ?_
                              try simp only [Act.put, List.setIfInBounds_toArray, List.set_cons_zero, List.set_cons_succ]
                              refine wpAnyH_take (i := 14) (oi := ⟨some 171, _, _, _, _, _⟩) (v := undef) rfl (by kernel_rfl) (by kernel_rfl) (by kernel_rfl) (fun _ _ _ h => h) (Or.inr ⟨by rfl, rfl⟩) (by assumption) ?_
                              try simp only [Act.put, List.setIfInBounds_toArray, List.set_cons_zero, List.set_cons_succ]
                              refine wpAnyH_take (i := 15) (oi := ⟨some 172, _, _, _, _, _⟩) (v := undef) rfl (by kernel_rfl) (by kernel_rfl) (by kernel_rfl) (fun _ _ _ h => h) (Or.inr ⟨by rfl, rfl⟩) (by assumption) ?_
                              try simp only [Act.put, List.setIfInBounds_toArray, List.set_cons_zero, List.set_cons_succ]
                              refine wpAnyH_take (i := 16) (oi := ⟨some 173, _, _, _, _, _⟩) (v := ?_) rfl (by kernel_rfl) (by kernel_rfl) (by kernel_rfl) (fun _ _ _ h => h) (Or.inl ⟨by rfl, ?_⟩) (by assumption) ?_
                              rotate_left 1
                              · intro w hSw
                                (try dsimp only at hSw)
                                go_simp
                                try with_reducible rfl
                              try simp only [Act.put, List.setIfInBounds_toArray, List.set_cons_zero, List.set_cons_succ]
                              refine wpAnyH_done (by kernel_rfl) ?_ _
                              go_wp2
                              go_meet
                              exact ⟨rfl, (Nx.refl _).drew⟩
                          case rest =>
                            obtain ⟨rfl, hx4⟩ := hcut
                            have hexl := lt_of_heap HE3.out
                            have HSC := hide (HS3.out.step hx4)
                            have HEC := hide ((hx4.block ex hexl).trans HE3.out)
                            have hgqw : a.gq < wr.heap.size := by obtain ⟨_, hq1, _⟩ := HS3.out.q; exact lt_of_heap hq1
                            have HNC := hide ((FrE.nx (a := a) hgqw hx4) ex hexb hexl HN3.out).2
                            have hexl2 := lt_of_heap HEC.out
                            have HC2 := hide (HEE.out wc hx4)
                            clear k0 m4 d0 d1 hDk hLB hgqw hexl HEE HLB
                            cases dk
                            · cases bnv
                              · have HON2 := hide (HON.out.trans (if_pos ⟨rfl, rfl⟩))
                                have d0 : wc.cell? ⟨ex, 0, none⟩ = some (.int .i64 x.at_) := (cell_of_row wc _ 0 _ _ _ HEC.out).trans rfl
                                have d1 : wc.cell? ⟨ex, 1, none⟩ = some (.int .i64 (x.arc : Int)) := (cell_of_row wc _ 1 _ _ _ HEC.out).trans rfl
                                clear HON
                                go_wp2_with fail
                                refine HC2.out.mono ?_
                                rintro e wn ⟨rfl, hSn, hFn⟩
                                have HSN := hide hSn
                                have HFN := hide (hFn ex hexb hexl2 HNC.out)
                                clear hSn hFn
                                go_wp2_with fail
                                go_roundw
                                case rel => exact ⟨k + 1, by omega, by go_num, by rw [HTK.out, HON2.out]; exact HSN.out, HFN.out.1.trans HEC.out, HFN.out.2⟩
                                case measure => simp [intOf]; omega
                              · have HON2 := hide (HON.out.trans (if_neg (fun h => by cases h.2)))
                                clear HON
                                go_wp2_with fail
                                go_roundw
                                case rel => exact ⟨k + 1, by omega, by go_num, by rw [HTK.out, HON2.out]; exact HSC.out, HEC.out, HNC.out⟩
                                case measure => simp [intOf]; omega
                            · have HON2 := hide (HON.out.trans (if_neg (fun h => by cases h.1)))
                              clear HON
                              cases bnv
                              all_goals
                                go_wp2_with fail
                                go_roundw
                                case rel => exact ⟨k + 1, by omega, by go_num, by rw [HTK.out, HON2.out]; exact HSC.out, HEC.out, HNC.out⟩
                                case measure => simp [intOf]; omega
                        · obtain rfl : nl = k := by omega
                          have HSF := hide (show SM w wr a bm fr nn m ad (popG G st) by rw [HPOP2.out]; have h := HS3.out; rw [List.take_of_length_le (by have := HNL.out; omega)] at h; exact h)
                          clear hlt HS3 HE3 HN3
                          go_wp2_with fail
                          go_roundg f
                          case measure => omega
                          case rel => exact ⟨popG G st, HSF.out, HSTEP.out, by obtain ⟨T', h⟩ := HPI.out; exact ⟨T', h⟩, by have := HPM.out; have := HME.out; omega, by omega⟩
              · rw [hd] at hD0 HPOP
                rw [if_pos rfl] at HPOP
                clear fD d0
                go_wp2_with fail
                go_roundg f
                case measure => omega
                case rel => exact ⟨popG G st, by rw [HPOP.out]; exact HS2.out, HSTEP.out, by obtain ⟨T', h⟩ := HPI.out; exact ⟨T', h⟩, by have := HPM.out; have := HME.out; omega, by omega⟩
