/- The drawn statements of the stream's trips. -/
import Derived.Test.YthlhomcgjgfdhaaGreatDoorQG16
import Derived.RegionTactic
import Derived.Deep.RegionHeld
import Derived.Test.YthlhomcgjgfdhaaGreatDoorQG3
import Derived.Test.YthlhomcgjgfdhaaGreatDoorQStr
import Derived.Below
import Derived.Deep.DeepCutAuto
import Derived.Test.YthlhomcgjgfdhaaGreatDoorQG8
import Derived.Test.YthlhomcgjgfdhaaGreatDoorQJouR
import Derived.Deep.AppendLies
import Derived.Test.YthlhomcgjgfdhaaGreatDoorQPriced
import Derived.WalkKit
import Derived.Test.YthlhomcgjgfdhaaGreatDoorQBldW
import Derived.Test.YthlhomcgjgfdhaaGreatDoorQJouF
import Derived.Test.YthlhomcgjgfdhaaGreatDoorQShelfU
import Derived.Deep.RegionHeld3
import Derived.Test.YthlhomcgjgfdhaaGreatDoorQG0
import Derived.Test.YthlhomcgjgfdhaaGreatDoorQStrS
namespace Go.Proofs.YthlhomcgjgfdhaaGreatDoor
open Go.RowKit
noncomputable def ty_j16C : Code := (findReg 16 (Tryz.f26.body.getD .skip)).getD .skip
def ty_j16Sh (s b off : Nat) : Nat → Value → World → Prop
  | 0, v, w => ShPtr b off v w
  | 1, v, w => ShPtr b off v w
  | 2, v, w => ShPtr b off v w
  | 3, v, w => ShPtr b off v w
  | 4, v, w => ShPtr s 0 v w
  | 5, v, w => ShPtr b off v w
  | 6, v, w => ShPtr b off v w
  | 7, v, w => ShPtr b off v w
  | 8, v, w => ShT v w
  | 9, v, w => ShLT s b 3 v w
  | 10, v, w => ShT v w
  | 11, v, w => ShPtr s 0 v w
  | 12, v, w => ShLT s b 2 v w
  | 13, v, w => ShT v w
  | 14, v, w => ShPtr s 0 v w
  | 15, v, w => ShZ v w
  | 16, v, w => ShPtr s 0 v w
  | 17, v, w => ShPtr b off v w
  | 18, v, w => ShPtr b off v w
  | 19, v, w => ShPtr b (off + 4) v w
  | 20, v, w => ShPtr b (off + 5) v w
  | 21, v, w => ShZ v w
  | 22, v, w => ShPtr b off v w
  | 23, v, w => ShPtr b off v w
  | 24, v, w => ShPtr b (off + 4) v w
  | 25, v, w => ShPtr b (off + 4) v w
  | 26, v, w => ShY v w
  | 27, v, w => ShZ v w
  | 28, v, w => ShLZ s b 3 v w
  | 29, v, w => ShZ v w
  | 30, v, w => ShPtr b off v w
  | 31, v, w => ShPtr b off v w
  | 32, _, _ => True
  | 33, v, w => ShPtr b off v w
  | 34, v, w => ShPtr b (off + 1) v w
  | 35, _, _ => True
  | 36, v, w => ShPtr b off v w
  | 37, v, w => ShPtr b (off + 3) v w
  | 38, _, _ => True
  | 39, v, w => ShPtr b off v w
  | 40, v, w => ShPtr b (off + 4) v w
  | 41, v, w => ShPtr b (off + 5) v w
  | 42, _, _ => True
  | _, _, _ => True
def ty_j16D : List Tmp := [78, 79, 80, 81, 82, 83, 84, 85, 86, 87, 88, 89, 90, 91, 92, 93, 94, 95, 96, 97, 98, 99, 100, 101, 102, 103, 104, 105, 106, 107, 108, 109, 110, 111, 112, 113, 114, 115, 116]
set_option maxRecDepth 100000 in
set_option maxHeartbeats 2000000 in
theorem ty_j16 {Q : Exit → Act → World → Prop} {a0 : Act} {w0 w : World} {s b off k : Nat} {B : World → Prop} (E : JoBox b off B) (hsb : s < b) (hk : k < 800000) (hsz : a0.tmps.size = 123) (g0 : a0.tmps.getD 0 undef = .pointer (some ⟨s, 0, none⟩)) (g8 : a0.tmps.getD 8 undef = .pointer (some ⟨b, off, none⟩))  (hW : TyW s b k B w0 0 w)
    (hend : ∀ (f : Tmp → Value) (w' : World), TyW s b k B w0 43 w' → Q .normal ⟨ty_j16D.foldl (fun t d => t.setIfInBounds d (f d)) a0.tmps, a0.defers⟩ w') : Code.wp Tryz.prog ty_j16C Q a0 w := by
  conv => arg 2; whnf
  refine wp_region_known (by kernel_rfl) (TyW s b k B w0) (ty_j16Sh s b off) (Two s b) a0 (by rw [hsz]; kernel_rfl) (by kernel_rfl) ?_ ?_ ?_ ⟨hW.two.trans (Two.of_gr ((Gr.refl s w).drew)), hW.str.nx (Nx.refl w).drew, E.same _ _ hW.box rfl (Nat.le_refl _)⟩
  · intro i v w w' h hkp
    match i, h with
    | 0, h => exact h
    | 1, h => exact h
    | 2, h => exact h
    | 3, h => exact h
    | 4, h => exact h
    | 5, h => exact h
    | 6, h => exact h
    | 7, h => exact h
    | 8, h => exact h
    | 9, h => exact ShLT.keep h hkp
    | 10, h => exact h
    | 11, h => exact h
    | 12, h => exact ShLT.keep h hkp
    | 13, h => exact h
    | 14, h => exact h
    | 15, h => exact h
    | 16, h => exact h
    | 17, h => exact h
    | 18, h => exact h
    | 19, h => exact h
    | 20, h => exact h
    | 21, h => exact h
    | 22, h => exact h
    | 23, h => exact h
    | 24, h => exact h
    | 25, h => exact h
    | 26, h => exact h
    | 27, h => exact h
    | 28, h => exact ShLZ.keep h hkp
    | 29, h => exact h
    | 30, h => exact h
    | 31, h => exact h
    | 32, h => exact h
    | 33, h => exact h
    | 34, h => exact h
    | 35, h => exact h
    | 36, h => exact h
    | 37, h => exact h
    | 38, h => exact h
    | 39, h => exact h
    | 40, h => exact h
    | 41, h => exact h
    | 42, h => exact h
    | _ + 43, _ => trivial
  · intro i o ho m a w hm hM hold hdep
    have hm : m < 43 := hm
    match i, ho with
    | 0, ho =>
      obtain rfl := Option.some.inj ho
      have e1 := (hold 8 (by decide)).trans g8
      exact wpOp_val (v := a.tmps.getD 8 undef) rfl rfl (by unfold execOp; go_simp) ⟨_, rfl, hM.pass, Two.refl _ _ _, fun _ _ => e1⟩
    | 1, ho =>
      obtain rfl := Option.some.inj ho
      have e1 := (hold 8 (by decide)).trans g8
      exact wpOp_val (v := a.tmps.getD 8 undef) rfl rfl (by unfold execOp; go_simp) ⟨_, rfl, hM.pass, Two.refl _ _ _, fun _ _ => e1⟩
    | 2, ho =>
      obtain rfl := Option.some.inj ho
      have e1 := (hold 8 (by decide)).trans g8
      exact wpOp_val (v := a.tmps.getD 8 undef) rfl rfl (by unfold execOp; go_simp) ⟨_, rfl, hM.pass, Two.refl _ _ _, fun _ _ => e1⟩
    | 3, ho =>
      obtain rfl := Option.some.inj ho
      have e1 := (hold 8 (by decide)).trans g8
      exact wpOp_val (v := a.tmps.getD 8 undef) rfl rfl (by unfold execOp; go_simp) ⟨_, rfl, hM.pass, Two.refl _ _ _, fun _ _ => e1⟩
    | 4, ho =>
      obtain rfl := Option.some.inj ho
      have e1 := (hold 0 (by decide)).trans g0
      exact wpOp_val (v := a.tmps.getD 0 undef) rfl rfl (by unfold execOp; go_simp) ⟨_, rfl, hM.pass, Two.refl _ _ _, fun _ _ => e1⟩
    | 5, ho =>
      obtain rfl := Option.some.inj ho
      have e1 := (hold 8 (by decide)).trans g8
      exact wpOp_val (v := a.tmps.getD 8 undef) rfl rfl (by unfold execOp; go_simp) ⟨_, rfl, hM.pass, Two.refl _ _ _, fun _ _ => e1⟩
    | 6, ho =>
      obtain rfl := Option.some.inj ho
      have e1 := hdep 5 _ 83 rfl ⟨_, Array.mem_of_getElem? (i := 0) rfl, rfl, rfl⟩ rfl
      have e2 : a.eval (.tmp 83) = .pointer (some ⟨b, off, none⟩) := e1
      have e2b : a.tmps[83]?.getD undef = .pointer (some ⟨b, off, none⟩) := by rw [← Array.getD_eq_getD_getElem?]; exact e2
      exact wpOp_val (v := .pointer (some ⟨b, off, none⟩)) rfl rfl (by unfold execOp; simp only; go_simp) ⟨_, rfl, hM.pass, Two.refl _ _ _, fun _ _ => rfl⟩
    | 7, ho =>
      obtain rfl := Option.some.inj ho
      have e1 := hdep 6 _ 84 rfl ⟨_, Array.mem_of_getElem? (i := 0) rfl, rfl, rfl⟩ rfl
      have e2 : a.eval (.tmp 84) = .pointer (some ⟨b, off, none⟩) := e1
      have e2b : a.tmps[84]?.getD undef = .pointer (some ⟨b, off, none⟩) := by rw [← Array.getD_eq_getD_getElem?]; exact e2
      exact wpOp_val (v := .pointer (some ⟨b, off, none⟩)) rfl rfl (by unfold execOp; simp only; go_simp) ⟨_, rfl, hM.pass, Two.refl _ _ _, fun _ _ => rfl⟩
    | 8, ho =>
      obtain rfl := Option.some.inj ho
      have e1 := hdep 7 _ 85 rfl ⟨_, Array.mem_of_getElem? (i := 0) rfl, rfl, rfl⟩ rfl
      have e2 : a.eval (.tmp 85) = .pointer (some ⟨b, off, none⟩) := e1
      have e2b : a.tmps[85]?.getD undef = .pointer (some ⟨b, off, none⟩) := by rw [← Array.getD_eq_getD_getElem?]; exact e2
      obtain ⟨x, hok, hc⟩ := E.get w hM.box
      have c0 : w.cell? ⟨b, off, none⟩ = some _ := hc 0 _ rfl
      exact wpOp_val (v := .string x.ride) rfl rfl (by unfold execOp; simp only; go_simp) ⟨_, rfl, hM.pass, Two.refl _ _ _, fun _ _ => ⟨_, rfl, hok.ride⟩⟩
    | 9, ho =>
      obtain rfl := Option.some.inj ho
      have e1 := hdep 8 _ 86 rfl ⟨_, Array.mem_of_getElem? (i := 0) rfl, rfl, rfl⟩ rfl
      obtain ⟨z1, f1, hz1⟩ := e1
      have f1 : a.eval (.tmp 86) = .string z1 := f1
      have f1b : a.tmps[86]?.getD undef = .string z1 := by rw [← Array.getD_eq_getD_getElem?]; exact f1
      have hb := E.lt w hM.box
      have hs := hM.str.lt
      refine wpOp_val (w' := w.alloc (.cells #[.string z1, .string ⟨#[]⟩, .string ⟨#[106, 48]⟩] 9 (0, 0))) (v := .slice (some ⟨w.heap.size, 0, none⟩) 3 3) rfl rfl (by unfold execOp; simp only; go_simp) ⟨_, rfl, hM.allocJ E _, Two.alloc _ _, fun _ _ => ⟨w.heap.size, [z1, ⟨#[]⟩, ⟨#[106, 48]⟩], rfl, rfl, ?_, by omega, by omega, heap_alloc_new w _⟩⟩
      intro z hz
      simp only [List.mem_cons, List.not_mem_nil, or_false] at hz
      rcases hz with rfl | rfl | rfl
      all_goals first | assumption | decide
    | 10, ho =>
      obtain rfl := Option.some.inj ho
      have e1 := hdep 4 _ 82 rfl ⟨_, Array.mem_of_getElem? (i := 0) rfl, rfl, rfl⟩ rfl
      have e2 := hdep 9 _ 87 rfl ⟨_, Array.mem_of_getElem? (i := 1) rfl, rfl, rfl⟩ rfl
      refine ty_some rfl rfl rfl e1 e2 (by decide) hM.str (by omega) ?_
      intro t w' ht hg hS
      exact ⟨_, rfl, hM.grJ E (by omega) hg (hS.more (by omega)), Two.of_gr hg, fun _ _ => ⟨_, rfl, ht⟩⟩
    | 11, ho =>
      obtain rfl := Option.some.inj ho
      have e1 := (hold 0 (by decide)).trans g0
      exact wpOp_val (v := a.tmps.getD 0 undef) rfl rfl (by unfold execOp; go_simp) ⟨_, rfl, hM.pass, Two.refl _ _ _, fun _ _ => e1⟩
    | 12, ho =>
      obtain rfl := Option.some.inj ho
      have hb := E.lt w hM.box
      have hs := hM.str.lt
      refine wpOp_val (w' := w.alloc (.cells #[.string ⟨#[97, 110, 110]⟩, .string ⟨#[]⟩] 9 (0, 0))) (v := .slice (some ⟨w.heap.size, 0, none⟩) 2 2) rfl rfl (by unfold execOp; go_simp) ⟨_, rfl, hM.allocJ E _, Two.alloc _ _, fun _ _ => ⟨w.heap.size, [⟨#[97, 110, 110]⟩, ⟨#[]⟩], rfl, rfl, ?_, by omega, by omega, heap_alloc_new w _⟩⟩
      intro z hz
      simp only [List.mem_cons, List.not_mem_nil, or_false] at hz
      rcases hz with rfl | rfl
      all_goals first | assumption | decide
    | 13, ho =>
      obtain rfl := Option.some.inj ho
      have e1 := hdep 11 _ 89 rfl ⟨_, Array.mem_of_getElem? (i := 0) rfl, rfl, rfl⟩ rfl
      have e2 := hdep 12 _ 90 rfl ⟨_, Array.mem_of_getElem? (i := 1) rfl, rfl, rfl⟩ rfl
      refine ty_some rfl rfl rfl e1 e2 (by decide) hM.str (by omega) ?_
      intro t w' ht hg hS
      exact ⟨_, rfl, hM.grJ E (by omega) hg (hS.more (by omega)), Two.of_gr hg, fun _ _ => ⟨_, rfl, ht⟩⟩
    | 14, ho =>
      obtain rfl := Option.some.inj ho
      have e1 := (hold 0 (by decide)).trans g0
      exact wpOp_val (v := a.tmps.getD 0 undef) rfl rfl (by unfold execOp; go_simp) ⟨_, rfl, hM.pass, Two.refl _ _ _, fun _ _ => e1⟩
    | 15, ho =>
      obtain rfl := Option.some.inj ho
      have e1 := hdep 14 _ 92 rfl ⟨_, Array.mem_of_getElem? (i := 0) rfl, rfl, rfl⟩ rfl
      refine ty_odd rfl rfl rfl e1 (by decide) (by decide) hM.str (by omega) ?_
      intro t w' ht hg hS
      exact ⟨_, rfl, hM.grJ E (by omega) hg (hS.more (by omega)), Two.of_gr hg, fun _ _ => ⟨_, rfl, ht⟩⟩
    | 16, ho =>
      obtain rfl := Option.some.inj ho
      have e1 := (hold 0 (by decide)).trans g0
      exact wpOp_val (v := a.tmps.getD 0 undef) rfl rfl (by unfold execOp; go_simp) ⟨_, rfl, hM.pass, Two.refl _ _ _, fun _ _ => e1⟩
    | 17, ho =>
      obtain rfl := Option.some.inj ho
      have e1 := (hold 8 (by decide)).trans g8
      exact wpOp_val (v := a.tmps.getD 8 undef) rfl rfl (by unfold execOp; go_simp) ⟨_, rfl, hM.pass, Two.refl _ _ _, fun _ _ => e1⟩
    | 18, ho =>
      obtain rfl := Option.some.inj ho
      have e1 := hdep 17 _ 95 rfl ⟨_, Array.mem_of_getElem? (i := 0) rfl, rfl, rfl⟩ rfl
      have e2 : a.eval (.tmp 95) = .pointer (some ⟨b, off, none⟩) := e1
      have e2b : a.tmps[95]?.getD undef = .pointer (some ⟨b, off, none⟩) := by rw [← Array.getD_eq_getD_getElem?]; exact e2
      exact wpOp_val (v := .pointer (some ⟨b, off, none⟩)) rfl rfl (by unfold execOp; simp only; go_simp) ⟨_, rfl, hM.pass, Two.refl _ _ _, fun _ _ => rfl⟩
    | 19, ho =>
      obtain rfl := Option.some.inj ho
      have e1 := hdep 18 _ 96 rfl ⟨_, Array.mem_of_getElem? (i := 0) rfl, rfl, rfl⟩ rfl
      have e2 : a.eval (.tmp 96) = .pointer (some ⟨b, off, none⟩) := e1
      have e2b : a.tmps[96]?.getD undef = .pointer (some ⟨b, off, none⟩) := by rw [← Array.getD_eq_getD_getElem?]; exact e2
      exact wpOp_val (v := .pointer (some ⟨b, off + 4, none⟩)) rfl rfl (by unfold execOp; simp only; go_simp) ⟨_, rfl, hM.pass, Two.refl _ _ _, fun _ _ => rfl⟩
    | 20, ho =>
      obtain rfl := Option.some.inj ho
      have e1 := hdep 19 _ 97 rfl ⟨_, Array.mem_of_getElem? (i := 0) rfl, rfl, rfl⟩ rfl
      have e2 : a.eval (.tmp 97) = .pointer (some ⟨b, off + 4, none⟩) := e1
      have e2b : a.tmps[97]?.getD undef = .pointer (some ⟨b, off + 4, none⟩) := by rw [← Array.getD_eq_getD_getElem?]; exact e2
      exact wpOp_val (v := .pointer (some ⟨b, off + 5, none⟩)) rfl rfl (by unfold execOp; simp only; go_simp) ⟨_, rfl, hM.pass, Two.refl _ _ _, fun _ _ => rfl⟩
    | 21, ho =>
      obtain rfl := Option.some.inj ho
      have e1 := hdep 20 _ 98 rfl ⟨_, Array.mem_of_getElem? (i := 0) rfl, rfl, rfl⟩ rfl
      have e2 : a.eval (.tmp 98) = .pointer (some ⟨b, off + 5, none⟩) := e1
      have e2b : a.tmps[98]?.getD undef = .pointer (some ⟨b, off + 5, none⟩) := by rw [← Array.getD_eq_getD_getElem?]; exact e2
      obtain ⟨x, hok, hc⟩ := E.get w hM.box
      have c0 : w.cell? ⟨b, off + 5, none⟩ = some _ := hc 5 _ rfl
      exact wpOp_val (v := .int .i64 x.to_) rfl rfl (by unfold execOp; simp only; go_simp) ⟨_, rfl, hM.pass, Two.refl _ _ _, fun _ _ => ⟨_, rfl, hok.to_⟩⟩
    | 22, ho =>
      obtain rfl := Option.some.inj ho
      have e1 := (hold 8 (by decide)).trans g8
      exact wpOp_val (v := a.tmps.getD 8 undef) rfl rfl (by unfold execOp; go_simp) ⟨_, rfl, hM.pass, Two.refl _ _ _, fun _ _ => e1⟩
    | 23, ho =>
      obtain rfl := Option.some.inj ho
      have e1 := hdep 22 _ 100 rfl ⟨_, Array.mem_of_getElem? (i := 0) rfl, rfl, rfl⟩ rfl
      have e2 : a.eval (.tmp 100) = .pointer (some ⟨b, off, none⟩) := e1
      have e2b : a.tmps[100]?.getD undef = .pointer (some ⟨b, off, none⟩) := by rw [← Array.getD_eq_getD_getElem?]; exact e2
      exact wpOp_val (v := .pointer (some ⟨b, off, none⟩)) rfl rfl (by unfold execOp; simp only; go_simp) ⟨_, rfl, hM.pass, Two.refl _ _ _, fun _ _ => rfl⟩
    | 24, ho =>
      obtain rfl := Option.some.inj ho
      have e1 := hdep 23 _ 101 rfl ⟨_, Array.mem_of_getElem? (i := 0) rfl, rfl, rfl⟩ rfl
      have e2 : a.eval (.tmp 101) = .pointer (some ⟨b, off, none⟩) := e1
      have e2b : a.tmps[101]?.getD undef = .pointer (some ⟨b, off, none⟩) := by rw [← Array.getD_eq_getD_getElem?]; exact e2
      exact wpOp_val (v := .pointer (some ⟨b, off + 4, none⟩)) rfl rfl (by unfold execOp; simp only; go_simp) ⟨_, rfl, hM.pass, Two.refl _ _ _, fun _ _ => rfl⟩
    | 25, ho =>
      obtain rfl := Option.some.inj ho
      have e1 := hdep 24 _ 102 rfl ⟨_, Array.mem_of_getElem? (i := 0) rfl, rfl, rfl⟩ rfl
      have e2 : a.eval (.tmp 102) = .pointer (some ⟨b, off + 4, none⟩) := e1
      have e2b : a.tmps[102]?.getD undef = .pointer (some ⟨b, off + 4, none⟩) := by rw [← Array.getD_eq_getD_getElem?]; exact e2
      exact wpOp_val (v := .pointer (some ⟨b, off + 4, none⟩)) rfl rfl (by unfold execOp; simp only; go_simp) ⟨_, rfl, hM.pass, Two.refl _ _ _, fun _ _ => rfl⟩
    | 26, ho =>
      obtain rfl := Option.some.inj ho
      have e1 := hdep 25 _ 103 rfl ⟨_, Array.mem_of_getElem? (i := 0) rfl, rfl, rfl⟩ rfl
      have e2 : a.eval (.tmp 103) = .pointer (some ⟨b, off + 4, none⟩) := e1
      have e2b : a.tmps[103]?.getD undef = .pointer (some ⟨b, off + 4, none⟩) := by rw [← Array.getD_eq_getD_getElem?]; exact e2
      obtain ⟨x, hok, hc⟩ := E.get w hM.box
      have c0 : w.cell? ⟨b, off + 4, none⟩ = some _ := hc 4 _ rfl
      exact wpOp_val (v := .int .i64 x.from_) rfl rfl (by unfold execOp; simp only; go_simp) ⟨_, rfl, hM.pass, Two.refl _ _ _, fun _ _ => ⟨_, rfl, hok.from_⟩⟩
    | 27, ho =>
      obtain rfl := Option.some.inj ho
      have e1 := hdep 26 _ 104 rfl ⟨_, Array.mem_of_getElem? (i := 0) rfl, rfl, rfl⟩ rfl
      obtain ⟨z, e2, hz1, hz2⟩ := e1
      have e2 : a.eval (.tmp 104) = .int .i64 z := e2
      have e2b : a.tmps[104]?.getD undef = .int .i64 z := by rw [← Array.getD_eq_getD_getElem?]; exact e2
      have hw : IntKind.i64.wrap (z - 1) = z - 1 := IntWalk.i64_in _ (by omega)
      exact wpOp_val (v := .int .i64 (z - 1)) rfl rfl (by unfold execOp; simp only; go_simp) ⟨_, rfl, hM.pass, Two.refl _ _ _, fun _ _ => ⟨_, rfl, by omega, by omega⟩⟩
    | 28, ho =>
      obtain rfl := Option.some.inj ho
      have e1 := hdep 21 _ 99 rfl ⟨_, Array.mem_of_getElem? (i := 0) rfl, rfl, rfl⟩ rfl
      obtain ⟨z1, f1, hz1⟩ := e1
      have f1 : a.eval (.tmp 99) = .int .i64 z1 := f1
      have f1b : a.tmps[99]?.getD undef = .int .i64 z1 := by rw [← Array.getD_eq_getD_getElem?]; exact f1
      have e2 := hdep 27 _ 105 rfl ⟨_, Array.mem_of_getElem? (i := 1) rfl, rfl, rfl⟩ rfl
      obtain ⟨z2, f2, hz2⟩ := e2
      have f2 : a.eval (.tmp 105) = .int .i64 z2 := f2
      have f2b : a.tmps[105]?.getD undef = .int .i64 z2 := by rw [← Array.getD_eq_getD_getElem?]; exact f2
      have hb := E.lt w hM.box
      have hs := hM.str.lt
      refine wpOp_val (w' := w.alloc (.cells #[.int .i64 z1, .int .i64 z2, .int .i64 (345686400000)] 3 (0, 0))) (v := .slice (some ⟨w.heap.size, 0, none⟩) 3 3) rfl rfl (by unfold execOp; simp only; go_simp) ⟨_, rfl, hM.allocJ E _, Two.alloc _ _, fun _ _ => ⟨w.heap.size, [z1, z2, (345686400000)], rfl, rfl, ?_, by omega, by omega, heap_alloc_new w _⟩⟩
      intro z hz
      simp only [List.mem_cons, List.not_mem_nil, or_false] at hz
      rcases hz with rfl | rfl | rfl
      all_goals first | assumption | decide
    | 29, ho =>
      obtain rfl := Option.some.inj ho
      have e1 := hdep 16 _ 94 rfl ⟨_, Array.mem_of_getElem? (i := 0) rfl, rfl, rfl⟩ rfl
      have e2 := hdep 28 _ 106 rfl ⟨_, Array.mem_of_getElem? (i := 1) rfl, rfl, rfl⟩ rfl
      refine ty_pick rfl rfl rfl e1 e2 (by decide) hM.str (by omega) ?_
      intro t w' ht hg hS
      exact ⟨_, rfl, hM.grJ E (by omega) hg (hS.more (by omega)), Two.of_gr hg, fun _ _ => ⟨_, rfl, ht⟩⟩
    | 30, ho =>
      obtain rfl := Option.some.inj ho
      have e1 := hdep 0 _ 78 rfl ⟨_, Array.mem_of_getElem? (i := 0) rfl, rfl, rfl⟩ rfl
      have e2 : a.eval (.tmp 78) = .pointer (some ⟨b, off, none⟩) := e1
      have e2b : a.tmps[78]?.getD undef = .pointer (some ⟨b, off, none⟩) := by rw [← Array.getD_eq_getD_getElem?]; exact e2
      exact wpOp_val (v := .pointer (some ⟨b, off, none⟩)) rfl rfl (by unfold execOp; simp only; go_simp) ⟨_, rfl, hM.pass, Two.refl _ _ _, fun _ _ => rfl⟩
    | 31, ho =>
      obtain rfl := Option.some.inj ho
      have e1 := hdep 30 _ 108 rfl ⟨_, Array.mem_of_getElem? (i := 0) rfl, rfl, rfl⟩ rfl
      have e2 : a.eval (.tmp 108) = .pointer (some ⟨b, off, none⟩) := e1
      have e2b : a.tmps[108]?.getD undef = .pointer (some ⟨b, off, none⟩) := by rw [← Array.getD_eq_getD_getElem?]; exact e2
      exact wpOp_val (v := .pointer (some ⟨b, off, none⟩)) rfl rfl (by unfold execOp; simp only; go_simp) ⟨_, rfl, hM.pass, Two.refl _ _ _, fun _ _ => rfl⟩
    | 32, ho =>
      obtain rfl := Option.some.inj ho
      have e1 := hdep 31 _ 109 rfl ⟨_, Array.mem_of_getElem? (i := 0) rfl, rfl, rfl⟩ rfl
      have e2 := hdep 10 _ 88 rfl ⟨_, Array.mem_of_getElem? (i := 1) rfl, rfl, rfl⟩ rfl
      have e3 : a.eval (.tmp 109) = .pointer (some ⟨b, off, none⟩) := e1
      have e3b : a.tmps[109]?.getD undef = .pointer (some ⟨b, off, none⟩) := by rw [← Array.getD_eq_getD_getElem?]; exact e3
      obtain ⟨z, e4, hz⟩ := e2
      have e4 : a.eval (.tmp 88) = .string z := e4
      have e4b : a.tmps[88]?.getD undef = .string z := by rw [← Array.getD_eq_getD_getElem?]; exact e4
      obtain ⟨x, hok, hc⟩ := E.get w hM.box
      have c0 : w.cell? ⟨b, off, none⟩ = some _ := hc 0 _ rfl
      have hfz := E.frz w (off) hM.box
      exact wpOp_skip (w' := w.setCell ⟨b, off, none⟩ (.string z)) rfl rfl (by unfold execOp; simp only; go_simp) ⟨_, rfl, hM.setSJ E hsb (j := 0) (by decide) hz, Two.set _, fun _ _ => trivial⟩
    | 33, ho =>
      obtain rfl := Option.some.inj ho
      have e1 := hdep 1 _ 79 rfl ⟨_, Array.mem_of_getElem? (i := 0) rfl, rfl, rfl⟩ rfl
      have e2 : a.eval (.tmp 79) = .pointer (some ⟨b, off, none⟩) := e1
      have e2b : a.tmps[79]?.getD undef = .pointer (some ⟨b, off, none⟩) := by rw [← Array.getD_eq_getD_getElem?]; exact e2
      exact wpOp_val (v := .pointer (some ⟨b, off, none⟩)) rfl rfl (by unfold execOp; simp only; go_simp) ⟨_, rfl, hM.pass, Two.refl _ _ _, fun _ _ => rfl⟩
    | 34, ho =>
      obtain rfl := Option.some.inj ho
      have e1 := hdep 33 _ 110 rfl ⟨_, Array.mem_of_getElem? (i := 0) rfl, rfl, rfl⟩ rfl
      have e2 : a.eval (.tmp 110) = .pointer (some ⟨b, off, none⟩) := e1
      have e2b : a.tmps[110]?.getD undef = .pointer (some ⟨b, off, none⟩) := by rw [← Array.getD_eq_getD_getElem?]; exact e2
      exact wpOp_val (v := .pointer (some ⟨b, off + 1, none⟩)) rfl rfl (by unfold execOp; simp only; go_simp) ⟨_, rfl, hM.pass, Two.refl _ _ _, fun _ _ => rfl⟩
    | 35, ho =>
      obtain rfl := Option.some.inj ho
      have e1 := hdep 34 _ 111 rfl ⟨_, Array.mem_of_getElem? (i := 0) rfl, rfl, rfl⟩ rfl
      have e2 := hdep 13 _ 91 rfl ⟨_, Array.mem_of_getElem? (i := 1) rfl, rfl, rfl⟩ rfl
      have e3 : a.eval (.tmp 111) = .pointer (some ⟨b, off + 1, none⟩) := e1
      have e3b : a.tmps[111]?.getD undef = .pointer (some ⟨b, off + 1, none⟩) := by rw [← Array.getD_eq_getD_getElem?]; exact e3
      obtain ⟨z, e4, hz⟩ := e2
      have e4 : a.eval (.tmp 91) = .string z := e4
      have e4b : a.tmps[91]?.getD undef = .string z := by rw [← Array.getD_eq_getD_getElem?]; exact e4
      obtain ⟨x, hok, hc⟩ := E.get w hM.box
      have c0 : w.cell? ⟨b, off + 1, none⟩ = some _ := hc 1 _ rfl
      have hfz := E.frz w (off + 1) hM.box
      exact wpOp_skip (w' := w.setCell ⟨b, off + 1, none⟩ (.string z)) rfl rfl (by unfold execOp; simp only; go_simp) ⟨_, rfl, hM.setSJ E hsb (j := 1) (by decide) hz, Two.set _, fun _ _ => trivial⟩
    | 36, ho =>
      obtain rfl := Option.some.inj ho
      have e1 := hdep 2 _ 80 rfl ⟨_, Array.mem_of_getElem? (i := 0) rfl, rfl, rfl⟩ rfl
      have e2 : a.eval (.tmp 80) = .pointer (some ⟨b, off, none⟩) := e1
      have e2b : a.tmps[80]?.getD undef = .pointer (some ⟨b, off, none⟩) := by rw [← Array.getD_eq_getD_getElem?]; exact e2
      exact wpOp_val (v := .pointer (some ⟨b, off, none⟩)) rfl rfl (by unfold execOp; simp only; go_simp) ⟨_, rfl, hM.pass, Two.refl _ _ _, fun _ _ => rfl⟩
    | 37, ho =>
      obtain rfl := Option.some.inj ho
      have e1 := hdep 36 _ 112 rfl ⟨_, Array.mem_of_getElem? (i := 0) rfl, rfl, rfl⟩ rfl
      have e2 : a.eval (.tmp 112) = .pointer (some ⟨b, off, none⟩) := e1
      have e2b : a.tmps[112]?.getD undef = .pointer (some ⟨b, off, none⟩) := by rw [← Array.getD_eq_getD_getElem?]; exact e2
      exact wpOp_val (v := .pointer (some ⟨b, off + 3, none⟩)) rfl rfl (by unfold execOp; simp only; go_simp) ⟨_, rfl, hM.pass, Two.refl _ _ _, fun _ _ => rfl⟩
    | 38, ho =>
      obtain rfl := Option.some.inj ho
      have e1 := hdep 37 _ 113 rfl ⟨_, Array.mem_of_getElem? (i := 0) rfl, rfl, rfl⟩ rfl
      have e2 := hdep 15 _ 93 rfl ⟨_, Array.mem_of_getElem? (i := 1) rfl, rfl, rfl⟩ rfl
      have e3 : a.eval (.tmp 113) = .pointer (some ⟨b, off + 3, none⟩) := e1
      have e3b : a.tmps[113]?.getD undef = .pointer (some ⟨b, off + 3, none⟩) := by rw [← Array.getD_eq_getD_getElem?]; exact e3
      obtain ⟨z, e4, hz⟩ := e2
      have e4 : a.eval (.tmp 93) = .int .i64 z := e4
      have e4b : a.tmps[93]?.getD undef = .int .i64 z := by rw [← Array.getD_eq_getD_getElem?]; exact e4
      obtain ⟨x, hok, hc⟩ := E.get w hM.box
      have c0 : w.cell? ⟨b, off + 3, none⟩ = some _ := hc 3 _ rfl
      have hfz := E.frz w (off + 3) hM.box
      exact wpOp_skip (w' := w.setCell ⟨b, off + 3, none⟩ (.int .i64 z)) rfl rfl (by unfold execOp; simp only; go_simp) ⟨_, rfl, hM.setIJ E hsb (j := 3) (by decide) hz, Two.set _, fun _ _ => trivial⟩
    | 39, ho =>
      obtain rfl := Option.some.inj ho
      have e1 := hdep 3 _ 81 rfl ⟨_, Array.mem_of_getElem? (i := 0) rfl, rfl, rfl⟩ rfl
      have e2 : a.eval (.tmp 81) = .pointer (some ⟨b, off, none⟩) := e1
      have e2b : a.tmps[81]?.getD undef = .pointer (some ⟨b, off, none⟩) := by rw [← Array.getD_eq_getD_getElem?]; exact e2
      exact wpOp_val (v := .pointer (some ⟨b, off, none⟩)) rfl rfl (by unfold execOp; simp only; go_simp) ⟨_, rfl, hM.pass, Two.refl _ _ _, fun _ _ => rfl⟩
    | 40, ho =>
      obtain rfl := Option.some.inj ho
      have e1 := hdep 39 _ 114 rfl ⟨_, Array.mem_of_getElem? (i := 0) rfl, rfl, rfl⟩ rfl
      have e2 : a.eval (.tmp 114) = .pointer (some ⟨b, off, none⟩) := e1
      have e2b : a.tmps[114]?.getD undef = .pointer (some ⟨b, off, none⟩) := by rw [← Array.getD_eq_getD_getElem?]; exact e2
      exact wpOp_val (v := .pointer (some ⟨b, off + 4, none⟩)) rfl rfl (by unfold execOp; simp only; go_simp) ⟨_, rfl, hM.pass, Two.refl _ _ _, fun _ _ => rfl⟩
    | 41, ho =>
      obtain rfl := Option.some.inj ho
      have e1 := hdep 40 _ 115 rfl ⟨_, Array.mem_of_getElem? (i := 0) rfl, rfl, rfl⟩ rfl
      have e2 : a.eval (.tmp 115) = .pointer (some ⟨b, off + 4, none⟩) := e1
      have e2b : a.tmps[115]?.getD undef = .pointer (some ⟨b, off + 4, none⟩) := by rw [← Array.getD_eq_getD_getElem?]; exact e2
      exact wpOp_val (v := .pointer (some ⟨b, off + 5, none⟩)) rfl rfl (by unfold execOp; simp only; go_simp) ⟨_, rfl, hM.pass, Two.refl _ _ _, fun _ _ => rfl⟩
    | 42, ho =>
      obtain rfl := Option.some.inj ho
      have e1 := hdep 41 _ 116 rfl ⟨_, Array.mem_of_getElem? (i := 0) rfl, rfl, rfl⟩ rfl
      have e2 := hdep 29 _ 107 rfl ⟨_, Array.mem_of_getElem? (i := 1) rfl, rfl, rfl⟩ rfl
      have e3 : a.eval (.tmp 116) = .pointer (some ⟨b, off + 5, none⟩) := e1
      have e3b : a.tmps[116]?.getD undef = .pointer (some ⟨b, off + 5, none⟩) := by rw [← Array.getD_eq_getD_getElem?]; exact e3
      obtain ⟨z, e4, hz⟩ := e2
      have e4 : a.eval (.tmp 107) = .int .i64 z := e4
      have e4b : a.tmps[107]?.getD undef = .int .i64 z := by rw [← Array.getD_eq_getD_getElem?]; exact e4
      obtain ⟨x, hok, hc⟩ := E.get w hM.box
      have c0 : w.cell? ⟨b, off + 5, none⟩ = some _ := hc 5 _ rfl
      have hfz := E.frz w (off + 5) hM.box
      exact wpOp_skip (w' := w.setCell ⟨b, off + 5, none⟩ (.int .i64 z)) rfl rfl (by unfold execOp; simp only; go_simp) ⟨_, rfl, hM.setIJ E hsb (j := 5) (by decide) hz, Two.set _, fun _ _ => trivial⟩
    | j + 43, ho => simp at ho
  · intro listed a w hK hW2 _
    obtain ⟨f, rfl⟩ := known_frame hK (by rw [hsz]; kernel_rfl)
    exact hend f w hW2
end Go.Proofs.YthlhomcgjgfdhaaGreatDoor
/- The stream's price. -/
namespace Go.Proofs.YthlhomcgjgfdhaaGreatDoor
open Go.RowKit

theorem Two.toGrP {s b : Nat} {w w' : World} (h : Two s b w w') (hb : w.heap.size ≤ b) : Gr s w w' :=
  ⟨h.1, h.2.1, h.2.2.1, h.2.2.2.1, fun i hi hne => h.2.2.2.2 i hi (fun e => hne (by rw [e])) (by omega)⟩
theorem Gr.setgP {w w' : World} {s g i : Nat} {u : Value} (h : Gr s w w') (hg : w.heap.size ≤ g) : Gr s w (w'.setCell ⟨g, i, none⟩ u) := h.setS (p := ⟨g, i, none⟩) (.inr hg) u
theorem Str.setgP {w : World} {s k g i : Nat} {u : Value} (h : Str w s k) (hg : s < g) : Str (w.setCell ⟨g, i, none⟩ u) s k := h.row (row := some g) ((Gr.refl g w).setS (p := ⟨g, i, none⟩) (.inl rfl) u) (fun j h => by injection h with h; omega)

end Go.Proofs.YthlhomcgjgfdhaaGreatDoor
/- What the laws share: the end, the stream, cmp.Or of two or three. -/
namespace Go.Proofs.YthlhomcgjgfdhaaGreatDoor
open Go.RowKit

/-- The law's world: what was there stays. -/
def TrueNx (w : World) (e : Ending) (w' : World) : Prop := e = .returned (.bool true) ∧ Nx w w'

theorem str_new (A : Option Addr) (n c : Nat) (w : World) (hn : n ≤ 9223372036854775807)
    (hL : 0 < n → ∃ b off, A = some ⟨b, off, none⟩ ∧ b < w.heap.size ∧ ∀ j, j < n → ∃ z : Int, w.cell? ⟨b, off + j, none⟩ = some (.int .i64 z) ∧ -9223372036854775808 ≤ z ∧ z ≤ 9223372036854775807) :
    Str (w.alloc (.cells #[.slice A n c, .int .i64 0] 25)) w.heap.size 0 := by
  refine ⟨A, n, c, 0, Nat.le_refl _, hn, hnew rfl, fun hp => ?_⟩
  obtain ⟨b, off, e, hb, hz⟩ := hL hp
  refine ⟨b, off, e, hb, fun j hj => ?_⟩
  obtain ⟨z, h1, h2⟩ := hz j hj
  exact ⟨z, (Below.cell ((Nx.refl w).alloc _) (p := ⟨b, _, none⟩) hb).trans h1, h2⟩
end Go.Proofs.YthlhomcgjgfdhaaGreatDoor
/- What RidesPriced leans on: Full and Cheapest for all arguments, what stands fast. -/
namespace Go.Proofs.YthlhomcgjgfdhaaGreatDoor
open Go.RowKit

theorem RdZones.gr {s : Nat} {w w' : World} {lo : Nat} {A : Option Addr} {zs : List Zone} (h : RdZones w lo A zs) (hn : Gr s w w') (hs : s < lo) : RdZones w' lo A zs :=
  ⟨h.1.gr hn hs, fun x hx => ⟨(h.2 x hx).1.gr hn hs, (h.2 x hx).2⟩⟩
theorem RdZones.low {w : World} {lo lo' : Nat} {A : Option Addr} {zs : List Zone} (h : RdZones w lo A zs) (hl : lo' ≤ lo) : RdZones w lo' A zs :=
  ⟨h.1.low hl, fun x hx => ⟨(h.2 x hx).1.low hl, (h.2 x hx).2⟩⟩
theorem RdPrices.gr {s : Nat} {w w' : World} {lo : Nat} {A : Option Addr} {ps : List Price} (h : RdPrices w lo A ps) (hn : Gr s w w') (hs : s < lo) : RdPrices w' lo A ps := ⟨h.1.gr hn hs, h.2⟩
theorem RdPrices.low {w : World} {lo lo' : Nat} {A : Option Addr} {ps : List Price} (h : RdPrices w lo A ps) (hl : lo' ≤ lo) : RdPrices w lo' A ps := ⟨h.1.low hl, h.2⟩
theorem RdJours.gr {s : Nat} {w w' : World} {lo : Nat} {A : Option Addr} {ts : List Jour} (h : RdJours w lo A ts) (hn : Gr s w w') (hs : s < lo) : RdJours w' lo A ts :=
  ⟨h.1.gr hn hs, fun x hx => ⟨(h.2 x hx).1.gr hn hs, (h.2 x hx).2⟩⟩
theorem RdJours.low {w : World} {lo lo' : Nat} {A : Option Addr} {ts : List Jour} (h : RdJours w lo A ts) (hl : lo' ≤ lo) : RdJours w lo' A ts :=
  ⟨h.1.low hl, fun x hx => ⟨(h.2 x hx).1.low hl, (h.2 x hx).2⟩⟩
end Go.Proofs.YthlhomcgjgfdhaaGreatDoor
/- Trips written: what both writers share. -/
namespace Go.Proofs.YthlhomcgjgfdhaaGreatDoor
open Go.RowKit

theorem extraJ : Builder.Extra Tryz.prog Tryz.joinStr_ren where
  sizeBuilder := by kernel_rfl
  liesBuilder := by kernel_rfl
  t5 := Tryz.underlying5
  a5 := Tryz.isAgg5
  z5 := Tryz.sizeOf5
  v5 := Tryz.zeroValue5
  infoByte := by kernel_rfl
  cellsByte := by kernel_rfl
  sizeByte := by kernel_rfl
  neB5 := by decide
theorem joinC_lib (c : UInt8) : ∀ (ws : List (List UInt8)), Lib.join ws [c] = joinC c ws
  | [] => rfl
  | [w] => by simp [Lib.join, joinC, List.intercalate]
  | w :: v :: ws => by
    have h := joinC_lib c (v :: ws)
    show [c].intercalate (w :: v :: ws) = w ++ c :: joinC c (v :: ws)
    rw [← h]
    simp [Lib.join, List.intercalate, List.intersperse]
def joinS (c : UInt8) (xs : List ByteArray) : ByteArray := ⟨(joinC c (dataL xs)).toArray⟩
theorem joinS_size (c : UInt8) (xs : List ByteArray) : (joinS c xs).size = (joinC c (dataL xs)).length := by rw [← len_data]; simp [joinS]
theorem w_JoinC (lo : Nat) (A : Option Addr) (c : Nat) (xs : List ByteArray) (ch : UInt8) (w : World) (hR : Rd w lo A 1 encS xs) (hcap : xs.length ≤ c) (hN : xs.length ≤ 1000001) (hlen : (joinC ch (dataL xs)).length ≤ 1000000) :
    Calls Tryz.prog 74 #[.slice A xs.length c, .string ⟨#[ch]⟩] w fun e w' => e = .returned (.string (joinS ch xs)) ∧ Nx w w' := by
  by_cases h0 : xs.length = 0
  · have e0 : xs = [] := List.eq_nil_of_length_eq_zero h0
    subst e0
    have hcon := Any.strings_Join_none Tryz.joinStr extraJ A c ⟨#[ch]⟩ w
    change Calls Tryz.prog 74 _ _ _ at hcon
    refine hcon.mono ?_
    rintro e w' ⟨rfl, rfl⟩
    exact ⟨rfl, Nx.refl _⟩
  · obtain ⟨b, off, rfl, _, hb, _, hc⟩ := hR.open_ (Nx.refl w) (by omega)
    have hl2 : (Lib.join (xs.map (·.data.toList)) (⟨#[ch]⟩ : ByteArray).data.toList) = joinC ch (dataL xs) := joinC_lib ch _
    have hcon := Any.strings_Join Tryz.joinStr extraJ b off c xs ⟨#[ch]⟩ w (fun j x hx => by
      obtain ⟨hj, rfl⟩ := List.getElem?_eq_some_iff.1 hx
      have h := hc j hj 0 _ rfl
      simpa using h) hb (by omega) hcap (by rw [hl2]; omega)
    change Calls Tryz.prog 74 _ _ _ at hcon
    refine hcon.mono ?_
    rintro e w' ⟨rfl, hbl⟩
    rw [hl2]
    exact ⟨rfl, hbl⟩
theorem itoaS_size (n : Int) : (itoaS n).size = (Lib.itoa n).length := by rw [← len_data]; simp [itoaS]
theorem trip_bytes (x : Jour) : (x.ride ++ ⟨#[32]⟩ ++ x.rider ++ ⟨#[32]⟩ ++ itoaS x.metres ++ ⟨#[32]⟩ ++ itoaS x.from_ ++ ⟨#[32]⟩ ++ itoaS x.to_ ++ ⟨#[32]⟩ ++ joinS 44 x.nodes ++ ⟨#[10]⟩).data.toList = tripLine (coreJ x) ++ [10] := by
  show _ = (x.ride.data.toList ++ 32 :: (x.rider.data.toList ++ 32 :: (Lib.itoa x.metres ++ 32 :: (Lib.itoa x.from_ ++ 32 :: (Lib.itoa x.to_ ++ 32 :: joinC 44 (dataL x.nodes)))))) ++ [10]
  simp [ByteArray.data_append, itoaS, joinS]
theorem trip_bytes2 (x : Jour) : (joinS 32 [x.ride, x.rider, itoaS x.metres, itoaS x.from_, itoaS x.to_, joinS 44 x.nodes] ++ ⟨#[10]⟩).data.toList = tripLine (coreJ x) ++ [10] := by
  have e : dataL [x.ride, x.rider, itoaS x.metres, itoaS x.from_, itoaS x.to_, joinS 44 x.nodes] = tripW (coreJ x) := by simp [dataL, tripW, coreJ, itoaS, joinS]
  show ((⟨(joinC 32 (dataL [x.ride, x.rider, itoaS x.metres, itoaS x.from_, itoaS x.to_, joinS 44 x.nodes])).toArray⟩ : ByteArray) ++ (⟨#[10]⟩ : ByteArray)).data.toList = _
  rw [e]
  simp [ByteArray.data_append, tripLine]
theorem core_take (ts : List Jour) (k : Nat) (hk : k < ts.length) : tripText ((ts.map coreJ).take (k + 1)) = tripText ((ts.map coreJ).take k) ++ (tripLine (coreJ ts[k]) ++ [10]) := by
  rw [trip_take _ k (by simpa using hk)]; simp
/-- Trips whose text is short, and whose numbers strconv.Itoa writes. -/
structure TxtOk (ts : List Jour) : Prop where
  cap : ∀ x ∈ ts, x.nodes.length ≤ x.cap
  i64 : ∀ x ∈ ts, ∀ n ∈ [x.metres, x.from_, x.to_], -9223372036854775808 ≤ n ∧ n ≤ 9223372036854775807
  short : (tripText (ts.map coreJ)).length ≤ 200000

end Go.Proofs.YthlhomcgjgfdhaaGreatDoor
/- slices.Equal of two rows of strings that are the same. -/
namespace Go.Proofs.YthlhomcgjgfdhaaGreatDoor
open Go.RowKit

set_option maxRecDepth 100000 in
set_option maxHeartbeats 1000000 in
theorem w_EqualSS (lo lo' : Nat) (A B : Option Addr) (c d : Nat) (l : List ByteArray) (w : World) (hA : Rd w lo A 1 encS l) (hB : Rd w lo' B 1 encS l) (hl : l.length ≤ 65536) :
    Calls Tryz.prog 80 #[.slice A l.length c, .slice B l.length d] w fun e w' => e = .returned (.bool true) ∧ Nx w w' := by
  generalize hn : l.length = n at *
  have HA := hide hA
  have HB := hide hB
  have HN := hide hn
  clear hA hB hn
  go_enter Tryz.func80, Tryz.ntmps80
  go_wp2
  go_loopw [5, 13] (fun _ i wr => ∃ k : Nat, k ≤ n ∧ i = .int .i64 k ∧ Nx w wr) (fun _ i _ => n - (intOf i).toNat)
  case atStart => exact ⟨0, Nat.zero_le _, rfl, Nx.refl _⟩
  case round =>
    obtain ⟨k, hk, rfl, hbw⟩ := hrel
    by_cases hlt : k < n
    · have hlt' : k < l.length := by have := HN.out; omega
      obtain ⟨b, off, rfl, _, hb, hbr, hc⟩ := HA.out.open_ hbw (by omega)
      obtain ⟨b', off', rfl, _, hb', hbr', hc'⟩ := HB.out.open_ hbw (by omega)
      have c0 : wr.cell? ⟨b, off + k, none⟩ = some (.string l[k]) := by have := hc k hlt' 0 _ rfl; simpa using this
      have d0 : wr.cell? ⟨b', off' + k, none⟩ = some (.string l[k]) := by have := hc' k hlt' 0 _ rfl; simpa using this
      clear hc hc'
      generalize l[k] = s at *
      have te : (s.toList == s.toList) = true := by rw [eqS_iff]; exact decide_eq_true rfl
      have q1 : (0 : Int) ≤ (k : Int) := by omega
      have q2 : (k : Int) < (n : Int) := by omega
      go_wp2_with fail
      go_quiet (fail)
      go_wp2
      go_roundw
      case rel => exact ⟨k + 1, by omega, by go_num, hbw.drewN _⟩
      case measure => simp [intOf]; omega
    · go_wp2
      go_ret
      exact ⟨rfl, hbw⟩
end Go.Proofs.YthlhomcgjgfdhaaGreatDoor
