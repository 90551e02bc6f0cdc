/- The drawn statements of the stream's event. -/
import Derived.Test.YtfkmbeppckelfaaGreatDoorQG17
import Derived.RegionTactic
namespace Go.Proofs.YtfkmbeppckelfaaGreatDoor
open Go.RowKit

/-- Region r, wherever it stands. -/
def findReg (r : Nat) : Code → Option Code
  | .region n o b => bif Nat.beq n r then some (.region n o b) else none
  | .seq a b => match findReg r a with | some c => some c | none => findReg r b
  | .cond _ a b => match findReg r a with | some c => some c | none => findReg r b
  | .scope c => findReg r c
  | .block _ c => findReg r c
  | .loop c => findReg r c
  | _ => none
noncomputable def ty_e40C : Code := (findReg 40 (Tryz.f39.body.getD .skip)).getD .skip
def ty_e40Sh (s b off : Nat) : Nat → Value → World → Prop
  | 0, v, w => ShPtr s 0 v w
  | 1, v, w => ShPtr b (off + 4) v w
  | 2, v, w => ShT v w
  | 3, v, w => ShLT s b 3 v w
  | 4, v, w => ShT v w
  | 5, v, w => ShPtr s 0 v w
  | 6, v, w => ShPtr b (off + 5) v w
  | 7, v, w => ShT v w
  | 8, v, w => ShLT s b 2 v w
  | 9, v, w => ShT v w
  | 10, v, w => ShPtr b (off + 4) v w
  | 11, _, _ => True
  | 12, v, w => ShPtr b (off + 5) v w
  | 13, _, _ => True
  | _, _, _ => True
def ty_e40D : List Tmp := [157, 158, 159, 160, 161, 162, 163, 164, 165, 166, 167, 168]
set_option maxRecDepth 100000 in
set_option maxHeartbeats 2000000 in
theorem ty_e40 {Q : Exit → Act → World → Prop} {a0 : Act} {w0 w : World} {s b off k : Nat} {B : World → Prop} (E : EvBox b off B) (hsb : s < b) (hk : k < 800000) (hsz : a0.tmps.size = 186) (g0 : a0.tmps.getD 0 undef = .pointer (some ⟨s, 0, none⟩)) (g7 : a0.tmps.getD 7 undef = .pointer (some ⟨b, off, none⟩))  (hW : TyW s b k B w0 0 w)
    (hend : ∀ (f : Tmp → Value) (w' : World), TyW s b k B w0 14 w' → Q .normal ⟨ty_e40D.foldl (fun t d => t.setIfInBounds d (f d)) a0.tmps, a0.defers⟩ w') : Code.wp Tryz.prog ty_e40C Q a0 w := by
  conv => arg 2; whnf
  refine wp_region_known (by kernel_rfl) (TyW s b k B w0) (ty_e40Sh s b off) (Two s b) a0 (by rw [hsz]; kernel_rfl) (by kernel_rfl) ?_ ?_ ?_ ⟨hW.two.trans (Two.of_gr ((Gr.refl s w).drew)), hW.str.nx (Nx.refl w).drew, E.same _ _ hW.box rfl (Nat.le_refl _)⟩
  · intro i v w w' h hkp
    match i, h with
    | 0, h => exact h
    | 1, h => exact h
    | 2, h => exact h
    | 3, h => exact ShLT.keep h hkp
    | 4, h => exact h
    | 5, h => exact h
    | 6, h => exact h
    | 7, h => exact h
    | 8, h => exact ShLT.keep h hkp
    | 9, h => exact h
    | 10, h => exact h
    | 11, h => exact h
    | 12, h => exact h
    | 13, h => exact h
    | _ + 14, _ => trivial
  · intro i o ho m a w hm hM hold hdep
    have hm : m < 14 := hm
    match i, ho with
    | 0, ho =>
      obtain rfl := Option.some.inj ho
      have e1 := (hold 0 (by decide)).trans g0
      exact wpOp_val (v := a.tmps.getD 0 undef) rfl rfl (by unfold execOp; go_simp) ⟨_, rfl, hM.pass, Two.refl _ _ _, fun _ _ => e1⟩
    | 1, ho =>
      obtain rfl := Option.some.inj ho
      have e1 := (hold 7 (by decide)).trans g7
      have e2 : a.eval (.tmp 7) = .pointer (some ⟨b, off, none⟩) := e1
      have e2b : a.tmps[7]?.getD undef = .pointer (some ⟨b, off, none⟩) := by rw [← Array.getD_eq_getD_getElem?]; exact e2
      exact wpOp_val (v := .pointer (some ⟨b, off + 4, none⟩)) rfl rfl (by unfold execOp; simp only; go_simp) ⟨_, rfl, hM.pass, Two.refl _ _ _, fun _ _ => rfl⟩
    | 2, ho =>
      obtain rfl := Option.some.inj ho
      have e1 := hdep 1 _ 158 rfl ⟨_, Array.mem_of_getElem? (i := 0) rfl, rfl, rfl⟩ rfl
      have e2 : a.eval (.tmp 158) = .pointer (some ⟨b, off + 4, none⟩) := e1
      have e2b : a.tmps[158]?.getD undef = .pointer (some ⟨b, off + 4, none⟩) := by rw [← Array.getD_eq_getD_getElem?]; exact e2
      obtain ⟨x, hok, hc⟩ := E.get w hM.box
      have c0 : w.cell? ⟨b, off + 4, none⟩ = some _ := hc 4 _ rfl
      exact wpOp_val (v := .string x.ride) rfl rfl (by unfold execOp; simp only; go_simp) ⟨_, rfl, hM.pass, Two.refl _ _ _, fun _ _ => ⟨_, rfl, hok.ride⟩⟩
    | 3, ho =>
      obtain rfl := Option.some.inj ho
      have e1 := hdep 2 _ 159 rfl ⟨_, Array.mem_of_getElem? (i := 0) rfl, rfl, rfl⟩ rfl
      obtain ⟨z1, f1, hz1⟩ := e1
      have f1 : a.eval (.tmp 159) = .string z1 := f1
      have f1b : a.tmps[159]?.getD undef = .string z1 := by rw [← Array.getD_eq_getD_getElem?]; exact f1
      have hb := E.lt w hM.box
      have hs := hM.str.lt
      refine wpOp_val (w' := w.alloc (.cells #[.string z1, .string ⟨#[]⟩, .string ⟨#[65]⟩] 9 (0, 0))) (v := .slice (some ⟨w.heap.size, 0, none⟩) 3 3) rfl rfl (by unfold execOp; simp only; go_simp) ⟨_, rfl, hM.alloc E _, Two.alloc _ _, fun _ _ => ⟨w.heap.size, [z1, ⟨#[]⟩, ⟨#[65]⟩], rfl, rfl, ?_, by omega, by omega, heap_alloc_new w _⟩⟩
      intro z hz
      simp only [List.mem_cons, List.not_mem_nil, or_false] at hz
      rcases hz with rfl | rfl | rfl
      all_goals first | assumption | decide
    | 4, ho =>
      obtain rfl := Option.some.inj ho
      have e1 := hdep 0 _ 157 rfl ⟨_, Array.mem_of_getElem? (i := 0) rfl, rfl, rfl⟩ rfl
      have e2 := hdep 3 _ 160 rfl ⟨_, Array.mem_of_getElem? (i := 1) rfl, rfl, rfl⟩ rfl
      refine ty_some rfl rfl rfl e1 e2 (by decide) hM.str (by omega) ?_
      intro t w' ht hg hS
      exact ⟨_, rfl, hM.gr E (by omega) hg (hS.more (by omega)), Two.of_gr hg, fun _ _ => ⟨_, rfl, ht⟩⟩
    | 5, ho =>
      obtain rfl := Option.some.inj ho
      have e1 := (hold 0 (by decide)).trans g0
      exact wpOp_val (v := a.tmps.getD 0 undef) rfl rfl (by unfold execOp; go_simp) ⟨_, rfl, hM.pass, Two.refl _ _ _, fun _ _ => e1⟩
    | 6, ho =>
      obtain rfl := Option.some.inj ho
      have e1 := (hold 7 (by decide)).trans g7
      have e2 : a.eval (.tmp 7) = .pointer (some ⟨b, off, none⟩) := e1
      have e2b : a.tmps[7]?.getD undef = .pointer (some ⟨b, off, none⟩) := by rw [← Array.getD_eq_getD_getElem?]; exact e2
      exact wpOp_val (v := .pointer (some ⟨b, off + 5, none⟩)) rfl rfl (by unfold execOp; simp only; go_simp) ⟨_, rfl, hM.pass, Two.refl _ _ _, fun _ _ => rfl⟩
    | 7, ho =>
      obtain rfl := Option.some.inj ho
      have e1 := hdep 6 _ 163 rfl ⟨_, Array.mem_of_getElem? (i := 0) rfl, rfl, rfl⟩ rfl
      have e2 : a.eval (.tmp 163) = .pointer (some ⟨b, off + 5, none⟩) := e1
      have e2b : a.tmps[163]?.getD undef = .pointer (some ⟨b, off + 5, none⟩) := by rw [← Array.getD_eq_getD_getElem?]; exact e2
      obtain ⟨x, hok, hc⟩ := E.get w hM.box
      have c0 : w.cell? ⟨b, off + 5, none⟩ = some _ := hc 5 _ rfl
      exact wpOp_val (v := .string x.car) rfl rfl (by unfold execOp; simp only; go_simp) ⟨_, rfl, hM.pass, Two.refl _ _ _, fun _ _ => ⟨_, rfl, hok.car⟩⟩
    | 8, ho =>
      obtain rfl := Option.some.inj ho
      have e1 := hdep 7 _ 164 rfl ⟨_, Array.mem_of_getElem? (i := 0) rfl, rfl, rfl⟩ rfl
      obtain ⟨z1, f1, hz1⟩ := e1
      have f1 : a.eval (.tmp 164) = .string z1 := f1
      have f1b : a.tmps[164]?.getD undef = .string z1 := by rw [← Array.getD_eq_getD_getElem?]; exact f1
      have hb := E.lt w hM.box
      have hs := hM.str.lt
      refine wpOp_val (w' := w.alloc (.cells #[.string z1, .string ⟨#[99, 97]⟩] 9 (0, 0))) (v := .slice (some ⟨w.heap.size, 0, none⟩) 2 2) rfl rfl (by unfold execOp; simp only; go_simp) ⟨_, rfl, hM.alloc E _, Two.alloc _ _, fun _ _ => ⟨w.heap.size, [z1, ⟨#[99, 97]⟩], rfl, rfl, ?_, by omega, by omega, heap_alloc_new w _⟩⟩
      intro z hz
      simp only [List.mem_cons, List.not_mem_nil, or_false] at hz
      rcases hz with rfl | rfl
      all_goals first | assumption | decide
    | 9, ho =>
      obtain rfl := Option.some.inj ho
      have e1 := hdep 5 _ 162 rfl ⟨_, Array.mem_of_getElem? (i := 0) rfl, rfl, rfl⟩ rfl
      have e2 := hdep 8 _ 165 rfl ⟨_, Array.mem_of_getElem? (i := 1) rfl, rfl, rfl⟩ rfl
      refine ty_some rfl rfl rfl e1 e2 (by decide) hM.str (by omega) ?_
      intro t w' ht hg hS
      exact ⟨_, rfl, hM.gr E (by omega) hg (hS.more (by omega)), Two.of_gr hg, fun _ _ => ⟨_, rfl, ht⟩⟩
    | 10, ho =>
      obtain rfl := Option.some.inj ho
      have e1 := (hold 7 (by decide)).trans g7
      have e2 : a.eval (.tmp 7) = .pointer (some ⟨b, off, none⟩) := e1
      have e2b : a.tmps[7]?.getD undef = .pointer (some ⟨b, off, none⟩) := by rw [← Array.getD_eq_getD_getElem?]; exact e2
      exact wpOp_val (v := .pointer (some ⟨b, off + 4, none⟩)) rfl rfl (by unfold execOp; simp only; go_simp) ⟨_, rfl, hM.pass, Two.refl _ _ _, fun _ _ => rfl⟩
    | 11, ho =>
      obtain rfl := Option.some.inj ho
      have e1 := hdep 10 _ 167 rfl ⟨_, Array.mem_of_getElem? (i := 0) rfl, rfl, rfl⟩ rfl
      have e2 := hdep 4 _ 161 rfl ⟨_, Array.mem_of_getElem? (i := 1) rfl, rfl, rfl⟩ rfl
      have e3 : a.eval (.tmp 167) = .pointer (some ⟨b, off + 4, none⟩) := e1
      have e3b : a.tmps[167]?.getD undef = .pointer (some ⟨b, off + 4, none⟩) := by rw [← Array.getD_eq_getD_getElem?]; exact e3
      obtain ⟨z, e4, hz⟩ := e2
      have e4 : a.eval (.tmp 161) = .string z := e4
      have e4b : a.tmps[161]?.getD undef = .string z := by rw [← Array.getD_eq_getD_getElem?]; exact e4
      obtain ⟨x, hok, hc⟩ := E.get w hM.box
      have c0 : w.cell? ⟨b, off + 4, none⟩ = some _ := hc 4 _ rfl
      have hfz := E.frz w (off + 4) hM.box
      exact wpOp_skip (w' := w.setCell ⟨b, off + 4, none⟩ (.string z)) rfl rfl (by unfold execOp; simp only; go_simp) ⟨_, rfl, hM.setS E hsb (j := 4) (by decide) hz, Two.set _, fun _ _ => trivial⟩
    | 12, ho =>
      obtain rfl := Option.some.inj ho
      have e1 := (hold 7 (by decide)).trans g7
      have e2 : a.eval (.tmp 7) = .pointer (some ⟨b, off, none⟩) := e1
      have e2b : a.tmps[7]?.getD undef = .pointer (some ⟨b, off, none⟩) := by rw [← Array.getD_eq_getD_getElem?]; exact e2
      exact wpOp_val (v := .pointer (some ⟨b, off + 5, none⟩)) rfl rfl (by unfold execOp; simp only; go_simp) ⟨_, rfl, hM.pass, Two.refl _ _ _, fun _ _ => rfl⟩
    | 13, ho =>
      obtain rfl := Option.some.inj ho
      have e1 := hdep 12 _ 168 rfl ⟨_, Array.mem_of_getElem? (i := 0) rfl, rfl, rfl⟩ rfl
      have e2 := hdep 9 _ 166 rfl ⟨_, Array.mem_of_getElem? (i := 1) rfl, rfl, rfl⟩ rfl
      have e3 : a.eval (.tmp 168) = .pointer (some ⟨b, off + 5, none⟩) := e1
      have e3b : a.tmps[168]?.getD undef = .pointer (some ⟨b, off + 5, none⟩) := by rw [← Array.getD_eq_getD_getElem?]; exact e3
      obtain ⟨z, e4, hz⟩ := e2
      have e4 : a.eval (.tmp 166) = .string z := e4
      have e4b : a.tmps[166]?.getD undef = .string z := by rw [← Array.getD_eq_getD_getElem?]; exact e4
      obtain ⟨x, hok, hc⟩ := E.get w hM.box
      have c0 : w.cell? ⟨b, off + 5, none⟩ = some _ := hc 5 _ rfl
      have hfz := E.frz w (off + 5) hM.box
      exact wpOp_skip (w' := w.setCell ⟨b, off + 5, none⟩ (.string z)) rfl rfl (by unfold execOp; simp only; go_simp) ⟨_, rfl, hM.setS E hsb (j := 5) (by decide) hz, Two.set _, fun _ _ => trivial⟩
    | j + 14, ho => simp at ho
  · intro listed a w hK hW2 _
    obtain ⟨f, rfl⟩ := known_frame hK (by rw [hsz]; kernel_rfl)
    exact hend f w hW2
noncomputable def ty_e42C : Code := (findReg 42 (Tryz.f39.body.getD .skip)).getD .skip
def ty_e42Sh (s b off : Nat) : Nat → Value → World → Prop
  | 0, v, w => ShPtr s 0 v w
  | 1, v, w => ShPtr b (off + 7) v w
  | 2, v, w => ShZ v w
  | 3, v, w => ShA v w
  | 4, v, w => ShZ v w
  | 5, v, w => ShLZ s b 3 v w
  | 6, v, w => ShZ v w
  | 7, v, w => ShPtr s 0 v w
  | 8, v, w => ShPtr b (off + 8) v w
  | 9, v, w => ShZ v w
  | 10, v, w => ShLZ s b 3 v w
  | 11, v, w => ShZ v w
  | 12, v, w => ShPtr b (off + 7) v w
  | 13, _, _ => True
  | 14, v, w => ShPtr b (off + 8) v w
  | 15, _, _ => True
  | _, _, _ => True
def ty_e42D : List Tmp := [171, 172, 173, 174, 175, 176, 177, 178, 179, 180, 181, 182, 183, 184]
set_option maxRecDepth 100000 in
set_option maxHeartbeats 2000000 in
theorem ty_e42 {Q : Exit → Act → World → Prop} {a0 : Act} {w0 w : World} {s b off k : Nat} {B : World → Prop} (E : EvBox b off B) (hsb : s < b) (hk : k < 800000) (hsz : a0.tmps.size = 186) (g0 : a0.tmps.getD 0 undef = .pointer (some ⟨s, 0, none⟩)) (g7 : a0.tmps.getD 7 undef = .pointer (some ⟨b, off, none⟩)) (g2 : ∀ w, ShA (a0.tmps.getD 2 undef) w) (hW : TyW s b k B w0 0 w)
    (hend : ∀ (f : Tmp → Value) (w' : World), TyW s b k B w0 16 w' → Q .normal ⟨ty_e42D.foldl (fun t d => t.setIfInBounds d (f d)) a0.tmps, a0.defers⟩ w') : Code.wp Tryz.prog ty_e42C Q a0 w := by
  conv => arg 2; whnf
  refine wp_region_known (by kernel_rfl) (TyW s b k B w0) (ty_e42Sh s b off) (Two s b) a0 (by rw [hsz]; kernel_rfl) (by kernel_rfl) ?_ ?_ ?_ ⟨hW.two.trans (Two.of_gr ((Gr.refl s w).drew)), hW.str.nx (Nx.refl w).drew, E.same _ _ hW.box rfl (Nat.le_refl _)⟩
  · intro i v w w' h hkp
    match i, h with
    | 0, h => exact h
    | 1, h => exact h
    | 2, h => exact h
    | 3, h => exact h
    | 4, h => exact h
    | 5, h => exact ShLZ.keep h hkp
    | 6, h => exact h
    | 7, h => exact h
    | 8, h => exact h
    | 9, h => exact h
    | 10, h => exact ShLZ.keep h hkp
    | 11, h => exact h
    | 12, h => exact h
    | 13, h => exact h
    | 14, h => exact h
    | 15, h => exact h
    | _ + 16, _ => trivial
  · intro i o ho m a w hm hM hold hdep
    have hm : m < 16 := hm
    match i, ho with
    | 0, ho =>
      obtain rfl := Option.some.inj ho
      have e1 := (hold 0 (by decide)).trans g0
      exact wpOp_val (v := a.tmps.getD 0 undef) rfl rfl (by unfold execOp; go_simp) ⟨_, rfl, hM.pass, Two.refl _ _ _, fun _ _ => e1⟩
    | 1, ho =>
      obtain rfl := Option.some.inj ho
      have e1 := (hold 7 (by decide)).trans g7
      have e2 : a.eval (.tmp 7) = .pointer (some ⟨b, off, none⟩) := e1
      have e2b : a.tmps[7]?.getD undef = .pointer (some ⟨b, off, none⟩) := by rw [← Array.getD_eq_getD_getElem?]; exact e2
      exact wpOp_val (v := .pointer (some ⟨b, off + 7, none⟩)) rfl rfl (by unfold execOp; simp only; go_simp) ⟨_, rfl, hM.pass, Two.refl _ _ _, fun _ _ => rfl⟩
    | 2, ho =>
      obtain rfl := Option.some.inj ho
      have e1 := hdep 1 _ 172 rfl ⟨_, Array.mem_of_getElem? (i := 0) rfl, rfl, rfl⟩ rfl
      have e2 : a.eval (.tmp 172) = .pointer (some ⟨b, off + 7, none⟩) := e1
      have e2b : a.tmps[172]?.getD undef = .pointer (some ⟨b, off + 7, none⟩) := by rw [← Array.getD_eq_getD_getElem?]; exact e2
      obtain ⟨x, hok, hc⟩ := E.get w hM.box
      have c0 : w.cell? ⟨b, off + 7, none⟩ = some _ := hc 7 _ rfl
      exact wpOp_val (v := .int .i64 x.up) rfl rfl (by unfold execOp; simp only; go_simp) ⟨_, rfl, hM.pass, Two.refl _ _ _, fun _ _ => ⟨_, rfl, hok.up⟩⟩
    | 3, ho =>
      obtain rfl := Option.some.inj ho
      have e1 : ShA (a.tmps.getD 2 undef) w := by rw [hold 2 (by decide)]; exact g2 w
      exact wpOp_val (v := a.tmps.getD 2 undef) rfl rfl (by unfold execOp; go_simp) ⟨_, rfl, hM.pass, Two.refl _ _ _, fun _ _ => e1⟩
    | 4, ho =>
      obtain rfl := Option.some.inj ho
      have e1 := hdep 3 _ 174 rfl ⟨_, Array.mem_of_getElem? (i := 0) rfl, rfl, rfl⟩ rfl
      obtain ⟨z, e2, hz1, hz2⟩ := e1
      have e2 : a.eval (.tmp 174) = .int .i64 z := e2
      have e2b : a.tmps[174]?.getD undef = .int .i64 z := by rw [← Array.getD_eq_getD_getElem?]; exact e2
      have hw : IntKind.i64.wrap (z - 1) = z - 1 := IntWalk.i64_in _ (by omega)
      exact wpOp_val (v := .int .i64 (z - 1)) rfl rfl (by unfold execOp; simp only; go_simp) ⟨_, rfl, hM.pass, Two.refl _ _ _, fun _ _ => ⟨_, rfl, by omega, by omega⟩⟩
    | 5, ho =>
      obtain rfl := Option.some.inj ho
      have e1 := hdep 2 _ 173 rfl ⟨_, Array.mem_of_getElem? (i := 0) rfl, rfl, rfl⟩ rfl
      obtain ⟨z1, f1, hz1⟩ := e1
      have f1 : a.eval (.tmp 173) = .int .i64 z1 := f1
      have f1b : a.tmps[173]?.getD undef = .int .i64 z1 := by rw [← Array.getD_eq_getD_getElem?]; exact f1
      have e2 := hdep 4 _ 175 rfl ⟨_, Array.mem_of_getElem? (i := 1) rfl, rfl, rfl⟩ rfl
      obtain ⟨z2, f2, hz2⟩ := e2
      have f2 : a.eval (.tmp 175) = .int .i64 z2 := f2
      have f2b : a.tmps[175]?.getD undef = .int .i64 z2 := by rw [← Array.getD_eq_getD_getElem?]; exact f2
      have hb := E.lt w hM.box
      have hs := hM.str.lt
      refine wpOp_val (w' := w.alloc (.cells #[.int .i64 (0), .int .i64 z1, .int .i64 z2] 3 (0, 0))) (v := .slice (some ⟨w.heap.size, 0, none⟩) 3 3) rfl rfl (by unfold execOp; simp only; go_simp) ⟨_, rfl, hM.alloc E _, Two.alloc _ _, fun _ _ => ⟨w.heap.size, [(0), z1, z2], rfl, rfl, ?_, by omega, by omega, heap_alloc_new w _⟩⟩
      intro z hz
      simp only [List.mem_cons, List.not_mem_nil, or_false] at hz
      rcases hz with rfl | rfl | rfl
      all_goals first | assumption | decide
    | 6, ho =>
      obtain rfl := Option.some.inj ho
      have e1 := hdep 0 _ 171 rfl ⟨_, Array.mem_of_getElem? (i := 0) rfl, rfl, rfl⟩ rfl
      have e2 := hdep 5 _ 176 rfl ⟨_, Array.mem_of_getElem? (i := 1) rfl, rfl, rfl⟩ rfl
      refine ty_pick rfl rfl rfl e1 e2 (by decide) hM.str (by omega) ?_
      intro t w' ht hg hS
      exact ⟨_, rfl, hM.gr E (by omega) hg (hS.more (by omega)), Two.of_gr hg, fun _ _ => ⟨_, rfl, ht⟩⟩
    | 7, ho =>
      obtain rfl := Option.some.inj ho
      have e1 := (hold 0 (by decide)).trans g0
      exact wpOp_val (v := a.tmps.getD 0 undef) rfl rfl (by unfold execOp; go_simp) ⟨_, rfl, hM.pass, Two.refl _ _ _, fun _ _ => e1⟩
    | 8, ho =>
      obtain rfl := Option.some.inj ho
      have e1 := (hold 7 (by decide)).trans g7
      have e2 : a.eval (.tmp 7) = .pointer (some ⟨b, off, none⟩) := e1
      have e2b : a.tmps[7]?.getD undef = .pointer (some ⟨b, off, none⟩) := by rw [← Array.getD_eq_getD_getElem?]; exact e2
      exact wpOp_val (v := .pointer (some ⟨b, off + 8, none⟩)) rfl rfl (by unfold execOp; simp only; go_simp) ⟨_, rfl, hM.pass, Two.refl _ _ _, fun _ _ => rfl⟩
    | 9, ho =>
      obtain rfl := Option.some.inj ho
      have e1 := hdep 8 _ 179 rfl ⟨_, Array.mem_of_getElem? (i := 0) rfl, rfl, rfl⟩ rfl
      have e2 : a.eval (.tmp 179) = .pointer (some ⟨b, off + 8, none⟩) := e1
      have e2b : a.tmps[179]?.getD undef = .pointer (some ⟨b, off + 8, none⟩) := by rw [← Array.getD_eq_getD_getElem?]; exact e2
      obtain ⟨x, hok, hc⟩ := E.get w hM.box
      have c0 : w.cell? ⟨b, off + 8, none⟩ = some _ := hc 8 _ rfl
      exact wpOp_val (v := .int .i64 x.down) rfl rfl (by unfold execOp; simp only; go_simp) ⟨_, rfl, hM.pass, Two.refl _ _ _, fun _ _ => ⟨_, rfl, hok.down⟩⟩
    | 10, ho =>
      obtain rfl := Option.some.inj ho
      have e1 := hdep 9 _ 180 rfl ⟨_, Array.mem_of_getElem? (i := 0) rfl, rfl, rfl⟩ rfl
      obtain ⟨z1, f1, hz1⟩ := e1
      have f1 : a.eval (.tmp 180) = .int .i64 z1 := f1
      have f1b : a.tmps[180]?.getD undef = .int .i64 z1 := by rw [← Array.getD_eq_getD_getElem?]; exact f1
      have hb := E.lt w hM.box
      have hs := hM.str.lt
      refine wpOp_val (w' := w.alloc (.cells #[.int .i64 (0), .int .i64 z1, .int .i64 (345686400000)] 3 (0, 0))) (v := .slice (some ⟨w.heap.size, 0, none⟩) 3 3) rfl rfl (by unfold execOp; simp only; go_simp) ⟨_, rfl, hM.alloc E _, Two.alloc _ _, fun _ _ => ⟨w.heap.size, [(0), z1, (345686400000)], rfl, rfl, ?_, by omega, by omega, heap_alloc_new w _⟩⟩
      intro z hz
      simp only [List.mem_cons, List.not_mem_nil, or_false] at hz
      rcases hz with rfl | rfl | rfl
      all_goals first | assumption | decide
    | 11, ho =>
      obtain rfl := Option.some.inj ho
      have e1 := hdep 7 _ 178 rfl ⟨_, Array.mem_of_getElem? (i := 0) rfl, rfl, rfl⟩ rfl
      have e2 := hdep 10 _ 181 rfl ⟨_, Array.mem_of_getElem? (i := 1) rfl, rfl, rfl⟩ rfl
      refine ty_pick rfl rfl rfl e1 e2 (by decide) hM.str (by omega) ?_
      intro t w' ht hg hS
      exact ⟨_, rfl, hM.gr E (by omega) hg (hS.more (by omega)), Two.of_gr hg, fun _ _ => ⟨_, rfl, ht⟩⟩
    | 12, ho =>
      obtain rfl := Option.some.inj ho
      have e1 := (hold 7 (by decide)).trans g7
      have e2 : a.eval (.tmp 7) = .pointer (some ⟨b, off, none⟩) := e1
      have e2b : a.tmps[7]?.getD undef = .pointer (some ⟨b, off, none⟩) := by rw [← Array.getD_eq_getD_getElem?]; exact e2
      exact wpOp_val (v := .pointer (some ⟨b, off + 7, none⟩)) rfl rfl (by unfold execOp; simp only; go_simp) ⟨_, rfl, hM.pass, Two.refl _ _ _, fun _ _ => rfl⟩
    | 13, ho =>
      obtain rfl := Option.some.inj ho
      have e1 := hdep 12 _ 183 rfl ⟨_, Array.mem_of_getElem? (i := 0) rfl, rfl, rfl⟩ rfl
      have e2 := hdep 6 _ 177 rfl ⟨_, Array.mem_of_getElem? (i := 1) rfl, rfl, rfl⟩ rfl
      have e3 : a.eval (.tmp 183) = .pointer (some ⟨b, off + 7, none⟩) := e1
      have e3b : a.tmps[183]?.getD undef = .pointer (some ⟨b, off + 7, none⟩) := by rw [← Array.getD_eq_getD_getElem?]; exact e3
      obtain ⟨z, e4, hz⟩ := e2
      have e4 : a.eval (.tmp 177) = .int .i64 z := e4
      have e4b : a.tmps[177]?.getD undef = .int .i64 z := by rw [← Array.getD_eq_getD_getElem?]; exact e4
      obtain ⟨x, hok, hc⟩ := E.get w hM.box
      have c0 : w.cell? ⟨b, off + 7, none⟩ = some _ := hc 7 _ rfl
      have hfz := E.frz w (off + 7) hM.box
      exact wpOp_skip (w' := w.setCell ⟨b, off + 7, none⟩ (.int .i64 z)) rfl rfl (by unfold execOp; simp only; go_simp) ⟨_, rfl, hM.setI E hsb (j := 7) (by decide) hz, Two.set _, fun _ _ => trivial⟩
    | 14, ho =>
      obtain rfl := Option.some.inj ho
      have e1 := (hold 7 (by decide)).trans g7
      have e2 : a.eval (.tmp 7) = .pointer (some ⟨b, off, none⟩) := e1
      have e2b : a.tmps[7]?.getD undef = .pointer (some ⟨b, off, none⟩) := by rw [← Array.getD_eq_getD_getElem?]; exact e2
      exact wpOp_val (v := .pointer (some ⟨b, off + 8, none⟩)) rfl rfl (by unfold execOp; simp only; go_simp) ⟨_, rfl, hM.pass, Two.refl _ _ _, fun _ _ => rfl⟩
    | 15, ho =>
      obtain rfl := Option.some.inj ho
      have e1 := hdep 14 _ 184 rfl ⟨_, Array.mem_of_getElem? (i := 0) rfl, rfl, rfl⟩ rfl
      have e2 := hdep 11 _ 182 rfl ⟨_, Array.mem_of_getElem? (i := 1) rfl, rfl, rfl⟩ rfl
      have e3 : a.eval (.tmp 184) = .pointer (some ⟨b, off + 8, none⟩) := e1
      have e3b : a.tmps[184]?.getD undef = .pointer (some ⟨b, off + 8, none⟩) := by rw [← Array.getD_eq_getD_getElem?]; exact e3
      obtain ⟨z, e4, hz⟩ := e2
      have e4 : a.eval (.tmp 182) = .int .i64 z := e4
      have e4b : a.tmps[182]?.getD undef = .int .i64 z := by rw [← Array.getD_eq_getD_getElem?]; exact e4
      obtain ⟨x, hok, hc⟩ := E.get w hM.box
      have c0 : w.cell? ⟨b, off + 8, none⟩ = some _ := hc 8 _ rfl
      have hfz := E.frz w (off + 8) hM.box
      exact wpOp_skip (w' := w.setCell ⟨b, off + 8, none⟩ (.int .i64 z)) rfl rfl (by unfold execOp; simp only; go_simp) ⟨_, rfl, hM.setI E hsb (j := 8) (by decide) hz, Two.set _, fun _ _ => trivial⟩
    | j + 16, ho => simp at ho
  · intro listed a w hK hW2 _
    obtain ⟨f, rfl⟩ := known_frame hK (by rw [hsz]; kernel_rfl)
    exact hend f w hW2
noncomputable def ty_es18C : Code := (findReg 18 (Tryz.f8.body.getD .skip)).getD .skip
def ty_es18Sh (s b off : Nat) : Nat → Value → World → Prop
  | 0, v, w => ShPtr b off v w
  | 1, v, w => ShPtr b off v w
  | 2, v, w => ShPtr b off v w
  | 3, v, w => ShPtr s 0 v w
  | 4, v, w => ShPtr b off v w
  | 5, v, w => ShPtr b off v w
  | 6, v, w => ShPtr b off v w
  | 7, v, w => ShT v w
  | 8, v, w => ShLT s b 3 v w
  | 9, v, w => ShT v w
  | 10, v, w => ShPtr s 0 v w
  | 11, v, w => ShPtr b off v w
  | 12, v, w => ShPtr b off v w
  | 13, v, w => ShPtr b (off + 1) v w
  | 14, v, w => ShZ v w
  | 15, v, w => ShLZ s b 3 v w
  | 16, v, w => ShZ v w
  | 17, v, w => ShPtr s 0 v w
  | 18, v, w => ShPtr b off v w
  | 19, v, w => ShPtr b off v w
  | 20, v, w => ShPtr b (off + 2) v w
  | 21, v, w => ShZ v w
  | 22, v, w => ShLZ s b 3 v w
  | 23, v, w => ShZ v w
  | 24, v, w => ShPtr b off v w
  | 25, v, w => ShPtr b off v w
  | 26, _, _ => True
  | 27, v, w => ShPtr b off v w
  | 28, v, w => ShPtr b (off + 1) v w
  | 29, _, _ => True
  | 30, v, w => ShPtr b off v w
  | 31, v, w => ShPtr b (off + 2) v w
  | 32, _, _ => True
  | _, _, _ => True
def ty_es18D : List Tmp := [92, 93, 94, 95, 96, 97, 98, 99, 100, 101, 102, 103, 104, 105, 106, 107, 108, 109, 110, 111, 112, 113, 114, 115, 116, 117, 118, 119, 120, 121]
set_option maxRecDepth 100000 in
set_option maxHeartbeats 2000000 in
theorem ty_es18 {Q : Exit → Act → World → Prop} {a0 : Act} {w0 w : World} {s b off k : Nat} {B : World → Prop} (E : EvBox b off B) (hsb : s < b) (hk : k < 800000) (hsz : a0.tmps.size = 123) (g0 : a0.tmps.getD 0 undef = .pointer (some ⟨s, 0, none⟩)) (g10 : a0.tmps.getD 10 undef = .pointer (some ⟨b, off, none⟩))  (hW : TyW s b k B w0 0 w)
    (hend : ∀ (f : Tmp → Value) (w' : World), TyW s b k B w0 33 w' → Q .normal ⟨ty_es18D.foldl (fun t d => t.setIfInBounds d (f d)) a0.tmps, a0.defers⟩ w') : Code.wp Tryz.prog ty_es18C Q a0 w := by
  conv => arg 2; whnf
  refine wp_region_known (by kernel_rfl) (TyW s b k B w0) (ty_es18Sh s b off) (Two s b) a0 (by rw [hsz]; kernel_rfl) (by kernel_rfl) ?_ ?_ ?_ ⟨hW.two.trans (Two.of_gr ((Gr.refl s w).drew)), hW.str.nx (Nx.refl w).drew, E.same _ _ hW.box rfl (Nat.le_refl _)⟩
  · intro i v w w' h hkp
    match i, h with
    | 0, h => exact h
    | 1, h => exact h
    | 2, h => exact h
    | 3, h => exact h
    | 4, h => exact h
    | 5, h => exact h
    | 6, h => exact h
    | 7, h => exact h
    | 8, h => exact ShLT.keep h hkp
    | 9, h => exact h
    | 10, h => exact h
    | 11, h => exact h
    | 12, h => exact h
    | 13, h => exact h
    | 14, h => exact h
    | 15, h => exact ShLZ.keep h hkp
    | 16, h => exact h
    | 17, h => exact h
    | 18, h => exact h
    | 19, h => exact h
    | 20, h => exact h
    | 21, h => exact h
    | 22, h => exact ShLZ.keep h hkp
    | 23, h => exact h
    | 24, h => exact h
    | 25, h => exact h
    | 26, h => exact h
    | 27, h => exact h
    | 28, h => exact h
    | 29, h => exact h
    | 30, h => exact h
    | 31, h => exact h
    | 32, h => exact h
    | _ + 33, _ => trivial
  · intro i o ho m a w hm hM hold hdep
    have hm : m < 33 := hm
    match i, ho with
    | 0, ho =>
      obtain rfl := Option.some.inj ho
      have e1 := (hold 10 (by decide)).trans g10
      exact wpOp_val (v := a.tmps.getD 10 undef) rfl rfl (by unfold execOp; go_simp) ⟨_, rfl, hM.pass, Two.refl _ _ _, fun _ _ => e1⟩
    | 1, ho =>
      obtain rfl := Option.some.inj ho
      have e1 := (hold 10 (by decide)).trans g10
      exact wpOp_val (v := a.tmps.getD 10 undef) rfl rfl (by unfold execOp; go_simp) ⟨_, rfl, hM.pass, Two.refl _ _ _, fun _ _ => e1⟩
    | 2, ho =>
      obtain rfl := Option.some.inj ho
      have e1 := (hold 10 (by decide)).trans g10
      exact wpOp_val (v := a.tmps.getD 10 undef) rfl rfl (by unfold execOp; go_simp) ⟨_, rfl, hM.pass, Two.refl _ _ _, fun _ _ => e1⟩
    | 3, ho =>
      obtain rfl := Option.some.inj ho
      have e1 := (hold 0 (by decide)).trans g0
      exact wpOp_val (v := a.tmps.getD 0 undef) rfl rfl (by unfold execOp; go_simp) ⟨_, rfl, hM.pass, Two.refl _ _ _, fun _ _ => e1⟩
    | 4, ho =>
      obtain rfl := Option.some.inj ho
      have e1 := (hold 10 (by decide)).trans g10
      exact wpOp_val (v := a.tmps.getD 10 undef) rfl rfl (by unfold execOp; go_simp) ⟨_, rfl, hM.pass, Two.refl _ _ _, fun _ _ => e1⟩
    | 5, ho =>
      obtain rfl := Option.some.inj ho
      have e1 := hdep 4 _ 96 rfl ⟨_, Array.mem_of_getElem? (i := 0) rfl, rfl, rfl⟩ rfl
      have e2 : a.eval (.tmp 96) = .pointer (some ⟨b, off, none⟩) := e1
      have e2b : a.tmps[96]?.getD undef = .pointer (some ⟨b, off, none⟩) := by rw [← Array.getD_eq_getD_getElem?]; exact e2
      exact wpOp_val (v := .pointer (some ⟨b, off, none⟩)) rfl rfl (by unfold execOp; simp only; go_simp) ⟨_, rfl, hM.pass, Two.refl _ _ _, fun _ _ => rfl⟩
    | 6, ho =>
      obtain rfl := Option.some.inj ho
      have e1 := hdep 5 _ 97 rfl ⟨_, Array.mem_of_getElem? (i := 0) rfl, rfl, rfl⟩ rfl
      have e2 : a.eval (.tmp 97) = .pointer (some ⟨b, off, none⟩) := e1
      have e2b : a.tmps[97]?.getD undef = .pointer (some ⟨b, off, none⟩) := by rw [← Array.getD_eq_getD_getElem?]; exact e2
      exact wpOp_val (v := .pointer (some ⟨b, off, none⟩)) rfl rfl (by unfold execOp; simp only; go_simp) ⟨_, rfl, hM.pass, Two.refl _ _ _, fun _ _ => rfl⟩
    | 7, ho =>
      obtain rfl := Option.some.inj ho
      have e1 := hdep 6 _ 98 rfl ⟨_, Array.mem_of_getElem? (i := 0) rfl, rfl, rfl⟩ rfl
      have e2 : a.eval (.tmp 98) = .pointer (some ⟨b, off, none⟩) := e1
      have e2b : a.tmps[98]?.getD undef = .pointer (some ⟨b, off, none⟩) := by rw [← Array.getD_eq_getD_getElem?]; exact e2
      obtain ⟨x, hok, hc⟩ := E.get w hM.box
      have c0 : w.cell? ⟨b, off, none⟩ = some _ := hc 0 _ rfl
      exact wpOp_val (v := .string x.source) rfl rfl (by unfold execOp; simp only; go_simp) ⟨_, rfl, hM.pass, Two.refl _ _ _, fun _ _ => ⟨_, rfl, hok.source⟩⟩
    | 8, ho =>
      obtain rfl := Option.some.inj ho
      have e1 := hdep 7 _ 99 rfl ⟨_, Array.mem_of_getElem? (i := 0) rfl, rfl, rfl⟩ rfl
      obtain ⟨z1, f1, hz1⟩ := e1
      have f1 : a.eval (.tmp 99) = .string z1 := f1
      have f1b : a.tmps[99]?.getD undef = .string z1 := by rw [← Array.getD_eq_getD_getElem?]; exact f1
      have hb := E.lt w hM.box
      have hs := hM.str.lt
      refine wpOp_val (w' := w.alloc (.cells #[.string z1, .string ⟨#[]⟩, .string ⟨#[115, 122]⟩] 9 (0, 0))) (v := .slice (some ⟨w.heap.size, 0, none⟩) 3 3) rfl rfl (by unfold execOp; simp only; go_simp) ⟨_, rfl, hM.alloc E _, Two.alloc _ _, fun _ _ => ⟨w.heap.size, [z1, ⟨#[]⟩, ⟨#[115, 122]⟩], rfl, rfl, ?_, by omega, by omega, heap_alloc_new w _⟩⟩
      intro z hz
      simp only [List.mem_cons, List.not_mem_nil, or_false] at hz
      rcases hz with rfl | rfl | rfl
      all_goals first | assumption | decide
    | 9, ho =>
      obtain rfl := Option.some.inj ho
      have e1 := hdep 3 _ 95 rfl ⟨_, Array.mem_of_getElem? (i := 0) rfl, rfl, rfl⟩ rfl
      have e2 := hdep 8 _ 100 rfl ⟨_, Array.mem_of_getElem? (i := 1) rfl, rfl, rfl⟩ rfl
      refine ty_some rfl rfl rfl e1 e2 (by decide) hM.str (by omega) ?_
      intro t w' ht hg hS
      exact ⟨_, rfl, hM.gr E (by omega) hg (hS.more (by omega)), Two.of_gr hg, fun _ _ => ⟨_, rfl, ht⟩⟩
    | 10, ho =>
      obtain rfl := Option.some.inj ho
      have e1 := (hold 0 (by decide)).trans g0
      exact wpOp_val (v := a.tmps.getD 0 undef) rfl rfl (by unfold execOp; go_simp) ⟨_, rfl, hM.pass, Two.refl _ _ _, fun _ _ => e1⟩
    | 11, ho =>
      obtain rfl := Option.some.inj ho
      have e1 := (hold 10 (by decide)).trans g10
      exact wpOp_val (v := a.tmps.getD 10 undef) rfl rfl (by unfold execOp; go_simp) ⟨_, rfl, hM.pass, Two.refl _ _ _, fun _ _ => e1⟩
    | 12, ho =>
      obtain rfl := Option.some.inj ho
      have e1 := hdep 11 _ 103 rfl ⟨_, Array.mem_of_getElem? (i := 0) rfl, rfl, rfl⟩ rfl
      have e2 : a.eval (.tmp 103) = .pointer (some ⟨b, off, none⟩) := e1
      have e2b : a.tmps[103]?.getD undef = .pointer (some ⟨b, off, none⟩) := by rw [← Array.getD_eq_getD_getElem?]; exact e2
      exact wpOp_val (v := .pointer (some ⟨b, off, none⟩)) rfl rfl (by unfold execOp; simp only; go_simp) ⟨_, rfl, hM.pass, Two.refl _ _ _, fun _ _ => rfl⟩
    | 13, ho =>
      obtain rfl := Option.some.inj ho
      have e1 := hdep 12 _ 104 rfl ⟨_, Array.mem_of_getElem? (i := 0) rfl, rfl, rfl⟩ rfl
      have e2 : a.eval (.tmp 104) = .pointer (some ⟨b, off, none⟩) := e1
      have e2b : a.tmps[104]?.getD undef = .pointer (some ⟨b, off, none⟩) := by rw [← Array.getD_eq_getD_getElem?]; exact e2
      exact wpOp_val (v := .pointer (some ⟨b, off + 1, none⟩)) rfl rfl (by unfold execOp; simp only; go_simp) ⟨_, rfl, hM.pass, Two.refl _ _ _, fun _ _ => rfl⟩
    | 14, ho =>
      obtain rfl := Option.some.inj ho
      have e1 := hdep 13 _ 105 rfl ⟨_, Array.mem_of_getElem? (i := 0) rfl, rfl, rfl⟩ rfl
      have e2 : a.eval (.tmp 105) = .pointer (some ⟨b, off + 1, none⟩) := e1
      have e2b : a.tmps[105]?.getD undef = .pointer (some ⟨b, off + 1, none⟩) := by rw [← Array.getD_eq_getD_getElem?]; exact e2
      obtain ⟨x, hok, hc⟩ := E.get w hM.box
      have c0 : w.cell? ⟨b, off + 1, none⟩ = some _ := hc 1 _ rfl
      exact wpOp_val (v := .int .i64 x.no) rfl rfl (by unfold execOp; simp only; go_simp) ⟨_, rfl, hM.pass, Two.refl _ _ _, fun _ _ => ⟨_, rfl, hok.no⟩⟩
    | 15, ho =>
      obtain rfl := Option.some.inj ho
      have e1 := hdep 14 _ 106 rfl ⟨_, Array.mem_of_getElem? (i := 0) rfl, rfl, rfl⟩ rfl
      obtain ⟨z1, f1, hz1⟩ := e1
      have f1 : a.eval (.tmp 106) = .int .i64 z1 := f1
      have f1b : a.tmps[106]?.getD undef = .int .i64 z1 := by rw [← Array.getD_eq_getD_getElem?]; exact f1
      have hb := E.lt w hM.box
      have hs := hM.str.lt
      refine wpOp_val (w' := w.alloc (.cells #[.int .i64 z1, .int .i64 (0), .int .i64 (9)] 3 (0, 0))) (v := .slice (some ⟨w.heap.size, 0, none⟩) 3 3) rfl rfl (by unfold execOp; simp only; go_simp) ⟨_, rfl, hM.alloc E _, Two.alloc _ _, fun _ _ => ⟨w.heap.size, [z1, (0), (9)], rfl, rfl, ?_, by omega, by omega, heap_alloc_new w _⟩⟩
      intro z hz
      simp only [List.mem_cons, List.not_mem_nil, or_false] at hz
      rcases hz with rfl | rfl | rfl
      all_goals first | assumption | decide
    | 16, ho =>
      obtain rfl := Option.some.inj ho
      have e1 := hdep 10 _ 102 rfl ⟨_, Array.mem_of_getElem? (i := 0) rfl, rfl, rfl⟩ rfl
      have e2 := hdep 15 _ 107 rfl ⟨_, Array.mem_of_getElem? (i := 1) rfl, rfl, rfl⟩ rfl
      refine ty_pick rfl rfl rfl e1 e2 (by decide) hM.str (by omega) ?_
      intro t w' ht hg hS
      exact ⟨_, rfl, hM.gr E (by omega) hg (hS.more (by omega)), Two.of_gr hg, fun _ _ => ⟨_, rfl, ht⟩⟩
    | 17, ho =>
      obtain rfl := Option.some.inj ho
      have e1 := (hold 0 (by decide)).trans g0
      exact wpOp_val (v := a.tmps.getD 0 undef) rfl rfl (by unfold execOp; go_simp) ⟨_, rfl, hM.pass, Two.refl _ _ _, fun _ _ => e1⟩
    | 18, ho =>
      obtain rfl := Option.some.inj ho
      have e1 := (hold 10 (by decide)).trans g10
      exact wpOp_val (v := a.tmps.getD 10 undef) rfl rfl (by unfold execOp; go_simp) ⟨_, rfl, hM.pass, Two.refl _ _ _, fun _ _ => e1⟩
    | 19, ho =>
      obtain rfl := Option.some.inj ho
      have e1 := hdep 18 _ 110 rfl ⟨_, Array.mem_of_getElem? (i := 0) rfl, rfl, rfl⟩ rfl
      have e2 : a.eval (.tmp 110) = .pointer (some ⟨b, off, none⟩) := e1
      have e2b : a.tmps[110]?.getD undef = .pointer (some ⟨b, off, none⟩) := by rw [← Array.getD_eq_getD_getElem?]; exact e2
      exact wpOp_val (v := .pointer (some ⟨b, off, none⟩)) rfl rfl (by unfold execOp; simp only; go_simp) ⟨_, rfl, hM.pass, Two.refl _ _ _, fun _ _ => rfl⟩
    | 20, ho =>
      obtain rfl := Option.some.inj ho
      have e1 := hdep 19 _ 111 rfl ⟨_, Array.mem_of_getElem? (i := 0) rfl, rfl, rfl⟩ rfl
      have e2 : a.eval (.tmp 111) = .pointer (some ⟨b, off, none⟩) := e1
      have e2b : a.tmps[111]?.getD undef = .pointer (some ⟨b, off, none⟩) := by rw [← Array.getD_eq_getD_getElem?]; exact e2
      exact wpOp_val (v := .pointer (some ⟨b, off + 2, none⟩)) rfl rfl (by unfold execOp; simp only; go_simp) ⟨_, rfl, hM.pass, Two.refl _ _ _, fun _ _ => rfl⟩
    | 21, ho =>
      obtain rfl := Option.some.inj ho
      have e1 := hdep 20 _ 112 rfl ⟨_, Array.mem_of_getElem? (i := 0) rfl, rfl, rfl⟩ rfl
      have e2 : a.eval (.tmp 112) = .pointer (some ⟨b, off + 2, none⟩) := e1
      have e2b : a.tmps[112]?.getD undef = .pointer (some ⟨b, off + 2, none⟩) := by rw [← Array.getD_eq_getD_getElem?]; exact e2
      obtain ⟨x, hok, hc⟩ := E.get w hM.box
      have c0 : w.cell? ⟨b, off + 2, none⟩ = some _ := hc 2 _ rfl
      exact wpOp_val (v := .int .i64 x.at_) rfl rfl (by unfold execOp; simp only; go_simp) ⟨_, rfl, hM.pass, Two.refl _ _ _, fun _ _ => ⟨_, rfl, hok.at_⟩⟩
    | 22, ho =>
      obtain rfl := Option.some.inj ho
      have e1 := hdep 21 _ 113 rfl ⟨_, Array.mem_of_getElem? (i := 0) rfl, rfl, rfl⟩ rfl
      obtain ⟨z1, f1, hz1⟩ := e1
      have f1 : a.eval (.tmp 113) = .int .i64 z1 := f1
      have f1b : a.tmps[113]?.getD undef = .int .i64 z1 := by rw [← Array.getD_eq_getD_getElem?]; exact f1
      have hb := E.lt w hM.box
      have hs := hM.str.lt
      refine wpOp_val (w' := w.alloc (.cells #[.int .i64 z1, .int .i64 (-1), .int .i64 (345686400000)] 3 (0, 0))) (v := .slice (some ⟨w.heap.size, 0, none⟩) 3 3) rfl rfl (by unfold execOp; simp only; go_simp) ⟨_, rfl, hM.alloc E _, Two.alloc _ _, fun _ _ => ⟨w.heap.size, [z1, (-1), (345686400000)], rfl, rfl, ?_, by omega, by omega, heap_alloc_new w _⟩⟩
      intro z hz
      simp only [List.mem_cons, List.not_mem_nil, or_false] at hz
      rcases hz with rfl | rfl | rfl
      all_goals first | assumption | decide
    | 23, ho =>
      obtain rfl := Option.some.inj ho
      have e1 := hdep 17 _ 109 rfl ⟨_, Array.mem_of_getElem? (i := 0) rfl, rfl, rfl⟩ rfl
      have e2 := hdep 22 _ 114 rfl ⟨_, Array.mem_of_getElem? (i := 1) rfl, rfl, rfl⟩ rfl
      refine ty_pick rfl rfl rfl e1 e2 (by decide) hM.str (by omega) ?_
      intro t w' ht hg hS
      exact ⟨_, rfl, hM.gr E (by omega) hg (hS.more (by omega)), Two.of_gr hg, fun _ _ => ⟨_, rfl, ht⟩⟩
    | 24, ho =>
      obtain rfl := Option.some.inj ho
      have e1 := hdep 0 _ 92 rfl ⟨_, Array.mem_of_getElem? (i := 0) rfl, rfl, rfl⟩ rfl
      have e2 : a.eval (.tmp 92) = .pointer (some ⟨b, off, none⟩) := e1
      have e2b : a.tmps[92]?.getD undef = .pointer (some ⟨b, off, none⟩) := by rw [← Array.getD_eq_getD_getElem?]; exact e2
      exact wpOp_val (v := .pointer (some ⟨b, off, none⟩)) rfl rfl (by unfold execOp; simp only; go_simp) ⟨_, rfl, hM.pass, Two.refl _ _ _, fun _ _ => rfl⟩
    | 25, ho =>
      obtain rfl := Option.some.inj ho
      have e1 := hdep 24 _ 116 rfl ⟨_, Array.mem_of_getElem? (i := 0) rfl, rfl, rfl⟩ rfl
      have e2 : a.eval (.tmp 116) = .pointer (some ⟨b, off, none⟩) := e1
      have e2b : a.tmps[116]?.getD undef = .pointer (some ⟨b, off, none⟩) := by rw [← Array.getD_eq_getD_getElem?]; exact e2
      exact wpOp_val (v := .pointer (some ⟨b, off, none⟩)) rfl rfl (by unfold execOp; simp only; go_simp) ⟨_, rfl, hM.pass, Two.refl _ _ _, fun _ _ => rfl⟩
    | 26, ho =>
      obtain rfl := Option.some.inj ho
      have e1 := hdep 25 _ 117 rfl ⟨_, Array.mem_of_getElem? (i := 0) rfl, rfl, rfl⟩ rfl
      have e2 := hdep 9 _ 101 rfl ⟨_, Array.mem_of_getElem? (i := 1) rfl, rfl, rfl⟩ rfl
      have e3 : a.eval (.tmp 117) = .pointer (some ⟨b, off, none⟩) := e1
      have e3b : a.tmps[117]?.getD undef = .pointer (some ⟨b, off, none⟩) := by rw [← Array.getD_eq_getD_getElem?]; exact e3
      obtain ⟨z, e4, hz⟩ := e2
      have e4 : a.eval (.tmp 101) = .string z := e4
      have e4b : a.tmps[101]?.getD undef = .string z := by rw [← Array.getD_eq_getD_getElem?]; exact e4
      obtain ⟨x, hok, hc⟩ := E.get w hM.box
      have c0 : w.cell? ⟨b, off, none⟩ = some _ := hc 0 _ rfl
      have hfz := E.frz w (off) hM.box
      exact wpOp_skip (w' := w.setCell ⟨b, off, none⟩ (.string z)) rfl rfl (by unfold execOp; simp only; go_simp) ⟨_, rfl, hM.setS E hsb (j := 0) (by decide) hz, Two.set _, fun _ _ => trivial⟩
    | 27, ho =>
      obtain rfl := Option.some.inj ho
      have e1 := hdep 1 _ 93 rfl ⟨_, Array.mem_of_getElem? (i := 0) rfl, rfl, rfl⟩ rfl
      have e2 : a.eval (.tmp 93) = .pointer (some ⟨b, off, none⟩) := e1
      have e2b : a.tmps[93]?.getD undef = .pointer (some ⟨b, off, none⟩) := by rw [← Array.getD_eq_getD_getElem?]; exact e2
      exact wpOp_val (v := .pointer (some ⟨b, off, none⟩)) rfl rfl (by unfold execOp; simp only; go_simp) ⟨_, rfl, hM.pass, Two.refl _ _ _, fun _ _ => rfl⟩
    | 28, ho =>
      obtain rfl := Option.some.inj ho
      have e1 := hdep 27 _ 118 rfl ⟨_, Array.mem_of_getElem? (i := 0) rfl, rfl, rfl⟩ rfl
      have e2 : a.eval (.tmp 118) = .pointer (some ⟨b, off, none⟩) := e1
      have e2b : a.tmps[118]?.getD undef = .pointer (some ⟨b, off, none⟩) := by rw [← Array.getD_eq_getD_getElem?]; exact e2
      exact wpOp_val (v := .pointer (some ⟨b, off + 1, none⟩)) rfl rfl (by unfold execOp; simp only; go_simp) ⟨_, rfl, hM.pass, Two.refl _ _ _, fun _ _ => rfl⟩
    | 29, ho =>
      obtain rfl := Option.some.inj ho
      have e1 := hdep 28 _ 119 rfl ⟨_, Array.mem_of_getElem? (i := 0) rfl, rfl, rfl⟩ rfl
      have e2 := hdep 16 _ 108 rfl ⟨_, Array.mem_of_getElem? (i := 1) rfl, rfl, rfl⟩ rfl
      have e3 : a.eval (.tmp 119) = .pointer (some ⟨b, off + 1, none⟩) := e1
      have e3b : a.tmps[119]?.getD undef = .pointer (some ⟨b, off + 1, none⟩) := by rw [← Array.getD_eq_getD_getElem?]; exact e3
      obtain ⟨z, e4, hz⟩ := e2
      have e4 : a.eval (.tmp 108) = .int .i64 z := e4
      have e4b : a.tmps[108]?.getD undef = .int .i64 z := by rw [← Array.getD_eq_getD_getElem?]; exact e4
      obtain ⟨x, hok, hc⟩ := E.get w hM.box
      have c0 : w.cell? ⟨b, off + 1, none⟩ = some _ := hc 1 _ rfl
      have hfz := E.frz w (off + 1) hM.box
      exact wpOp_skip (w' := w.setCell ⟨b, off + 1, none⟩ (.int .i64 z)) rfl rfl (by unfold execOp; simp only; go_simp) ⟨_, rfl, hM.setI E hsb (j := 1) (by decide) hz, Two.set _, fun _ _ => trivial⟩
    | 30, ho =>
      obtain rfl := Option.some.inj ho
      have e1 := hdep 2 _ 94 rfl ⟨_, Array.mem_of_getElem? (i := 0) rfl, rfl, rfl⟩ rfl
      have e2 : a.eval (.tmp 94) = .pointer (some ⟨b, off, none⟩) := e1
      have e2b : a.tmps[94]?.getD undef = .pointer (some ⟨b, off, none⟩) := by rw [← Array.getD_eq_getD_getElem?]; exact e2
      exact wpOp_val (v := .pointer (some ⟨b, off, none⟩)) rfl rfl (by unfold execOp; simp only; go_simp) ⟨_, rfl, hM.pass, Two.refl _ _ _, fun _ _ => rfl⟩
    | 31, ho =>
      obtain rfl := Option.some.inj ho
      have e1 := hdep 30 _ 120 rfl ⟨_, Array.mem_of_getElem? (i := 0) rfl, rfl, rfl⟩ rfl
      have e2 : a.eval (.tmp 120) = .pointer (some ⟨b, off, none⟩) := e1
      have e2b : a.tmps[120]?.getD undef = .pointer (some ⟨b, off, none⟩) := by rw [← Array.getD_eq_getD_getElem?]; exact e2
      exact wpOp_val (v := .pointer (some ⟨b, off + 2, none⟩)) rfl rfl (by unfold execOp; simp only; go_simp) ⟨_, rfl, hM.pass, Two.refl _ _ _, fun _ _ => rfl⟩
    | 32, ho =>
      obtain rfl := Option.some.inj ho
      have e1 := hdep 31 _ 121 rfl ⟨_, Array.mem_of_getElem? (i := 0) rfl, rfl, rfl⟩ rfl
      have e2 := hdep 23 _ 115 rfl ⟨_, Array.mem_of_getElem? (i := 1) rfl, rfl, rfl⟩ rfl
      have e3 : a.eval (.tmp 121) = .pointer (some ⟨b, off + 2, none⟩) := e1
      have e3b : a.tmps[121]?.getD undef = .pointer (some ⟨b, off + 2, none⟩) := by rw [← Array.getD_eq_getD_getElem?]; exact e3
      obtain ⟨z, e4, hz⟩ := e2
      have e4 : a.eval (.tmp 115) = .int .i64 z := e4
      have e4b : a.tmps[115]?.getD undef = .int .i64 z := by rw [← Array.getD_eq_getD_getElem?]; exact e4
      obtain ⟨x, hok, hc⟩ := E.get w hM.box
      have c0 : w.cell? ⟨b, off + 2, none⟩ = some _ := hc 2 _ rfl
      have hfz := E.frz w (off + 2) hM.box
      exact wpOp_skip (w' := w.setCell ⟨b, off + 2, none⟩ (.int .i64 z)) rfl rfl (by unfold execOp; simp only; go_simp) ⟨_, rfl, hM.setI E hsb (j := 2) (by decide) hz, Two.set _, fun _ _ => trivial⟩
    | j + 33, ho => simp at ho
  · intro listed a w hK hW2 _
    obtain ⟨f, rfl⟩ := known_frame hK (by rw [hsz]; kernel_rfl)
    exact hend f w hW2
end Go.Proofs.YtfkmbeppckelfaaGreatDoor
