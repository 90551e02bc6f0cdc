/- strings.Builder: what a write leaves as it was is told of every block that is no row of bytes. -/
import Derived.Test.YthlhomcgjgfdhaaGreatDoorQLinE
import Derived.Lib.UnsafeStr
import Derived.Lib.AppendStr
import Derived.Deep.DeepCutAuto
namespace Go.Proofs.YthlhomcgjgfdhaaGreatDoor
open Go.RowKit

theorem extraB : Builder.Extra Tryz.prog Tryz.replaceStr_ren where
  sizeBuilder := by kernel_rfl
  liesBuilder := by kernel_rfl
  t5 := Tryz.underlying5
  a5 := Tryz.isAgg5
  z5 := Tryz.sizeOf5
  v5 := Tryz.zeroValue5
  infoByte := by kernel_rfl
  cellsByte := by kernel_rfl
  sizeByte := by kernel_rfl
  neB5 := by decide
theorem extraS : Builder.Extra Tryz.prog Tryz.bString_ren where
  sizeBuilder := by kernel_rfl
  liesBuilder := by kernel_rfl
  t5 := Tryz.underlying5
  a5 := Tryz.isAgg5
  z5 := Tryz.sizeOf5
  v5 := Tryz.zeroValue5
  infoByte := by kernel_rfl
  cellsByte := by kernel_rfl
  sizeByte := by kernel_rfl
  neB5 := by decide
/-- A builder in block b that holds these bytes. -/
def Bld (w : World) (B b : Nat) (l : List UInt8) : Prop := Lib.IsBuilder 92 5 B b (Lib.byteCells l) w
/-- Blocks that are no rows of bytes stay, but for the builder's own. -/
def KpB (b : Nat) (w w' : World) : Prop := w.heap.size ≤ w'.heap.size ∧ ∀ i c t, w.heap[i]? = some (.cells c t (0, 0)) → i ≠ b → t ≠ 5 → w'.heap[i]? = some (.cells c t (0, 0))
theorem Bld.new (w : World) : Bld (w.alloc (.cells #[.pointer none, .slice none 0 0] 92)) w.heap.size w.heap.size [] := Lib.fresh_isBuilder _ _ w
theorem builder_nx {B b : Nat} {p : Value} {bs : List Value} {w w' : World} (h : Lib.BuilderAt 92 5 B b p bs w) (hn : Nx w w') : Lib.BuilderAt 92 5 B b p bs w' := by
  obtain ⟨h1, v, h2, h3, h4⟩ := h
  exact ⟨h1, v, (hn.block b (Array.getElem?_eq_some_iff.1 h2).1).trans h2, own_nx h3 hn, h4⟩
theorem Bld.nx {w w' : World} {B b : Nat} {l : List UInt8} (h : Bld w B b l) (hn : Nx w w') : Bld w' B b l := by
  rcases h with h | h
  · exact .inl (builder_nx h hn)
  · exact .inr (builder_nx h hn)
theorem Bld.lt {w : World} {B b : Nat} {l : List UInt8} (h : Bld w B b l) : b < w.heap.size := by
  rcases h with h | h <;> exact h.lt
theorem KpB.refl (b : Nat) (w : World) : KpB b w w := ⟨Nat.le_refl _, fun _ _ _ h _ _ => h⟩
theorem KpB.trans {b : Nat} {u v w : World} (h : KpB b u v) (k : KpB b v w) : KpB b u w := ⟨Nat.le_trans h.1 k.1, fun i c t hi h1 h2 => k.2 i c t (h.2 i c t hi h1 h2) h1 h2⟩
theorem KpB.gr {b : Nat} {w w' : World} (h : Gr b w w') : KpB b w w' := ⟨h.sz, fun i c t hi hne _ => (h.block i (Array.getElem?_eq_some_iff.1 hi).1 (by intro e; injection e with e; exact hne e)).trans hi⟩
theorem KpB.nx {b : Nat} {w w' : World} (h : Nx w w') : KpB b w w' := ⟨h.sz, fun i _ _ hi _ _ => (h.block i (Array.getElem?_eq_some_iff.1 hi).1).trans hi⟩
theorem KpB.row {b B n : Nat} {v : Value} {xs : List Value} {w w' : World} (hown : w.ownsRow B 5 1 v n xs) (h : w.grownBy w' v.ownBlock) : KpB b w w' :=
  ⟨h.size, fun i _ _ hi _ ht => (h.block i (Array.getElem?_eq_some_iff.1 hi).1 (fun e => Lib.ownBlock_ne hown hi ht e.symm)).trans hi⟩
theorem w_copyC (B b : Nat) (l : List UInt8) (w : World) (h : Bld w B b l) :
    Calls Tryz.prog 92 #[.pointer (some ⟨b, 0, none⟩)] w fun e w' => e = .returned (.tuple #[]) ∧ Lib.BuilderAt 92 5 B b (.pointer (some ⟨b, 0, none⟩)) (Lib.byteCells l) w' ∧ KpB b w w' ∧ Below B w w' := by
  rcases h with h | h
  · have hcon := Any.Builder_copyCheck_fresh { Tryz.replaceStr with } extraB.toX72 b w h.cell0 h.shape h.frozen0
    change Calls Tryz.prog 92 _ _ _ at hcon
    refine hcon.mono ?_
    rintro e w' ⟨rfl, rfl⟩
    refine ⟨rfl, h.used _, KpB.gr ((Gr.refl b w).setS (p := ⟨b, 0, none⟩) (.inl rfl) _), (Below.refl B w).setCell (p := ⟨b, 0, none⟩) h.1 _⟩
  · have hcon := Any.Builder_copyCheck_used { Tryz.replaceStr with } extraB.toX72 b w h.cell0
    change Calls Tryz.prog 92 _ _ _ at hcon
    refine hcon.mono ?_
    rintro e w' ⟨rfl, rfl⟩
    exact ⟨rfl, h, KpB.refl _ _, Below.refl _ _⟩
set_option maxRecDepth 100000 in
set_option maxHeartbeats 4000000 in
theorem w_WStr (B b : Nat) (l : List UInt8) (s : ByteArray) (w : World) (h : Bld w B b l) (hlen : l.length + s.size ≤ 1000000) (hBw : B ≤ w.heap.size) :
    Calls Tryz.prog 57 #[.pointer (some ⟨b, 0, none⟩), .string s] w fun e w' => e = .returned (.tuple #[.int .i64 s.size, .nilIface]) ∧ Bld w' B b (l ++ s.data.toList) ∧ KpB b w w' ∧ Below B w w' := by
  have HC := hide (w_copyC B b l w h)
  obtain ⟨i0, hi, hz0, hz1, hz2⟩ := info_parts extraB.infoByte
  have t37 := (Tryz.replaceStr).t37
  have t9 := (Tryz.replaceStr).t9
  have hbl := Lib.byteCells_length l
  obtain ⟨xs, hxs⟩ : ∃ xs, xs = Lib.byteCells l := ⟨_, rfl⟩
  rw [← hxs] at HC hbl
  have HXS := hide hxs
  clear h hxs
  go_enter Tryz.func57, Tryz.ntmps57
  go_upto_region 2 with (go_at_call 92; refine HC.out.mono ?_; rintro e w1 ⟨rfl, hA, hk1, hb1⟩)
  obtain ⟨hB, v, hbk, hown, hne⟩ := hA
  have HK1 := hide hk1
  have HB1 := hide hb1
  have c0 : w1.cell? ⟨b, 0, none⟩ = some (.pointer (some ⟨b, 0, none⟩)) := cell_of_row w1 b 0 _ _ _ hbk
  have c1 : w1.cell? ⟨b, 1, none⟩ = some v := cell_of_row w1 b 1 _ _ _ hbk
  have hBw1 : B ≤ w1.heap.size := Nat.le_trans hBw hb1.size
  have HBK := hide hbk
  have HOWN := hide hown
  have HNE := hide hne
  clear hbk hk1 hb1 hown hne HC
  go_wp2_with (at_builtin; refine Lib.wpList_append_own_string _ rfl _ _ (Tryz.replaceStr_ren.t 37) (Tryz.replaceStr_ren.t 9) rfl B (Tryz.replaceStr_ren.t 5) i0 t37 t9 hi hz0 hz1 hz2 _ _ _ rfl HOWN.out s rfl (by unfold maxLen; omega) (by omega) hBw1 ?_; intro v' w2 hown' hgrow _; (obtain ⟨ao, n', cap, rfl⟩ : ∃ ao n' cap, v' = .slice ao n' cap := by (rcases hown'.2 with ⟨hv, _⟩ | ⟨g, cap, cur, hv, _⟩ <;> exact ⟨_, _, _, hv⟩)); (have hb2 : w2.heap[b]? = some (.cells #[.pointer (some ⟨b, 0, none⟩), v] 92 (0, 0)) := (hgrow.block b (Array.getElem?_eq_some_iff.1 HBK.out).1 (fun e => HNE.out e.symm)).trans HBK.out); (have d0 : w2.cell? ⟨b, 0, none⟩ = some (.pointer (some ⟨b, 0, none⟩)) := cell_of_row w2 b 0 _ _ _ hb2); (have d1 : w2.cell? ⟨b, 1, none⟩ = some v := cell_of_row w2 b 1 _ _ _ hb2); (have f1 : w2.frozen? ⟨b, 1, none⟩ = false := Lib.frozen_of_heap hb2 1); (have HB2 := hide hb2); (have HOW2 := hide hown'); (have HG := hide hgrow); clear hb2 hown' hgrow)
  go_ret2
  have hn1 : xs ++ Lib.strCells s = Lib.byteCells (l ++ s.data.toList) := by rw [HXS.out, Lib.strCells_eq, Lib.byteCells_append]
  refine ⟨rfl, .inr ?_, (HK1.out.trans (KpB.row HOWN.out HG.out)).trans (KpB.gr ((Gr.refl b w2).setS (p := ⟨b, 1, none⟩) (.inl rfl) _)), ?_⟩
  · rw [← hn1]
    exact Lib.BuilderAt.put (T := 92) (e := 5) hB HB2.out (bs' := xs ++ Lib.strCells s) (by rw [List.length_append, Lib.strCells_length]; exact HOW2.out) extraB.neB5
  · exact (HB1.out.grown HG.out hBw1 (fun k hk => (HOWN.out.lt k hk).1)).setCell (p := ⟨b, 1, none⟩) hB _
theorem w_BLen (B b : Nat) (l : List UInt8) (w : World) (h : Bld w B b l) : Calls Tryz.prog 59 #[.pointer (some ⟨b, 0, none⟩)] w fun e w' => e = .returned (.int .i64 l.length) ∧ w = w' := by
  have hcon := Any.Builder_Len Tryz.bLen B b (Lib.byteCells l) w h
  change Calls Tryz.prog 59 _ _ _ at hcon
  refine hcon.mono ?_
  rintro e w' ⟨rfl, rfl⟩
  exact ⟨by rw [Lib.byteCells_length], rfl⟩
theorem w_BStr (B b : Nat) (l : List UInt8) (w : World) (h : Bld w B b l) (hBw : B ≤ w.heap.size) : Calls Tryz.prog 60 #[.pointer (some ⟨b, 0, none⟩)] w fun e w' => e = .returned (.string ⟨l.toArray⟩) ∧ Below B w w' := by
  have hcon := Any.Builder_String_any Tryz.bString extraS B b l w h hBw
  change Calls Tryz.prog 60 _ _ _ at hcon
  exact hcon
/-- What lay below B lies so. -/
theorem Nx.below {B : Nat} {w0 w w' : World} (h : Nx w0 w) (hb : Below B w w') (hB : w0.heap.size ≤ B) : Nx w0 w' := Below.trans h (Below.mono hb hB)
end Go.Proofs.YthlhomcgjgfdhaaGreatDoor
