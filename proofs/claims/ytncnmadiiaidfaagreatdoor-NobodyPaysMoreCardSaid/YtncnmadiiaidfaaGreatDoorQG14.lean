/- A drawn statement over a stream and a trip's cells. -/
import Derived.Test.YtncnmadiiaidfaaGreatDoorQG7
import Derived.Test.YtncnmadiiaidfaaGreatDoorQFullA
import Derived.Test.YtncnmadiiaidfaaGreatDoorQG1
import Derived.Test.YtncnmadiiaidfaaGreatDoorQShelfT
import Derived.Test.YtncnmadiiaidfaaGreatDoorQG2
import Derived.Deep.DeepCutAuto
import Derived.Deep.Onto
import Derived.Deep.AppendLies
import Derived.Test.YtncnmadiiaidfaaGreatDoorQJouF
import Derived.Test.YtncnmadiiaidfaaGreatDoorQDivB
import Derived.Test.YtncnmadiiaidfaaGreatDoorQG0
import Derived.Test.YtncnmadiiaidfaaGreatDoorQShelfC
import Derived.Shelf.Small.Strs
import Derived.Test.YtncnmadiiaidfaaGreatDoorQShelfP
import Derived.Shelf.SlSortCmp.NoneTotal
import Derived.Maps.Own
import Derived.Maps.OwnOps
import Derived.Maps.Views
import Derived.Maps.RangeWalk
import Derived.WideKeyEntry
import Derived.Maps.Keyed
import Derived.DeepKeys4
import Derived.KernelRfl
import Derived.Test.YtncnmadiiaidfaaGreatDoorQG12
namespace Go.Proofs.YtncnmadiiaidfaaGreatDoor
open Go.RowKit

/-- A trip with no giants. -/
structure okJ (x : Jour) : Prop where
  ride : x.ride.size ≤ 1000
  rider : x.rider.size ≤ 1000
  metres : -1000000000000000 ≤ x.metres ∧ x.metres ≤ 1000000000000000
  from_ : -100000000000000 ≤ x.from_ ∧ x.from_ ≤ 100000000000000
  to_ : -1000000000000000 ≤ x.to_ ∧ x.to_ ≤ 1000000000000000
/-- What is known of a trip's cells from off on in block b. -/
structure JoBox (b off : Nat) (B : World → Prop) : Prop where
  get : ∀ w, B w → ∃ x : Jour, okJ x ∧ ∀ j u, (encJ x)[j]? = some u → w.cell? ⟨b, off + j, none⟩ = some u
  frz : ∀ w j, B w → w.frozen? ⟨b, j, none⟩ = false
  lt : ∀ w, B w → b < w.heap.size
  setS : ∀ w j (t : ByteArray), B w → (j = 0 ∨ j = 1) → t.size ≤ 1000 → B (w.setCell ⟨b, off + j, none⟩ (.string t))
  setI : ∀ w j (z : Int), B w → (j = 3 ∨ j = 5) → -1000000000000000 ≤ z ∧ z ≤ 1000000000000000 → B (w.setCell ⟨b, off + j, none⟩ (.int .i64 z))
  same : ∀ w w', B w → w'.heap[b]? = w.heap[b]? → w.heap.size ≤ w'.heap.size → B w'
def ShY (v : Value) (_w : World) : Prop := ∃ z : Int, v = .int .i64 z ∧ -100000000000000 ≤ z ∧ z ≤ 100000000000000
section
variable {s b off k m : Nat} {B : World → Prop} {w0 w : World}
theorem TyW.allocJ (h : TyW s b k B w0 m w) (E : JoBox b off B) (o : Obj) : TyW s b k B w0 (m + 1) (w.alloc o) :=
  ⟨h.two.trans (Two.alloc w o), (h.str.nx ((Nx.refl w).alloc o)).more (by omega), E.same _ _ h.box (((Nx.refl w).alloc o).block b (E.lt _ h.box)) ((Nx.refl w).alloc o).sz⟩
theorem TyW.grJ (h : TyW s b k B w0 m w) (E : JoBox b off B) (hb : b ≠ s) {w' : World} (hg : Gr s w w') (hS : Str w' s (k + 2 * (m + 1))) : TyW s b k B w0 (m + 1) w' :=
  ⟨h.two.trans (Two.of_gr hg), hS, E.same _ _ h.box (hg.block b (E.lt _ h.box) (by intro e; injection e with e; exact hb e)) hg.sz⟩
theorem TyW.setSJ (h : TyW s b k B w0 m w) (E : JoBox b off B) (hb : s < b) {j : Nat} {t : ByteArray} (hj : j = 0 ∨ j = 1) (ht : t.size ≤ 1000) : TyW s b k B w0 (m + 1) (w.setCell ⟨b, off + j, none⟩ (.string t)) :=
  ⟨h.two.trans (Two.set _), (h.str.row (row := some b) ((Gr.refl b w).setS (p := ⟨b, off + j, none⟩) (.inl rfl) _) (fun j h => by injection h with h; omega)).more (by omega), E.setS _ _ _ h.box hj ht⟩
theorem TyW.setIJ (h : TyW s b k B w0 m w) (E : JoBox b off B) (hb : s < b) {j : Nat} {z : Int} (hj : j = 3 ∨ j = 5) (hz : -1000000000000000 ≤ z ∧ z ≤ 1000000000000000) : TyW s b k B w0 (m + 1) (w.setCell ⟨b, off + j, none⟩ (.int .i64 z)) :=
  ⟨h.two.trans (Two.set _), (h.str.row (row := some b) ((Gr.refl b w).setS (p := ⟨b, off + j, none⟩) (.inl rfl) _) (fun j h => by injection h with h; omega)).more (by omega), E.setI _ _ _ h.box hj hz⟩
end
end Go.Proofs.YtncnmadiiaidfaaGreatDoor
/- strconv.Itoa for every number; the library's table stays. -/
namespace Go.Proofs.YtncnmadiiaidfaaGreatDoor
open Go.RowKit

abbrev PowTab (w : World) : Prop := Lib.TabIs Tryz.prog w "internal/strconv.uint64pow10" .u64 Lib.pow10Tab
theorem tab_nx {P : Program} {w w' : World} {name : String} {k : IntKind} {zs : List Int} (h : Lib.TabIs P w name k zs) (hn : Nx w w') : Lib.TabIs P w' name k zs := by
  unfold Lib.TabIs World.var? at h ⊢
  cases hg : P.globalNamed name with
  | none => rw [hg] at h; simp at h
  | some g =>
    rw [hg] at h
    simp only [Option.bind_some] at h ⊢
    cases hb : w.heap[g]? with
    | none => rw [hb] at h; simp at h
    | some o =>
      rw [hn.block g (Array.getElem?_eq_some_iff.1 hb).1]
      exact h
def itoaS (n : Int) : ByteArray := ⟨(Lib.itoa n).toArray⟩
theorem w_ItoaN (n : Int) (h0 : -9223372036854775808 ≤ n) (h1 : n ≤ 9223372036854775807) (w : World) (ht : PowTab w) : Calls Tryz.prog 24 #[.int .i64 n] w fun e w' => e = .returned (.string (itoaS n)) ∧ Nx w w' := by
  refine (Any.strconv_Itoa Tryz.itoaM n h0 h1 w ht).mono ?_
  rintro e w' ⟨rfl, k, os, rfl⟩
  exact ⟨rfl, Lays.nx ⟨k, os, rfl⟩⟩
end Go.Proofs.YtncnmadiiaidfaaGreatDoor
/- Legs: what is wrong with them. -/
namespace Go.Proofs.YtncnmadiiaidfaaGreatDoor
open Go.RowKit

structure Leg where
  a : Option Addr
  cap : Nat
  rides : List ByteArray
  cents : Int
instance : Inhabited Leg := ⟨⟨none, 0, [], 0⟩⟩
def encLeg (x : Leg) : List Value := [.slice x.a x.rides.length x.cap, .int .i64 x.cents]
/-- Legs, their rides each in a row of its own. -/
def RdLegs (w : World) (lo : Nat) (A : Option Addr) (ls : List Leg) : Prop :=
  Rd w lo A 2 encLeg ls ∧ ∀ x ∈ ls, Rd w lo x.a 1 encS x.rides ∧ Small x.rides ∧ x.rides.length ≤ 100
theorem RdLegs.nx {w w' : World} {lo : Nat} {A : Option Addr} {ls : List Leg} (h : RdLegs w lo A ls) (hn : Nx w w') : RdLegs w' lo A ls :=
  ⟨h.1.nx hn, fun x hx => ⟨(h.2 x hx).1.nx hn, (h.2 x hx).2⟩⟩
end Go.Proofs.YtncnmadiiaidfaaGreatDoor
/- The stream's legs. -/
namespace Go.Proofs.YtncnmadiiaidfaaGreatDoor
open Go.RowKit Go.Sort Go.Proofs Go.Shelf

theorem own_form {w : World} {base n m K : Nat} {e : TypeId} {v : Value} {xs : List Value} (hn : n = m) (h : w.ownsRow base e K v m xs) : ∃ A c, v = .slice A n c := by
  subst hn
  rcases h.2 with ⟨rfl, rfl⟩ | ⟨g, cap, cur, rfl, _⟩
  · exact ⟨none, 0, rfl⟩
  · exact ⟨_, _, rfl⟩
theorem rd_ownv {w : World} {base n K cap : Nat} {e : TypeId} {A : Option Addr} {α : Type} {enc : α → List Value} {xs : List α} (hk : ∀ x, (enc x).length = K) (hn : n = xs.length) (h : w.ownsRow base e K (.slice A n cap) n (xs.flatMap enc)) : Rd w base A K enc xs := by
  obtain ⟨A', c', ev, hR, _⟩ := Rd.of_own hk hn h
  cases ev
  exact hR
end Go.Proofs.YtncnmadiiaidfaaGreatDoor
/- Trips in the making: each one's nodes a row of the call's own. -/
namespace Go.Proofs.YtncnmadiiaidfaaGreatDoor
open Go.RowKit Go.Sort Go.Proofs Go.Shelf

theorem el_JourS : ElemOf Tryz.prog 33 52 6 80 := ElemOf.mk' (z := .agg #[.string ByteArray.empty, .string ByteArray.empty, .slice none 0 0, .int .i64 0, .int .i64 0, .int .i64 0]) Tryz.underlying33 (by kernel_rfl) rfl
theorem encJ_len (x : Jour) : (encJ x).length = 6 := rfl
theorem encJ_one (x : Jour) : ∀ v ∈ encJ x, v.oneCell' = true := by
  intro v hv; simp [encJ] at hv; rcases hv with rfl | rfl | rfl | rfl | rfl | rfl <;> rfl
/-- A trip that stands fast: its nodes a row of the call's own. -/
structure JRow (w : World) (base : Nat) (x : Jour) : Prop where
  row : w.ownsRow base 9 1 (.slice x.a x.nodes.length x.cap) x.nodes.length (x.nodes.flatMap encS)
  small : Small x.nodes
  few : x.nodes.length ≤ 4
  ok : okJ x
def OwnJours (w : World) (base : Nat) (v : Value) (ts : List Jour) : Prop :=
  w.ownsRow base 52 6 v ts.length (ts.flatMap encJ) ∧ ∀ x ∈ ts, JRow w base x
theorem JRow.gr {w w' : World} {s base : Nat} {x : Jour} (h : JRow w base x) (hn : Gr s w w') (hs : s < base) : JRow w' base x := ⟨own_gr h.row hn hs, h.small, h.few, h.ok⟩
theorem OwnJours.gr {w w' : World} {s base : Nat} {v : Value} {ts : List Jour} (h : OwnJours w base v ts) (hn : Gr s w w') (hs : s < base) : OwnJours w' base v ts :=
  ⟨own_gr h.1 hn hs, fun x hx => (h.2 x hx).gr hn hs⟩
theorem OwnJours.nx {w w' : World} {base : Nat} {v : Value} {ts : List Jour} (h : OwnJours w base v ts) (hn : Nx w w') : OwnJours w' base v ts :=
  ⟨own_nx h.1 hn, fun x hx => ⟨own_nx (h.2 x hx).row hn, (h.2 x hx).small, (h.2 x hx).few, (h.2 x hx).ok⟩⟩
theorem OwnJours.rd {w : World} {base : Nat} {A : Option Addr} {cap : Nat} {ts : List Jour} (h : OwnJours w base (.slice A ts.length cap) ts) : RdJours w base A ts :=
  ⟨rd_ownv encJ_len rfl h.1, fun x hx => by
    have hx' := h.2 x hx
    exact ⟨rd_ownv encS_len rfl hx'.row, hx'.small, by have := hx'.few; omega, by have := hx'.ok.ride; omega, by have := hx'.ok.rider; omega⟩⟩
/-- Some trips. -/
def StrJours (many s k : Nat) (w : World) (e : Ending) (w' : World) : Prop :=
  ∃ (A : Option Addr) (c : Nat) (ts : List Jour), e = .returned (.slice A ts.length c) ∧ ts.length = many ∧ ts.length ≤ c ∧ RdJours w' w.heap.size A ts ∧ Gr s w w' ∧ Str w' s k
theorem itoa_small (n : Nat) (h : n ≤ 8) : (itoaS n).size ≤ 1 := by
  have e : Lib.itoa (n : Int) = [UInt8.ofNat (48 + n)] := by
    unfold Lib.itoa
    rw [if_neg (by omega), Lib.decDigits, dif_pos (by simp; omega)]
    simp
  unfold itoaS
  rw [e]
  exact Nat.le_refl 1
theorem own_cap {w : World} {base c K n : Nat} {A : Option Addr} {e : TypeId} {xs : List Value} (h : w.ownsRow base e K (.slice A n c) n xs) : n ≤ c := by
  rcases h.2 with ⟨h1, h2⟩ | ⟨g, cap, cur, h1, _, _, h3, _⟩
  · omega
  · cases h1; exact h3
theorem own_two {w w' : World} {base s b K n : Nat} {e : TypeId} {v : Value} {xs : List Value} (h : w.ownsRow base e K v n xs) (t : Two s b w w') (hs : s < base) (hb : v.ownBlock = none ∨ v.ownBlock ≠ some b) : w'.ownsRow base e K v n xs := by
  refine ⟨h.1, ?_⟩
  rcases h.2 with hn | ⟨g, cap, cur, rfl, hbg, hgg, rest⟩
  · exact .inl hn
  · refine .inr ⟨g, cap, cur, rfl, hbg, ?_, rest⟩
    rw [t.2.2.2.2 g (Array.getElem?_eq_some_iff.1 hgg).1 (by omega) (fun e => by rcases hb with hb | hb <;> simp [Value.ownBlock] at hb; exact hb e)]
    exact hgg
theorem own_here {w w' : World} {base g c K n : Nat} {e : TypeId} {xs : List Value} (h : w.ownsRow base e K (.slice (some ⟨g, 0, none⟩) n c) n xs) (he : w'.heap[g]? = w.heap[g]?) : w'.ownsRow base e K (.slice (some ⟨g, 0, none⟩) n c) n xs := by
  refine ⟨h.1, ?_⟩
  rcases h.2 with ⟨h1, _⟩ | ⟨g', cap, cur, h1, hbg, hgg, rest⟩
  · cases h1
  · cases h1
    exact .inr ⟨g, c, cur, rfl, hbg, he.trans hgg, rest⟩
def skel (x : Jour) : Option Addr × Nat × List ByteArray := (x.a, x.cap, x.nodes)
/-- The trips' row, its nodes as they were. -/
structure BoxJ (g m c base : Nat) (ts : List Jour) (w : World) (us : List Jour) : Prop where
  len : us.length = m
  sk : ∀ x ∈ us, skel x ∈ ts.map skel ∨ x.nodes = []
  ok : ∀ x ∈ us, okJ x
  row : w.ownsRow base 52 6 (.slice (some ⟨g, 0, none⟩) m c) m (us.flatMap encJ)
theorem skel_set {ts us : List Jour} {q : Nat} (h : ∀ x ∈ us, skel x ∈ ts.map skel ∨ x.nodes = []) (hq : q < us.length) {y : Jour} (hy : skel y = skel us[q]) : ∀ x ∈ us.set q y, skel x ∈ ts.map skel ∨ x.nodes = [] := fun x hx => by
  rcases List.mem_or_eq_of_mem_set hx with hx | rfl
  · exact h x hx
  · rw [hy, show x.nodes = us[q].nodes from (Prod.mk.inj (Prod.mk.inj hy).2).2]
    exact h _ (List.getElem_mem hq)
theorem all_set {us : List Jour} {q : Nat} {y : Jour} (h : ∀ x ∈ us, okJ x) (hy : okJ y) : ∀ x ∈ us.set q y, okJ x := fun x hx => by
  rcases List.mem_or_eq_of_mem_set hx with hx | rfl
  · exact h x hx
  · exact hy
theorem boxJ_jo (g m c base q : Nat) (ts : List Jour) (hq : q < m) : JoBox g (q * 6) (fun w => ∃ us, BoxJ g m c base ts w us) where
  get w h := by
    obtain ⟨us, h⟩ := h
    have hq' : q < us.length := by rw [h.len]; exact hq
    exact ⟨us[q], h.ok _ (List.getElem_mem hq'), fun j u hu => own_cell encJ_len h.len h.row q hq' j u hu⟩
  frz w j h := by obtain ⟨us, h⟩ := h; exact h.row.frozenAt j
  lt w h := by obtain ⟨us, h⟩ := h; exact (h.row.lt g rfl).2
  setS w j t h hj ht := by
    obtain ⟨us, h⟩ := h
    have hq' : q < us.length := by rw [h.len]; exact hq
    have hx := h.ok _ (List.getElem_mem hq')
    rcases hj with rfl | rfl
    · exact ⟨us.set q { us[q] with ride := t }, by rw [List.length_set]; exact h.len, skel_set h.sk hq' rfl, all_set h.ok ⟨ht, hx.rider, hx.metres, hx.from_, hx.to_⟩, own_set encJ_len h.len h.row q hq' 0 (by omega) (.string t) _ rfl _ rfl⟩
    · exact ⟨us.set q { us[q] with rider := t }, by rw [List.length_set]; exact h.len, skel_set h.sk hq' rfl, all_set h.ok ⟨hx.ride, ht, hx.metres, hx.from_, hx.to_⟩, own_set encJ_len h.len h.row q hq' 1 (by omega) (.string t) _ rfl _ rfl⟩
  setI w j z h hj hz := by
    obtain ⟨us, h⟩ := h
    have hq' : q < us.length := by rw [h.len]; exact hq
    have hx := h.ok _ (List.getElem_mem hq')
    rcases hj with rfl | rfl
    · exact ⟨us.set q { us[q] with metres := z }, by rw [List.length_set]; exact h.len, skel_set h.sk hq' rfl, all_set h.ok ⟨hx.ride, hx.rider, hz, hx.from_, hx.to_⟩, own_set encJ_len h.len h.row q hq' 3 (by omega) (.int .i64 z) _ rfl _ rfl⟩
    · exact ⟨us.set q { us[q] with to_ := z }, by rw [List.length_set]; exact h.len, skel_set h.sk hq' rfl, all_set h.ok ⟨hx.ride, hx.rider, hx.metres, hx.from_, hz⟩, own_set encJ_len h.len h.row q hq' 5 (by omega) (.int .i64 z) _ rfl _ rfl⟩
  same w w' h e _ := by obtain ⟨us, h⟩ := h; exact ⟨us, h.len, h.sk, h.ok, own_here h.row e⟩
/-- What is read of the trips at the end. -/
theorem BoxJ.rd {g m c base s : Nat} {ts us : List Jour} {w w' : World} (h : BoxJ g m c base ts w' us) (hr : ∀ x ∈ ts, JRow w base x) (ho : w.ownsRow base 52 6 (.slice (some ⟨g, 0, none⟩) m c) m (ts.flatMap encJ)) (t : Two s g w w') (hs : s < base) : RdJours w' base (some ⟨g, 0, none⟩) us :=
  ⟨rd_ownv encJ_len h.len.symm h.row, fun x hx => by
    have hx' := h.ok x hx
    rcases h.sk x hx with h1 | h1
    · obtain ⟨y, hy, e⟩ := List.mem_map.1 h1
      have hy' := hr y hy
      obtain ⟨e1, e2⟩ := Prod.mk.inj e
      obtain ⟨e2, e3⟩ := Prod.mk.inj e2
      have r := own_two hy'.row t hs (own_apart hy'.row ho (by decide))
      rw [e1, e2, e3] at r
      exact ⟨rd_ownv encS_len rfl r, e3 ▸ hy'.small, by have := hy'.few; rw [← e3]; omega, by have := hx'.ride; omega, by have := hx'.rider; omega⟩
    · rw [h1]
      exact ⟨Rd.nil, (fun x hx => by cases hx), by simp, by have := hx'.ride; omega, by have := hx'.rider; omega⟩⟩
/-- One trip loses its nodes. -/
theorem BoxJ.bare {g m c base q : Nat} {ts us : List Jour} {w : World} (h : BoxJ g m c base ts w us) (hq : q < us.length) : BoxJ g m c base ts (w.setCell ⟨g, q * 6 + 2, none⟩ (.slice none 0 0)) (us.set q { us[q] with a := none, cap := 0, nodes := [] }) := by
  have hx := h.ok _ (List.getElem_mem hq)
  exact ⟨by rw [List.length_set]; exact h.len, fun x hx => by
    rcases List.mem_or_eq_of_mem_set hx with hx | rfl
    · exact h.sk x hx
    · exact .inr rfl, all_set h.ok ⟨hx.ride, hx.rider, hx.metres, hx.from_, hx.to_⟩, own_set encJ_len h.len h.row q hq 2 (by omega) (.slice none 0 0) _ rfl _ rfl⟩

end Go.Proofs.YtncnmadiiaidfaaGreatDoor
/- cmp.Compare of numbers. -/
namespace Go.Proofs.YtncnmadiiaidfaaGreatDoor
open Go.RowKit

theorem w_isNaN (a : Int) (w : World) : Calls Tryz.prog 114 #[.int .i64 a] w fun e w' => e = .returned (.bool false) ∧ w = w' := by
  go_enter Tryz.func114, Tryz.ntmps114
  go_wp2
  go_ret
  exact ⟨rfl, rfl⟩

theorem w_Compare (a b : Int) (w : World) : Calls Tryz.prog 71 #[.int .i64 a, .int .i64 b] w fun e w' => e = .returned (.int .i64 (cmpI a b)) ∧ w = w' := by
  by_cases h1 : a < b
  · go_enter Tryz.func71, Tryz.ntmps71
    go_wp2_with (go_at_call 114; refine (w_isNaN _ _).mono ?_; rintro e w' ⟨rfl, rfl⟩)
    go_ret
    exact ⟨ret_int (by unfold cmpI; simp [h1]), rfl⟩
  · by_cases h2 : b < a
    · go_enter Tryz.func71, Tryz.ntmps71
      go_wp2_with (go_at_call 114; refine (w_isNaN _ _).mono ?_; rintro e w' ⟨rfl, rfl⟩)
      go_ret
      exact ⟨ret_int (by unfold cmpI; simp [h1, h2]), rfl⟩
    · go_enter Tryz.func71, Tryz.ntmps71
      go_wp2_with (go_at_call 114; refine (w_isNaN _ _).mono ?_; rintro e w' ⟨rfl, rfl⟩)
      go_ret
      exact ⟨ret_int (by unfold cmpI; rw [if_neg (by omega), if_neg (by omega)]), rfl⟩

end Go.Proofs.YtncnmadiiaidfaaGreatDoor
/- The stable sort of places by what is left of each. -/
namespace Go.Proofs.YtncnmadiiaidfaaGreatDoor
open Go.RowKit Go.Sort Go.Proofs Go.Shelf

section
variable {α : Type} [Inhabited α] {enc : α → Value}
theorem holds_one {w : World} {base g cap n : Nat} {e : TypeId} {xs : List α} (hn : xs.length = n) (h : w.ownsRow base e 1 (.slice (some ⟨g, 0, none⟩) n cap) n (xs.map enc)) : Holds enc w g 0 xs.toArray := by
  intro j hj
  have hj' : j < n := by rw [← hn]; simpa using hj
  refine ⟨?_, by rw [Nat.zero_add]; exact h.frozenAt j⟩
  rw [Nat.zero_add, h.cellAt j (by omega), List.getElem?_map]
  rw [List.getElem?_eq_getElem (by omega)]
  rw [getElem!_pos xs.toArray j hj]
  simp
theorem own_put {w : World} {base g cap n : Nat} {e : TypeId} {xs : List Value} (h : w.ownsRow base e 1 (.slice (some ⟨g, 0, none⟩) n cap) n xs) (ys : List α) (hy : ys.length = n) (m : Nat) :
    ((putRow enc w g 0 ys.toArray).drewN m).ownsRow base e 1 (.slice (some ⟨g, 0, none⟩) n cap) n (ys.map enc) ∧ Gr g w ((putRow enc w g 0 ys.toArray).drewN m) := by
  have hlt := (h.lt g rfl)
  constructor
  · rcases h.2 with ⟨h0, _⟩ | ⟨g', cap', cur, hv, hg, hh, hnc, hcm, hcs, ht⟩
    · cases h0
    · cases hv
      refine ⟨by simp [hy], .inr ⟨g, cap, putCells enc 0 ys.toArray cur, rfl, hlt.1, ?_, hnc, hcm, by simp [putCells, hcs], ?_⟩⟩
      · show (putRow enc w g 0 ys.toArray).heap[g]? = _
        simp [putRow, mapBlock, Array.getElem?_modify, hh, onCells]
      · apply List.ext_getElem?
        intro j
        by_cases hj : j < n
        · rw [List.getElem?_take_of_lt (by omega), Array.getElem?_toList]
          have hjc : j < cur.size := by omega
          have hjy : j < ys.length := by omega
          rw [List.getElem?_map, List.getElem?_eq_getElem hjy]
          simp [putCells, hjc, hy, hj]
        · rw [List.getElem?_take_eq_none (by omega), List.getElem?_eq_none (by simp; omega)]
  · refine ⟨rfl, rfl, rfl, by simp [putRow, mapBlock], fun k hkk hne => ?_⟩
    have : g ≠ k := fun e => hne (by rw [e])
    show (putRow enc w g 0 ys.toArray).heap[k]? = _
    simp [putRow, mapBlock, Array.getElem?_modify, this]
end

theorem gr_sortWorld {α : Type} [Inhabited α] {enc : α → Value} {w : World} {g m : Nat} {d : Array α} {os : Array Obj} : w.grownBy (sortWorld enc w g 0 m d os) (some g) := by
  refine ⟨rfl, rfl, rfl, by simp [sortWorld, putRow, mapBlock, Sort.ahead, grow], fun k hkk hne => ?_⟩
  unfold sortWorld
  rw [heap_grow_old _ _ (by simpa [putRow, mapBlock, Sort.ahead] using hkk)]
  have : g ≠ k := fun e => hne (by rw [e])
  simp [putRow, mapBlock, Sort.ahead, Array.getElem?_modify, this]

def encF {n : Nat} (x : Fin n) : Value := .int .i64 (x.val : Int)
end Go.Proofs.YtncnmadiiaidfaaGreatDoor
/- strings.Compare. -/
namespace Go.Proofs.YtncnmadiiaidfaaGreatDoor
open Go.RowKit Go.Shelf Go.Proofs

theorem w_CompareS (a b : ByteArray) (w : World) : Calls Tryz.prog 61 #[.string a, .string b] w fun e w' => e = .returned (.int .i64 (cmpS a b)) ∧ w = w' :=
  (Any.strings_Compare Tryz.compareStr a b w).mono fun _ _ ⟨h1, h2⟩ => ⟨h1, h2.symm⟩
end Go.Proofs.YtncnmadiiaidfaaGreatDoor
/- cmp.Or of numbers. -/
namespace Go.Proofs.YtncnmadiiaidfaaGreatDoor
open Go.RowKit

set_option maxHeartbeats 400000 in
theorem w_OrI (lo : Nat) (A : Option Addr) (c : Nat) (zs : List Int) (w : World) (hR : Rd w lo A 1 encI zs) (hl : zs.length ≤ 65536) :
    Calls Tryz.prog 70 #[.slice A zs.length c] w fun e w' => e = .returned (.int .i64 (orI zs)) ∧ w = w' := by
  generalize hn : zs.length = n at *
  have HR := hide hR
  have HN := hide hn
  clear hR hn
  go_enter Tryz.func70, Tryz.ntmps70
  go_wp2
  go_loop [2, 5, 8] (fun _ _ i => ∃ k : Nat, k ≤ n ∧ i = .int .i64 k ∧ orI zs = orI (zs.drop k)) (fun _ _ i => n - (intOf i).toNat)
  case atStart => exact ⟨0, Nat.zero_le _, rfl, rfl⟩
  case round =>
    obtain ⟨k, hk, rfl, hq⟩ := hrel
    have HQ := hide hq
    clear hq
    by_cases hlt : k < n
    · have hlt' : k < zs.length := by have := HN.out; omega
      obtain ⟨b, off, rfl, _, hb, _, hc⟩ := HR.out.open_ (Nx.refl w) (by omega)
      have c0 : w.cell? ⟨b, off + k, none⟩ = some (.int .i64 zs[k]) := by have := hc k hlt' 0 _ rfl; simpa using this
      clear hc
      have HD := hide (orI_drop zs k hlt')
      by_cases hz : zs[k] = 0
      · have hz' : (zs[k] != 0) = false := by simpa using hz
        have HZ := hide hz
        clear hz
        generalize zs[k] = z at *
        go_wp2
        go_round
        case rel => exact ⟨k + 1, by omega, by go_num, by rw [HQ.out, HD.out, if_pos HZ.out]⟩
        case measure => simp [intOf]; omega
      · have hz' : (zs[k] != 0) = true := by simpa using hz
        have HZ := hide hz
        clear hz
        generalize zs[k] = z at *
        go_wp2
        go_ret
        exact ⟨ret_int (by rw [HQ.out, HD.out, if_neg HZ.out]), rfl⟩
    · have ek : k = n := by omega
      subst ek
      clear hlt
      go_wp2
      go_ret
      exact ⟨ret_int (by rw [HQ.out, List.drop_of_length_le (by have := HN.out; omega)]; rfl), rfl⟩
end Go.Proofs.YtncnmadiiaidfaaGreatDoor
/- Trips in the order in which they began: the program's sort of their places, the reference's stable sort of a copy. -/
namespace Go.Proofs.YtncnmadiiaidfaaGreatDoor
open Go.RowKit Go.Sort Go.Proofs Go.Shelf

/-- The comparison of two trips by their places. -/
def cfJ (l : List Jour) (i j : Nat) : Int := orI [cmpI (l.getD i default).from_ (l.getD j default).from_, cmpS (l.getD i default).ride (l.getD j default).ride]
set_option maxRecDepth 100000 in
set_option maxHeartbeats 2000000 in
theorem w_fr1 (lo : Nat) (A : Option Addr) (c : Nat) (l : List Jour) (b7 i j : Nat) (hi : i < l.length) (hj : j < l.length) (hl : l.length ≤ 1000) (W : World) (hb : W.cell? ⟨b7, 0, none⟩ = some (.slice A l.length c)) (hR : Rd W lo A 6 encJ l) :
    Calls Tryz.prog 69 #[.int .i64 (i : Int), .int .i64 (j : Int), .pointer (some ⟨b7, 0, none⟩)] W fun e w' => e = .returned (.int .i64 (cfJ l i j)) ∧ Lays W w' := by
  have hl0 : 0 < l.length := by omega
  obtain ⟨b, off, rfl, _, hbb, _, hc⟩ := hR.open_ (Nx.refl W) hl0
  have HE := hide (show cfJ l i j = orI [cmpI l[i].from_ l[j].from_, cmpS l[i].ride l[j].ride] by unfold cfJ; simp [List.getD, hi, hj])
  have c0 : W.cell? ⟨b, off + i * 6, none⟩ = some (.string l[i].ride) := hc i hi 0 _ rfl
  have c1 : W.cell? ⟨b, off + i * 6 + 4, none⟩ = some (.int .i64 l[i].from_) := hc i hi 4 _ rfl
  have c2 : W.cell? ⟨b, off + j * 6, none⟩ = some (.string l[j].ride) := hc j hj 0 _ rfl
  have c3 : W.cell? ⟨b, off + j * 6 + 4, none⟩ = some (.int .i64 l[j].from_) := hc j hj 4 _ rfl
  clear hc hR
  generalize l[i].ride = r1 at *
  generalize l[j].ride = r2 at *
  generalize l[i].from_ = f1 at *
  generalize l[j].from_ = f2 at *
  generalize cfJ l i j = V at *
  have i1 : (0 : Int) ≤ (i : Int) := by omega
  have i2 : (i : Int) < (l.length : Int) := by omega
  have j1 : (0 : Int) ≤ (j : Int) := by omega
  have j2 : (j : Int) < (l.length : Int) := by omega
  generalize l.length = n at *
  go_enter Tryz.func69, Tryz.ntmps69
  go_upto_region 1 with fail
  refine wp_region_still_tail 24 (by kernel_rfl) (by kernel_rfl) ?_
  simp only [List.take_succ_cons, List.take_zero, List.drop_succ_cons, List.drop_zero]
  still_step; still_step; still_step; still_step; still_step; still_step
  still_step; still_step; still_step; still_step; still_step; still_step
  still_call (flipc (w_Compare _ _ _))
  still_step; still_step; still_step; still_step; still_step
  still_step; still_step; still_step; still_step; still_step
  still_call (flipc (w_CompareS _ _ _))
  refine wpStill_nil ?_
  go_wp2_with (go_at_call 70; refine (w_OrI 0 (some ⟨W.heap.size, 0, none⟩) 2 [cmpI f1 f2, cmpS r1 r2] _ (Rd.lit (hnew_drew (by simp)) (Nat.zero_le _) (fun _ => rfl) rfl) (by simp)).mono ?_; rintro e w' ⟨rfl, rfl⟩)
  go_ret
  exact ⟨ret_int (by rw [HE.out]), ((Lays.refl W).alloc _).drew⟩

theorem orI_neg {a b : Int} : orI [a, b] < 0 ↔ a < 0 ∨ (a = 0 ∧ b < 0) := by
  unfold orI
  by_cases ha : a = 0
  · rw [if_pos ha]
    unfold orI
    by_cases hb : b = 0
    · rw [if_pos hb]; unfold orI; omega
    · rw [if_neg hb]; omega
  · rw [if_neg ha]; omega
theorem lexC {a b : Jour} : orI [cmpI a.from_ b.from_, cmpS a.ride b.ride] < 0 ↔ lexJ a b := by
  rw [orI_neg, cmpI_neg, cmpI_zero, cmpS_neg]; rfl
theorem lexJ_tri {a b : Jour} (h : ¬ lexJ a b) (k : ¬ lexJ b a) : a.from_ = b.from_ ∧ a.ride = b.ride := by
  unfold lexJ at h k
  have h1 : a.from_ = b.from_ := by
    have : ¬ a.from_ < b.from_ := fun e => h (.inl e)
    have : ¬ b.from_ < a.from_ := fun e => k (.inl e)
    omega
  exact ⟨h1, ltS_tri _ _ (fun e => h (.inr ⟨h1, e⟩)) (fun e => k (.inr ⟨h1.symm, e⟩))⟩
def cfF (l : List Jour) {n : Nat} (x y : Fin n) : Int := cfJ l x.val y.val
theorem cfF_lt (l : List Jour) {n : Nat} (x y : Fin n) : ltOf (cfF l) x y = true ↔ lexJ (l.getD x.val default) (l.getD y.val default) := by
  unfold ltOf cfF cfJ; rw [decide_eq_true_eq]; exact lexC
theorem cfF_nlt (l : List Jour) {n : Nat} (x y : Fin n) : ltOf (cfF l) x y = false ↔ ¬ lexJ (l.getD x.val default) (l.getD y.val default) := by rw [← cfF_lt]; simp
theorem swoF (l : List Jour) (n : Nat) : SWO (ltOf (cfF l (n := n))) where
  irrefl x := (cfF_nlt l x x).2 (lexJ_irrefl _)
  trans x y z h1 h2 := (cfF_lt l x z).2 (lexJ_trans ((cfF_lt l x y).1 h1) ((cfF_lt l y z).1 h2))
  ntrans x y z h1 h2 := (cfF_nlt l x z).2 (fun h => by
    have h1 := (cfF_nlt l x y).1 h1
    have h2 := (cfF_nlt l y z).1 h2
    generalize l.getD x.val default = a at *
    generalize l.getD y.val default = b at *
    generalize l.getD z.val default = c at *
    by_cases hba : lexJ b a
    · exact h2 (lexJ_trans hba h)
    · obtain ⟨e1, e2⟩ := lexJ_tri h1 hba
      refine h2 ?_
      unfold lexJ at h ⊢
      rw [← e1, ← e2]; exact h)
theorem totF {l : List Jour} (hs : SortR l) (x y : Fin l.length) (h1 : ltOf (cfF l) x y = false) (h2 : ltOf (cfF l) y x = false) : x = y := by
  have h1 := (cfF_nlt l x y).1 h1
  have h2 := (cfF_nlt l y x).1 h2
  have he := (lexJ_tri h1 h2).2
  refine Classical.byContradiction fun hne => ?_
  have hv : x.val ≠ y.val := fun e => hne (Fin.ext e)
  have hx := x.isLt
  have hy := y.isLt
  have key : ∀ i j (hi : i < l.length) (hj : j < l.length), i < j → (l.getD i default).ride ≠ (l.getD j default).ride := fun i j hi hj hij e => by
    have := List.pairwise_iff_getElem.1 hs i j hi hj hij
    simp [List.getD, hi, hj] at e
    rw [e] at this
    exact ltS_irrefl _ this
  rcases Nat.lt_or_gt_of_ne hv with h | h
  · exact key _ _ hx hy h he
  · exact key _ _ hy hx h he.symm
theorem own_sortW {α : Type} [Inhabited α] {enc : α → Value} {w : World} {base g cap n : Nat} {e : TypeId} {xs : List Value} (h : w.ownsRow base e 1 (.slice (some ⟨g, 0, none⟩) n cap) n xs) (ys : List α) (hy : ys.length = n) (m : Nat) (os : Array Obj) :
    (sortWorld enc w g 0 m ys.toArray os).ownsRow base e 1 (.slice (some ⟨g, 0, none⟩) n cap) n (ys.map enc) := by
  have h1 := (own_put (enc := enc) h ys hy m).1
  have h2 : Lays ((putRow enc w g 0 ys.toArray).drewN m) (sortWorld enc w g 0 m ys.toArray os) := ⟨0, os, rfl⟩
  exact own_nx h1 h2.nx
set_option maxHeartbeats 1000000 in
/-- The places of the trips, in the order in which these began. -/
theorem w_SortPl {w : World} {base g b7 lo c : Nat} {A : Option Addr} (l : List Jour) (hl0 : 0 < l.length) (hl : l.length ≤ 1000) (hs : SortR l) (h : w.ownsRow base 3 1 (.slice (some ⟨g, 0, none⟩) l.length l.length) l.length ((List.range l.length).map (fun (i : Nat) => Value.int .i64 (i : Int))))
    (hbox : ∀ W, Gr g w W → W.cell? ⟨b7, 0, none⟩ = some (.slice A l.length c)) (hR : ∀ W, Gr g w W → Rd W lo A 6 encJ l) :
    Calls Tryz.prog 68 #[.slice (some ⟨g, 0, none⟩) l.length l.length, .func (.func 69) #[] #[.pointer (some ⟨b7, 0, none⟩)]] w fun en w' => en = .returned (.tuple #[]) ∧
      ∃ ys : List Nat, ys.Perm (List.range l.length) ∧ ys.Pairwise (fun a b => lexJ (l.getD a default) (l.getD b default)) ∧ w'.ownsRow base 3 1 (.slice (some ⟨g, 0, none⟩) l.length l.length) l.length (ys.map (fun (i : Nat) => Value.int .i64 (i : Int))) ∧ Gr g w w' := by
  have hlt := (h.lt g rfl)
  haveI : Inhabited (Fin l.length) := ⟨⟨0, hl0⟩⟩
  obtain ⟨xs, hxs⟩ : ∃ xs, xs = List.finRange l.length := ⟨_, rfl⟩
  have hxl : xs.length = l.length := by rw [hxs]; simp
  have hxv : xs.map (fun x => x.val) = List.range l.length := by
    rw [hxs]
    apply List.ext_getElem
    · simp
    · intro i h1 h2; simp
  have hxe : (List.range l.length).map (fun (i : Nat) => Value.int .i64 (i : Int)) = xs.map encF := by
    rw [← hxv, List.map_map]; rfl
  have h0 := h
  rw [hxe] at h0
  have hH := holds_one hxl h0
  have e1 : xs.toArray.size = l.length := by simpa using hxl
  have hO : OneCell (encF (n := l.length)) := fun x => by rfl
  have hc : CmpLays1 Tryz.prog 69 #[.pointer (some ⟨b7, 0, none⟩)] encF (cfF l) g 0 xs.toArray.size w := fun m os dk hdk x y => by
    have hg := gr_sortWorld (enc := encF (n := l.length)) (w := w) (g := g) (m := m) (d := dk) (os := os)
    rw [show #[encF x, encF y] ++ #[Value.pointer (some ⟨b7, 0, none⟩)] = #[encF x, encF y, Value.pointer (some ⟨b7, 0, none⟩)] from rfl]
    exact w_fr1 lo A c l b7 x.val y.val x.isLt y.isLt hl _ (hbox _ hg) (hR _ hg)
  have hsr := Any.slices_SortFunc_total Tryz.sortIntF encF hO (cfF l) (swoF l l.length) 69 #[.pointer (some ⟨b7, 0, none⟩)] g 0 l.length xs.toArray w (enters_of Tryz.func69 (by kernel_rfl) rfl) hc hH hlt.2 (by omega) (totF hs)
  change Calls Tryz.prog 68 _ _ _ at hsr
  rw [e1] at hsr
  refine hsr.mono fun en w' ⟨he, n, os, hw⟩ => ⟨he, ?_⟩
  have htot : ∀ x y : Fin l.length, (!ltOf (cfF l) y x || !ltOf (cfF l) x y) = true := fun x y => by
    cases h1 : ltOf (cfF l) y x with
    | false => rfl
    | true =>
      cases h2 : ltOf (cfF l) x y with
      | false => rfl
      | true => exact absurd (lexJ_trans ((cfF_lt l y x).1 h1) ((cfF_lt l x y).1 h2)) (lexJ_irrefl _)
  have hperm := List.mergeSort_perm xs.toArray.toList (fun x y => !ltOf (cfF l) y x)
  have hsort := List.pairwise_mergeSort (le := fun x y => !ltOf (cfF l) y x) (fun a b c h1 h2 => by
    simp only [Bool.not_eq_true'] at h1 h2 ⊢
    exact (swoF l l.length).ntrans _ _ _ h2 h1) (fun a b => htot a b) xs.toArray.toList
  generalize xs.toArray.toList.mergeSort (fun x y => !ltOf (cfF l) y x) = D at *
  have hD : D.Perm xs := by simpa using hperm
  have hp : (D.map (fun x => x.val)).Perm (List.range l.length) := by rw [← hxv]; exact hD.map _
  have hDl : D.length = l.length := by rw [hD.length_eq, hxl]
  refine ⟨D.map (fun x => x.val), hp, ?_, ?_, ?_⟩
  · rw [List.pairwise_map]
    have hnd : D.Nodup := by
      have : (D.map (fun x => x.val)).Nodup := hp.nodup_iff.2 List.nodup_range
      exact (List.pairwise_map.1 this).imp (fun h e => h (by rw [e]))
    refine List.Pairwise.imp₂ (fun a b h1 h2 => ?_) hsort hnd
    simp only [Bool.not_eq_true'] at h1
    refine Classical.byContradiction fun hc => h2 ?_
    exact totF hs a b ((cfF_nlt l a b).2 hc) h1
  · rw [hw, List.map_map]
    exact own_sortW h D hDl n os
  · rw [hw]; exact gr_sortWorld
end Go.Proofs.YtncnmadiiaidfaaGreatDoor
/- A map of integers, said of a plain function: what it holds at each key. Of no program. -/
namespace Go.Proofs.YtncnmadiiaidfaaGreatDoor
open Go.RowKit Go.Maps

section
variable {κ : Type} {P : Program} {K E : TypeId} {ek : κ → Value} {dom : κ → Prop}

/-- The map's datum D holds f k at key k (0 where it has none); its keys lie in dom. -/
structure MpD (P : Program) (K : TypeId) (ek : κ → Value) (dom : κ → Prop) (D : DataW Unit) (f : κ → Int) : Prop where
  isMap : IsMap D
  at_ : ∀ k l, dom k → keyOf P K (ek k) = some l → D.atKey l (.lit (.int .i64 0)) = .lit (.int .i64 (f k))
  keys : ∀ l, has D l = true → ∃ k, dom k ∧ keyOf P K (ek k) = some l

/-- Block b is such a map. -/
def MpI (P : Program) (K E : TypeId) (ek : κ → Value) (dom : κ → Prop) (w : World) (b n : Nat) (f : κ → Int) : Prop :=
  ∃ D : DataW Unit, w.ownsMap P K (plainElem P E) b n D ∧ MpD P K ek dom D f

theorem MpI.lt {w : World} {b n : Nat} {f : κ → Int} (h : MpI P K E ek dom w b n f) : b < w.heap.size := by
  obtain ⟨D, h1, _⟩ := h; exact h1.lt
theorem MpI.nx {w w' : World} {b n : Nat} {f : κ → Int} (h : MpI P K E ek dom w b n f) (hn : Nx w w') : MpI P K E ek dom w' b n f := by
  obtain ⟨D, h1, h2⟩ := h
  exact ⟨D, h1.kept (hn.gr none) (by simp), h2⟩
theorem MpI.mono {w : World} {b n n' : Nat} {f : κ → Int} (h : MpI P K E ek dom w b n f) (hn : n ≤ n') : MpI P K E ek dom w b n' f := by
  obtain ⟨D, h1, h2⟩ := h; exact ⟨D, h1.mono hn, h2⟩
theorem MpI.made (w : World) : MpI P K E ek dom (w.alloc (.map #[] 0)) w.heap.size 0 (fun _ => 0) :=
  ⟨.map [], World.ownsMap_made w P K _, isMap_empty, fun _ _ _ _ => rfl, fun l h => by simp [has_eq] at h⟩
theorem wf_i64 {n : Int} : (Lit.int .i64 n).wf = true ↔ -9223372036854775808 ≤ n ∧ n ≤ 9223372036854775807 := by
  simp [Lit.wf, IntKind.min, IntKind.max, IntKind.signed, IntKind.bits]

theorem MpI.look {w : World} {b n : Nat} {f : κ → Int} {t : TypeId} (h : MpI P K E ek dom w b n f) (KL : Keyed P K) (ht : P.underlying t = some (.map K E)) (he : P.underlying E = some (.int .i64)) (hz : (zeroValue E).run P w = .ok (.int .i64 0) w)
    {k : κ} (hd : dom k) {l : Lit} (hkey : keyOf P K (ek k) = some l) : (Instr.lookup t (.map (some b)) (ek k) false).run P w = .ok (.int .i64 (f k)) w ∧ (Lit.int .i64 (f k)).wf = true := by
  obtain ⟨D, h1, h2⟩ := h
  obtain ⟨c, hrun, hat, hwf⟩ := h1.lookup_int KL ht he hz hkey
  have e := h2.at_ k l hd hkey
  rw [hat] at e
  have e' : c = f k := by injection e with e; injection e
  subst e'
  exact ⟨hrun, hwf⟩

theorem MpD.put {D : DataW Unit} {f : κ → Int} [DecidableEq κ] (h : MpD P K ek dom D f) (KL : Keyed P K) (hinj : ∀ a b : κ, ek a = ek b → a = b) {k : κ} (hd : dom k) {l : Lit} (hkey : keyOf P K (ek k) = some l) (v : Int) :
    MpD P K ek dom (D.put l (.lit (.int .i64 v))) (fun k' => if k' = k then v else f k') where
  isMap := h.isMap.put _ _
  at_ k' l' hd' hk' := by
    by_cases e : k' = k
    · subst e
      rw [hkey] at hk'; injection hk' with hk'; subst hk'
      rw [if_pos rfl]
      exact atKey_put_same h.isMap (KL.key hkey) _ _
    · rw [if_neg e]
      have hne : l' ≠ l := fun e1 => by subst e1; exact e (hinj _ _ (KL.inj hk' hkey))
      rw [atKey_put_other hne]
      exact h.at_ k' l' hd' hk'
  keys l' hl' := by
    by_cases e : l' = l
    · subst e; exact ⟨k, hd, hkey⟩
    · rw [has_put_other e] at hl'; exact h.keys l' hl'

set_option maxRecDepth 100000 in
/-- 'm[k] op= v', as the model runs it: first the entry, then the store. -/
theorem MpI.entry {w : World} {b n : Nat} {f : κ → Int} [DecidableEq κ] {t : TypeId} (h : MpI P K E ek dom w b n f) (KL : WideMaps.KeyLaw P K) (hinj : ∀ a b : κ, ek a = ek b → a = b) (ht : P.underlying t = some (.map K E)) (he : P.underlying E = some (.int .i64))
    (hz : ∀ u, (zeroValue E).run P u = .ok (.int .i64 0) u) (hn : n < maxLen) {k : κ} (hd : dom k) {l : Lit} (hkey : keyOf P K (ek k) = some l) :
    ∃ (v0 : Value) (st : Int) (w1 : World), (Instr.mapEntry t (.map (some b)) (ek k)).run P w = .ok (.tuple #[v0, .int .i64 st]) w1 ∧ w.grownBy w1 (some b) ∧ (Instr.lookup t (.map (some b)) (ek k) false).run P w1 = .ok (.int .i64 (f k)) w1 ∧
      ∀ v : Int, (Lit.int .i64 v).wf = true → ∃ w2, (Instr.entryStore t (.map (some b)) (.int .i64 st) (.int .i64 v)).run P w1 = .ok () w2 ∧ MpI P K E ek dom w2 b (n + 1) (fun k' => if k' = k then v else f k') ∧ w.grownBy w2 (some b) := by
  obtain ⟨D, h1, h2⟩ := h
  have h1' := h1
  obtain ⟨es, clock, hb, F, _, _⟩ := h1
  obtain ⟨v0, st, es1, clock1, hr1, _, hr2⟩ := WideElems.entry_then_store KL ht hz hb F hkey
  refine ⟨v0, st, _, hr1, ⟨rfl, rfl, rfl, by simp [ChangeMaps.setBlock], fun k hk hne => by
    have : b ≠ k := fun e => hne (by rw [e])
    simp [ChangeMaps.setBlock, this]⟩, ?_, fun v hv => ?_⟩
  · have hlt : b < w.heap.size := h1'.lt
    rcases KL.find w hkey es.toList F.keys with ⟨e1, e2⟩ | ⟨j, e0, e1, e2, e3⟩
    · have hrun : (Instr.mapEntry t (.map (some b)) (ek k)).run P w = .ok (.tuple #[.int .i64 0, goInt clock]) (ChangeMaps.setBlock w b (.map (es.push ⟨ek k, .int .i64 0, clock⟩) (clock + 1))) := by
        simp [Instr.mapEntry, run_underlying ht, MapKept.run_getObj_map hb, KL.check w false hkey, e1, hz, MapKept.run_setObj_map _ hb, Result.andThen, ChangeMaps.setBlock]
      have hup : (Instr.mapUpdate t (.map (some b)) (ek k) (.int .i64 0)).run P w = .ok () (ChangeMaps.setBlock w b (.map (es.push ⟨ek k, .int .i64 0, clock⟩) (clock + 1))) := by
        simp [Instr.mapUpdate, run_underlying ht, MapKept.run_getObj_map hb, KL.check w false hkey, e1, MapKept.run_setObj_map _ hb, Result.andThen, ChangeMaps.setBlock]
      rw [hr1] at hrun
      rw [Result.ok.injEq] at hrun
      have ew := hrun.2
      clear hrun
      rw [ew]
      obtain ⟨w2, hu2, ho2, _⟩ := h1'.update (Keyed.of_law KL) ht hn hkey (plainElem_int (H := Unit) he (wf_i64.2 (by omega) : (Lit.int .i64 0).wf = true))
      rw [hup] at hu2
      rw [Result.ok.injEq] at hu2
      have eu := hu2.2
      clear hu2
      have hM : MpI P K E ek dom w2 b (n + 1) (fun k' => if k' = k then 0 else f k') := ⟨_, ho2, h2.put (Keyed.of_law KL) hinj hd hkey 0⟩
      have hl := (hM.look (Keyed.of_law KL) ht he (hz _) hd hkey).1
      rw [if_pos rfl] at hl
      have hf : f k = 0 := by
        have e4 := (MpI.look ⟨D, h1', h2⟩ (Keyed.of_law KL) ht he (hz _) hd hkey).1
        have e5 : (Instr.lookup t (.map (some b)) (ek k) false).run P w = .ok (.int .i64 0) w := by
          simp [Instr.lookup, run_underlying ht, MapKept.run_getObj_map hb, KL.check w _ hkey, e1, hz, Result.andThen]
        rw [e5] at e4
        injection e4 with e4 _; injection e4 with _ e4; exact e4.symm
      rw [eu, hf]
      exact hl
    · have hj : es[j]? = some e0 := by simpa using e2
      have hrun : (Instr.mapEntry t (.map (some b)) (ek k)).run P w = .ok (.tuple #[e0.val, goInt e0.born]) w := by
        have hsame : es.modify j (fun e => { e with key := ek k }) = es := by
          apply Array.ext'
          rw [Array.toList_modify]
          have h6 : ({ e0 with key := ek k } : MapEntry) = e0 := by rw [← e3]
          apply List.ext_getElem?
          intro i
          rw [List.getElem?_modify]
          by_cases hi : j = i
          · subst hi; rw [e2]; simp [h6]
          · simp [hi]
        simp [Instr.mapEntry, run_underlying ht, MapKept.run_getObj_map hb, KL.check w false hkey, e1, hj, e3, KL.stays w hkey, hsame, MapKept.run_setObj_map _ hb, Result.andThen]
        have hs : w.heap.setIfInBounds b (.map es clock) = w.heap := by
          apply Array.ext'
          rw [Array.toList_setIfInBounds]
          apply List.ext_getElem?
          intro i
          rw [List.getElem?_set]
          by_cases hi : b = i
          · subst hi; rw [if_pos rfl, if_pos (by simpa using hlt), Array.getElem?_toList, hb]
          · rw [if_neg hi]
        rw [hs]
      rw [hr1] at hrun
      rw [Result.ok.injEq] at hrun
      have ew := hrun.2
      clear hrun
      rw [ew]
      exact (MpI.look ⟨D, h1', h2⟩ (Keyed.of_law KL) ht he (hz _) hd hkey).1
  obtain ⟨es', clock', hs, hu⟩ := hr2 (ChangeMaps.setBlock w b (.map es1 clock1)) (.int .i64 v) (by
    have hlt : b < w.heap.size := h1'.lt
    simp [ChangeMaps.setBlock, hlt])
  obtain ⟨w2, hu2, ho2, hg2⟩ := h1'.update (Keyed.of_law KL) ht hn hkey (plainElem_int (H := Unit) he hv)
  rw [hu] at hu2
  injection hu2 with _ e2
  have e3 : ChangeMaps.setBlock (ChangeMaps.setBlock w b (.map es1 clock1)) b (.map es' clock') = ChangeMaps.setBlock w b (.map es' clock') := by
    simp [ChangeMaps.setBlock]
  rw [e3, e2] at hs
  exact ⟨w2, hs, ⟨_, ho2, h2.put (Keyed.of_law KL) hinj hd hkey v⟩, hg2⟩
end
end Go.Proofs.YtncnmadiiaidfaaGreatDoor
/- The keys of the fares' map: a pass and a day. -/
namespace Go.Proofs.YtncnmadiiaidfaaGreatDoor
open Go.RowKit Go.Maps

theorem tySizeU : Tryz.prog.types.size = 307 := by kernel_rfl
theorem laidOutU : laidOutB Tryz.prog = true := by kernel_rfl
theorem klaw_use : WideMaps.KeyLaw Tryz.prog 146 := deep_law_laid laidOutU (m := 5) (by omega) (k := 146) (by rw [tySizeU]; decide) (by kernel_rfl) (by kernel_rfl)
theorem law_use : Keyed Tryz.prog 146 := Keyed.of_law klaw_use
theorem kt_use : Tryz.prog.keyType 146 = true := by kernel_rfl
theorem cells_use : Tryz.prog.cellsOf 146 = 2 := by kernel_rfl
theorem cells_intU : Tryz.prog.cellsOf 3 = 1 := by kernel_rfl
theorem lits_intU (d : Nat) (x : Int) (hx : (Lit.int .i64 x).wf = true) : Tryz.prog.keyLits (d + 1) 3 [.int .i64 x] = some [.int .i64 x] := by
  unfold Program.keyLits; rw [Tryz.underlying3]; simp [hx]
theorem lits_use (d : Nat) (x y : Int) (hx : (Lit.int .i64 x).wf = true) (hy : (Lit.int .i64 y).wf = true) : Tryz.prog.keyLits (d + 2) 146 [.int .i64 x, .int .i64 y] = some [.int .i64 x, .int .i64 y] := by
  unfold Program.keyLits; rw [Tryz.underlying146]; simp [cells_use, cells_intU, lits_intU _ _ hx, lits_intU _ _ hy]
/-- A pass's number and a day, as a key. -/
def ekU (p : Int × Int) : Value := .agg #[.int .i64 p.1, .int .i64 p.2]
theorem ekU_inj (a b : Int × Int) (h : ekU a = ekU b) : a = b := by
  cases a; cases b; simp [ekU] at h; simp [h]
def domU (p : Int × Int) : Prop := (Lit.int .i64 p.1).wf = true ∧ (Lit.int .i64 p.2).wf = true
theorem key_use (p : Int × Int) (h : domU p) : ∃ l, keyOf Tryz.prog 146 (ekU p) = some l := by
  refine ⟨.string (keyBytes [.int .i64 p.1, .int .i64 p.2]), ?_⟩
  unfold keyOf ekU
  rw [Tryz.underlying146, kt_use, tySizeU]
  have e := lits_use 306 p.1 p.2 h.1 h.2
  simp [Value.formed, Tryz.underlying146, cells_use, Value.cells, e]
theorem zeroIntU (w : World) : (zeroValue 3).run Tryz.prog w = .ok (.int .i64 0) w := by kernel_rfl
abbrev MpU (w : World) (b n : Nat) (f : Int × Int → Int) : Prop := MpI Tryz.prog 146 3 ekU domU w b n f
end Go.Proofs.YtncnmadiiaidfaaGreatDoor
/- base.Window and R.WindowFault. -/
namespace Go.Proofs.YtncnmadiiaidfaaGreatDoor
open Go.RowKit

theorem w_Win (f t : Int) (w : World) : Calls Tryz.prog 109 #[.agg #[.int .i64 f, .int .i64 t]] w fun e w' => e = .returned (.bool (winB f t)) ∧ Nx w w' := by
  cases h1 : outB f 0 t
  · go_enter Tryz.func109, Tryz.ntmps109
    go_wp2_with (go_at_call 40; refine (w_Out _ _ _ _).mono ?_; rintro e w' ⟨rfl, rfl⟩)
    go_ret
    exact ⟨ret_bool (by unfold winB; rw [h1]; rfl), (Nx.refl _).alloc _⟩
  · go_enter Tryz.func109, Tryz.ntmps109
    go_wp2_with (go_at_call 40; refine (w_Out _ _ _ _).mono ?_; rintro e w' ⟨rfl, rfl⟩)
    go_ret
    exact ⟨ret_bool (by unfold winB; rw [h1]; rfl), (Nx.refl _).alloc _⟩
theorem w_WinF (f t : Int) (w : World) : Calls Tryz.prog 29 #[.agg #[.int .i64 f, .int .i64 t]] w fun e w' => e = .returned (.int .i64 (winF f t)) ∧ Nx w w' := by
  have e1 := inB_out f 0 t
  cases h1 : outB f 0 t
  · rw [h1] at e1
    cases h2 : decide (345686400000 < t)
    · have H := hide h2
      go_enter Tryz.func29, Tryz.ntmps29
      go_wp2_with (go_at_call 28; refine (w_in _ _ _ _).mono ?_; rintro e w' ⟨rfl, rfl⟩)
      go_ret
      exact ⟨ret_int (by have := H.out; rw [decide_eq_false_iff_not] at this; rw [winF, winB, h1, show decide (t ≤ 345686400000) = true from decide_eq_true (by omega)]; rfl), (Nx.refl _).alloc _⟩
    · have H := hide h2
      go_enter Tryz.func29, Tryz.ntmps29
      go_wp2_with (go_at_call 28; refine (w_in _ _ _ _).mono ?_; rintro e w' ⟨rfl, rfl⟩)
      go_ret
      exact ⟨ret_int (by have := H.out; rw [decide_eq_true_iff] at this; rw [winF, winB, h1, show decide (t ≤ 345686400000) = false from decide_eq_false (by omega)]; rfl), (Nx.refl _).alloc _⟩
  · rw [h1] at e1
    go_enter Tryz.func29, Tryz.ntmps29
    go_wp2_with (go_at_call 28; refine (w_in _ _ _ _).mono ?_; rintro e w' ⟨rfl, rfl⟩)
    go_ret
    exact ⟨ret_int (by rw [winF, winB, h1]; rfl), (Nx.refl _).alloc _⟩
end Go.Proofs.YtncnmadiiaidfaaGreatDoor
/- Full, of right zones, price and trip. -/
namespace Go.Proofs.YtncnmadiiaidfaaGreatDoor
open Go.RowKit

theorem orI_zero3 {a b c : Int} (h : orI [a, b, c] = 0) : a = 0 ∧ b = 0 ∧ c = 0 := by
  unfold orI at h
  by_cases ha : a = 0
  · subst ha
    simp at h
    unfold orI at h
    by_cases hb : b = 0
    · subst hb
      simp at h
      unfold orI at h
      by_cases hc : c = 0
      · exact ⟨rfl, rfl, hc⟩
      · simp [hc] at h
    · simp [hb] at h
  · simp [ha] at h

end Go.Proofs.YtncnmadiiaidfaaGreatDoor
