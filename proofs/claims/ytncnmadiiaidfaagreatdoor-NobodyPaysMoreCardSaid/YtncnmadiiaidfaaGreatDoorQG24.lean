/- What each trip costs: the program's Fares. -/
import Derived.Test.YtncnmadiiaidfaaGreatDoorQFares
import Derived.Test.YtncnmadiiaidfaaGreatDoorQG22
import Derived.Test.YtncnmadiiaidfaaGreatDoorQG7
import Derived.Deep.DeepCutAuto
import Derived.Deep.RegionHeld
import Derived.Test.YtncnmadiiaidfaaGreatDoorQG1
import Derived.Test.YtncnmadiiaidfaaGreatDoorQG0
import Derived.Test.YtncnmadiiaidfaaGreatDoorQG2
import Derived.Shelf.SlSortCmp.NoneTotal
import Derived.RegionTactic
import Derived.Test.YtncnmadiiaidfaaGreatDoorQZoneF
import Derived.Test.YtncnmadiiaidfaaGreatDoorQG14
import Derived.Below
import Derived.WalkKit
namespace Go.Proofs.YtncnmadiiaidfaaGreatDoor
open Go.RowKit

def faresL (zs : List Zone) (p : Price) (xs : List Pass) (O l : List Jour) : List Due := l.map (fun t => ⟨t.ride, costOf (payAll zs p xs [] O) t.ride⟩)
/-- What right arguments are. -/
theorem faultB_zero {zs : List Zone} {p : Price} {xs : List Pass} {l : List Jour} (h : faultB zs p xs l = 0) : (∀ z ∈ zs, z.nodes.Pairwise ltS) ∧ PriceOk p ∧ (∀ x ∈ xs, PassOk x) ∧ (∀ t ∈ l, JourOk t) ∧ SortR l := by
  obtain ⟨h1, h2, h3⟩ := orI_zero3 h
  exact ⟨zonesF_sorted (passF_zero h1).1, pricesF_ok h2 p (by simp), passesF_ok (passF_zero h1).2, joursF_ok h3, joursF_sorted h3⟩
set_option maxRecDepth 100000 in
set_option maxHeartbeats 2000000 in
theorem w_FaresO (D X A : Option Addr) (c cx cl : Nat) (zs : List Zone) (p : Price) (xs : List Pass) (l : List Jour) (w : World) (hZ : RdZones w 0 D zs) (hzl : zs.length ≤ 100) (hk : p.key.size ≤ 1000000)
    (hX : RdPasses w 0 X xs) (hxl : xs.length ≤ 300) (hJ : RdJours w 0 A l) (hll : l.length ≤ 1000) (hF : faultB zs p xs l = 0) :
    Calls Tryz.prog 14 #[.slice D zs.length c, aggP p, .slice X xs.length cx, .slice A l.length cl] w fun e w' => ∃ (O : List Jour) (R : Option Addr) (cR : Nat), IsOrd l O ∧ e = .returned (.tuple #[.slice R l.length cR, .int .i64 0]) ∧ Rd w' w.heap.size R 2 encDue (faresL zs p xs O l) ∧ Nx w w' := by
  have HFF := hide (fun W (hn : Nx w W) => w_faresFault D X A c cx cl zs p xs l W (hZ.nx hn) hzl hk (hX.nx hn) hxl (hJ.nx hn) hll)
  rw [hF] at HFF
  have HFS := hide (fun W (hn : Nx w W) => w_fares D X A c cx cl zs p xs l W (hZ.nx hn) hzl (faultB_zero hF).1 (faultB_zero hF).2.1 (hX.nx hn) hxl (faultB_zero hF).2.2.1 (hJ.nx hn) hll (faultB_zero hF).2.2.2.1 (faultB_zero hF).2.2.2.2)
  have HJR := hide hJ.1
  obtain ⟨n, hn⟩ : ∃ n, n = l.length := ⟨_, rfl⟩
  rw [← hn] at HFF HFS hll ⊢
  have HN := hide hn
  clear hF hZ hzl hk hX hxl hJ hn
  obtain ⟨CL, hCL⟩ : ∃ CL : List Jour → List Int, CL = fun O => costL zs p xs O l := ⟨_, rfl⟩
  have HCL := hide (fun O => (show (CL O).length = n by rw [hCL, HN.out]; simp [costL]))
  have HFL := hide (fun (O : List Jour) (k : Nat) (hk : k < n) => (show ∃ (t : Jour) (v : Int), l[k]? = some t ∧ (CL O)[k]? = some v ∧ (faresL zs p xs O l).take (k + 1) = (faresL zs p xs O l).take k ++ [(⟨t.ride, v⟩ : Due)] from by
    have hk' : k < l.length := by rw [← HN.out]; exact hk
    refine ⟨l[k], _, List.getElem?_eq_getElem hk', by rw [hCL]; simp [costL, hk']; rfl, ?_⟩
    rw [List.take_succ_eq_append_getElem (by simpa [faresL] using hk')]
    simp [faresL]))
  have HFN := hide (fun O => (show (faresL zs p xs O l).take n = faresL zs p xs O l by rw [HN.out]; exact List.take_of_length_le (by simp [faresL])))
  have HFK := hide (fun O (k : Nat) (hk : k ≤ n) => (show ((faresL zs p xs O l).take k).length = k by rw [List.length_take]; simp [faresL, ← HN.out]; omega))
  have HFS2 : Hid (∀ W, Nx w W → Calls Tryz.prog 39 #[.slice D zs.length c, aggP p, .slice X xs.length cx, .slice A n cl] W fun e w' => ∃ (O : List Jour) (R : Option Addr) (cR : Nat), IsOrd l O ∧ e = .returned (.slice R n cR) ∧ Rd w' W.heap.size R 1 encI (CL O) ∧ Nx W w') := hide (by rw [hCL]; exact HFS.out)
  clear HFS hCL
  obtain ⟨FL, hFLe⟩ : ∃ FL : List Jour → List Due, FL = fun O => faresL zs p xs O l := ⟨_, rfl⟩
  have e1 : ∀ O, faresL zs p xs O l = FL O := fun O => by rw [hFLe]
  simp only [e1] at HFL HFN HFK ⊢
  clear e1 hFLe
  generalize zs.length = nz at *
  generalize xs.length = nx at *
  obtain ⟨k0, p1, p2, p3, p4, p5, p6, p7, p8, p9⟩ := p
  dsimp only [aggP] at *
  go_enter Tryz.func14, Tryz.ntmps14
  go_upto_region 5 with (go_at_call 38; refine (HFF.out _ ((Nx.refl w).alloc _)).mono ?_; rintro e w1 ⟨rfl, hn1⟩)
  have hw1 : Nx w w1 := ((Nx.refl w).alloc _).trans hn1
  have q0 : w1.cell? ⟨w.heap.size, 0, none⟩ = some (.string k0) := nx_cell hn1 (by simp) (by go_simp)
  have q1 : w1.cell? ⟨w.heap.size, 1, none⟩ = some (.int .i64 p1) := nx_cell hn1 (by simp) (by go_simp)
  have q2 : w1.cell? ⟨w.heap.size, 2, none⟩ = some (.int .i64 p2) := nx_cell hn1 (by simp) (by go_simp)
  have q3 : w1.cell? ⟨w.heap.size, 3, none⟩ = some (.int .i64 p3) := nx_cell hn1 (by simp) (by go_simp)
  have q4 : w1.cell? ⟨w.heap.size, 4, none⟩ = some (.int .i64 p4) := nx_cell hn1 (by simp) (by go_simp)
  have q5 : w1.cell? ⟨w.heap.size, 5, none⟩ = some (.int .i64 p5) := nx_cell hn1 (by simp) (by go_simp)
  have q6 : w1.cell? ⟨w.heap.size, 6, none⟩ = some (.int .i64 p6) := nx_cell hn1 (by simp) (by go_simp)
  have q7 : w1.cell? ⟨w.heap.size, 7, none⟩ = some (.int .i64 p7) := nx_cell hn1 (by simp) (by go_simp)
  have q8 : w1.cell? ⟨w.heap.size, 8, none⟩ = some (.int .i64 p8) := nx_cell hn1 (by simp) (by go_simp)
  have q9 : w1.cell? ⟨w.heap.size, 9, none⟩ = some (.int .i64 p9) := nx_cell hn1 (by simp) (by go_simp)
  clear hn1
  have HF1 := hide (HFS2.out w1 hw1)
  have HW1 := hide hw1
  clear HFF HFS2 hw1
  go_upto_region 6 with (go_at_call 39; refine HF1.out.mono ?_; rintro e w2 ⟨O, R, cR, hO, rfl, hR, hn2⟩)
  have HO := hide hO
  have HR := hide hR
  have hw2 := HW1.out.trans hn2
  have HW2 := hide hw2
  obtain ⟨L, hL⟩ : ∃ L, L = CL O := ⟨_, rfl⟩
  have hLl : L.length = n := by rw [hL]; exact HCL.out O
  have HLL := hide hLl
  have HL := hide hL
  clear hO hR hn2 hL hLl hw2 q0 q1 q2 q3 q4 q5 q6 q7 q8 q9 HF1
  go_loopw [11, 12, 13, 28] (fun v _ _ i wr => ∃ k : Nat, k ≤ n ∧ i = .int .i64 k ∧ wr.ownsRow w2.heap.size 47 2 v ((FL O).take k).length (((FL O).take k).flatMap encDue) ∧ Nx w2 wr) (fun _ _ _ i _ => n - (intOf i).toNat)
  case atStart => exact ⟨0, Nat.zero_le _, rfl, World.ownsRow_nil _ _ _ _, Nx.refl _⟩
  case round =>
    obtain ⟨k, hk, rfl, hown, hn3⟩ := hrel
    by_cases hlt : k < n
    · obtain ⟨t, v, hlk, hvk, htk⟩ := HFL.out O k hlt
      rw [← HL.out] at hvk
      obtain ⟨hkl, hlke⟩ := List.getElem?_eq_some_iff.1 hlk
      obtain ⟨hkv, hvke⟩ := List.getElem?_eq_some_iff.1 hvk
      have hR := HR.out
      rw [← HL.out] at hR
      obtain ⟨br, off, rfl, _, hb, hbr, hc⟩ := hR.open_ hn3 (by omega)
      have c0 : wr.cell? ⟨br, off + k, none⟩ = some (.int .i64 v) := by have h := hc k hkv 0 _ rfl; rw [hvke] at h; simpa using h
      obtain ⟨bt, offt, rfl, _, hbt, hbtr, hct⟩ := HJR.out.open_ (HW2.out.trans hn3) (by omega)
      have c1 : wr.cell? ⟨bt, offt + k * 6, none⟩ = some (.string t.ride) := hlke ▸ hct k hkl 0 _ rfl
      have i1 : (0 : Int) ≤ (k : Int) := by omega
      have i2 : (k : Int) < (n : Int) := by omega
      obtain ⟨G, hG⟩ : ∃ G, G = (FL O).take k := ⟨_, rfl⟩
      have hGl : G.length = k := by rw [hG]; exact HFK.out O k hk
      rw [← hG] at htk hown
      obtain ⟨A1, c1', ev, _, _⟩ := Rd.of_own encDue_len rfl hown
      obtain rfl := ev
      have HTK := hide htk
      have HOW := hide hown
      have HN3 := hide hn3
      have hwz := hn3.sz
      clear htk hown hn3 hc hct hlk hvk hlke hvke hR hG
      go_wp2_with (at_builtin; refine wpApp rfl _ _ _ rfl el_Due encDue encDue_len encDue_one (by omega) (by omega) w2.heap.size _ G rfl (HOW.out.alloc _) _ ⟨t.ride, v⟩ _ rfl (hnew rfl) rfl (by omega) (by simp; omega) ?_; intro v2 w3 hown2 hg2)
      have hnx2 := (HN3.out.alloc (.cells #[.string t.ride, .int .i64 v] 47)).grown hg2 (fun j hj => by exact own_blk_lt HOW.out j hj)
      go_roundw
      case rel => exact ⟨k + 1, by omega, by go_num, by rw [HTK.out]; exact hown2, hnx2⟩
      case measure => simp [intOf]; omega
    · have ek : k = n := by omega
      subst ek
      rw [HFN.out] at hown
      obtain ⟨A1, c1, ev, hRL, _⟩ := Rd.of_own encDue_len rfl hown
      obtain rfl := ev
      have hlen : (FL O).length = k := by have h := HFK.out O k (Nat.le_refl _); rw [HFN.out] at h; exact h
      have HRL := hide hRL
      have HN3 := hide (HW2.out.trans hn3)
      have HLE := hide hlen
      clear hown hn3 hRL hlen
      go_wp2_with fail
      go_ret2
      exact ⟨O, A1, c1, HO.out, by rw [HLE.out]; first | done | rfl, HRL.out.low HW2.out.sz, HN3.out⟩
end Go.Proofs.YtncnmadiiaidfaaGreatDoor
/- Plain: bills, sums by rider of what a day's trips cost. -/
namespace Go.Proofs.YtncnmadiiaidfaaGreatDoor
open Go.Sort Go.Proofs Go.Shelf

/-- The sums by key of a list of keys and numbers, one after the other. -/
def billK (q : List (ByteArray × Int)) : ByteArray → Option Int := q.foldl (fun f p => addK f p.1 p.2) (fun _ => none)
def sumK (q : List (ByteArray × Int)) (k : ByteArray) : Int := ((q.filter (fun p => decide (p.1 = k))).map Prod.snd).sum
theorem billK_snoc (q : List (ByteArray × Int)) (p : ByteArray × Int) : billK (q ++ [p]) = addK (billK q) p.1 p.2 := by simp [billK, List.foldl_append]
theorem billK_fold (q : List (ByteArray × Int)) : ∀ (f : ByteArray → Option Int) (k : ByteArray), (q.foldl (fun f p => addK f p.1 p.2) f) k = if q.any (fun p => decide (p.1 = k)) then some ((f k).getD 0 + sumK q k) else f k := by
  induction q with
  | nil => intro f k; simp
  | cons p q ih =>
    intro f k
    rw [List.foldl_cons, ih]
    by_cases hp : p.1 = k
    · subst hp
      rw [addK_at]
      by_cases hq : q.any (fun p' => decide (p'.1 = p.1)) = true
      · rw [if_pos hq, if_pos (by simp)]
        simp [sumK]; omega
      · have hq' : q.filter (fun p' => decide (p'.1 = p.1)) = [] := by
          rw [List.filter_eq_nil_iff]
          intro x hx hc
          exact hq (List.any_eq_true.2 ⟨x, hx, hc⟩)
        rw [if_neg hq, if_pos (by simp)]
        simp [sumK, hq']
    · have ha : addK f p.1 p.2 k = f k := by unfold addK; rw [if_neg (fun h => hp h.symm)]
      rw [ha]
      have h1 : (p :: q).any (fun p => decide (p.1 = k)) = q.any (fun p => decide (p.1 = k)) := by simp [hp]
      have h2 : sumK (p :: q) k = sumK q k := by simp [sumK, hp]
      rw [h1, h2]
theorem billK_at (q : List (ByteArray × Int)) (k : ByteArray) : billK q k = if q.any (fun p => decide (p.1 = k)) then some (sumK q k) else none := by
  rw [billK, billK_fold]; simp
theorem perm_sum {a b : List Int} (h : a.Perm b) : a.sum = b.sum := by
  induction h with
  | nil => rfl
  | cons x _ ih => simp [ih]
  | swap x y l => simp; omega
  | trans _ _ h1 h2 => rw [h1, h2]
theorem sumK_perm {q q' : List (ByteArray × Int)} (h : q.Perm q') (k : ByteArray) : sumK q k = sumK q' k := perm_sum ((h.filter _).map Prod.snd)
/-- Without the numbers that are 0 the sums stay. -/
theorem sumK_pos (q : List (ByteArray × Int)) (h : ∀ p ∈ q, 0 ≤ p.2) (k : ByteArray) : sumK (q.filter (fun p => decide (0 < p.2))) k = sumK q k ∧ 0 ≤ sumK q k ∧ ((q.filter (fun p => decide (0 < p.2))).any (fun p => decide (p.1 = k)) = decide (sumK q k ≠ 0)) := by
  induction q with
  | nil => simp [sumK]
  | cons p q ih =>
    obtain ⟨i1, i2, i3⟩ := ih (fun x hx => h x (List.mem_cons_of_mem _ hx))
    have hp := h p (List.mem_cons_self ..)
    by_cases hk : p.1 = k
    · have e1 : sumK (p :: q) k = p.2 + sumK q k := by simp [sumK, hk]
      by_cases h0 : 0 < p.2
      · have e2 : (p :: q).filter (fun p => decide (0 < p.2)) = p :: q.filter (fun p => decide (0 < p.2)) := by simp [h0]
        have e3 : sumK (p :: q.filter (fun p => decide (0 < p.2))) k = p.2 + sumK (q.filter (fun p => decide (0 < p.2))) k := by simp [sumK, hk]
        rw [e2, e3, e1, i1]
        refine ⟨rfl, by omega, ?_⟩
        rw [decide_eq_true (show p.2 + sumK q k ≠ 0 by omega)]
        simp [hk]
      · have e2 : (p :: q).filter (fun p => decide (0 < p.2)) = q.filter (fun p => decide (0 < p.2)) := by simp [h0]
        rw [e2, e1, show p.2 + sumK q k = sumK q k by omega]
        exact ⟨i1, i2, i3⟩
    · have e1 : sumK (p :: q) k = sumK q k := by simp [sumK, hk]
      by_cases h0 : 0 < p.2
      · have e2 : (p :: q).filter (fun p => decide (0 < p.2)) = p :: q.filter (fun p => decide (0 < p.2)) := by simp [h0]
        have e3 : sumK (p :: q.filter (fun p => decide (0 < p.2))) k = sumK (q.filter (fun p => decide (0 < p.2))) k := by simp [sumK, hk]
        rw [e2, e3, e1]
        refine ⟨i1, i2, ?_⟩
        rw [← i3]; simp [hk]
      · have e2 : (p :: q).filter (fun p => decide (0 < p.2)) = q.filter (fun p => decide (0 < p.2)) := by simp [h0]
        rw [e2, e1]
        exact ⟨i1, i2, i3⟩
/-- The program's list of what is paid: its trips in their order, those of the day that cost something. -/
def billP (P : List Paid) (day : Int) (l : List Jour) : List (ByteArray × Int) := (l.filter (fun t => decide (dayJ t = day) && decide (0 < costOf P t.ride))).map (fun t => (t.rider, costOf P t.ride))
/-- The reference's: as they were paid, those of the day. -/
def billR (P : List Paid) (day : Int) : List (ByteArray × Int) := (P.filter (fun d => decide (dayJ d.t = day))).map (fun d => (d.t.rider, d.cents))
theorem billP_snoc (P : List Paid) (day : Int) (l : List Jour) (t : Jour) : billP P day (l ++ [t]) = billP P day l ++ (if decide (dayJ t = day) && decide (0 < costOf P t.ride) then [(t.rider, costOf P t.ride)] else []) := by
  unfold billP
  rw [List.filter_append, List.map_append]
  by_cases h : (decide (dayJ t = day) && decide (0 < costOf P t.ride)) = true
  · rw [if_pos h]; simp only [List.filter_cons, h, if_true, List.filter_nil, List.map_cons, List.map_nil]
  · rw [if_neg h]; simp only [List.filter_cons, h, List.filter_nil]; simp
/-- The program's list is the reference's without what costs nothing, in another order. -/
theorem bill_perm (zs : List Zone) (p : Price) (xs : List Pass) {l O : List Jour} (hO : IsOrd l O) (hs : SortR l) (day : Int) :
    (billP (payAll zs p xs [] O) day l).Perm ((billR (payAll zs p xs [] O) day).filter (fun q => decide (0 < q.2))) := by
  obtain ⟨P, hP⟩ : ∃ P, P = payAll zs p xs [] O := ⟨_, rfl⟩
  have h2 : P.map Paid.t = O := by rw [hP, payAll_t]; rfl
  have h3 : (P.map Paid.t).Pairwise (fun a b => a.ride ≠ b.ride) := by rw [h2]; exact ord_ne hO hs
  rw [← hP]
  have h4 : (billP P day l).Perm (billP P day O) := (hO.1.symm.filter _).map _
  refine h4.trans ?_
  have h5 : billP P day O = (billR P day).filter (fun q => decide (0 < q.2)) := by
    unfold billP billR
    rw [List.filter_map, ← h2, List.filter_map, List.map_map, List.filter_filter]
    have e : ∀ d ∈ P, costOf P d.t.ride = d.cents := fun d hd => costOf_at h3 hd
    rw [List.filter_congr (q := fun d => decide (0 < d.cents) && decide (dayJ d.t = day)) (by
      intro d hd
      simp only [Function.comp]
      rw [e d hd, Bool.and_comm])]
    apply List.map_congr_left
    intro d hd
    simp only [Function.comp]
    rw [e d ((List.mem_filter.1 hd).1)]
  rw [h5]
end Go.Proofs.YtncnmadiiaidfaaGreatDoor
/- Sums by key in a map; their list in new memory. -/
namespace Go.Proofs.YtncnmadiiaidfaaGreatDoor
open Go.RowKit Go.Sort Go.Shelf Go.Maps Go.Proofs

theorem law_str : Keyed Tryz.prog 9 := string_keyed Tryz.underlying9
abbrev MpK (w : World) (b n : Nat) (f : ByteArray → Option Int) : Prop := MoI Tryz.prog 9 3 Value.string domS w b n f
theorem zeroIntK (w : World) : (zeroValue 3).run Tryz.prog w = .ok (.int .i64 0) w := by kernel_rfl

/-- A slice of dues in new memory. -/
def DuesR (f : ByteArray → Option Int) (zero : Bool) (w : World) (e : Ending) (w' : World) : Prop :=
  ∃ (A : Option Addr) (c : Nat) (ys : List Due), e = .returned (.slice A ys.length c) ∧ DuesOf f zero ys ∧ Rd w' w.heap.size A 2 encDue ys ∧ ys.length ≤ 65536 ∧ Nx w w'
theorem coll_startD {D : DataW Unit} {f : ByteArray → Option Int} {zero : Bool} (hM : MoD Tryz.prog 9 Value.string domS D f) : CollK f zero (has D) [] :=
  collK_start fun k hk => by rw [hM.has_ (hM.dm k hk) (keyS_mk Tryz.underlying9 (hM.dm k hk))]; exact hk
end Go.Proofs.YtncnmadiiaidfaaGreatDoor
/- slices.SortFunc over a row of the call's own, elements of K cells: what the row holds behind it. Of no program. -/
namespace Go.Proofs.YtncnmadiiaidfaaGreatDoor
open Go.RowKit Go.Sort Go.Proofs Go.Shelf

/-- slices.SortFunc, a comparison that parts whatever two that are not one: the sorted list. -/
theorem sortFunc {α : Type} [Inhabited α] {P : Program} {ρ : Ren} (L : SlLaysF0.n6 P ρ) (K : Nat) (hK : 0 < K) (aE : ∀ w, (isAgg (ρ.t 24)).run P w = .ok true w) (zE : ∀ w, (Go.sizeOf (ρ.t 24)).run P w = .ok K w) (enc : α → List Value) (hk : ∀ x, (enc x).length = K) (h1 : ∀ x, ∀ v ∈ enc x, v.oneCell' = true)
    (cf : α → α → Int) (hO : SWO (ltOf cf)) (g : Nat) (eg : ∀ args w, (callFunc g args).run P w = .ok (.enter g args) w)
    (hcmp : ∀ x y W, Calls P g #[.agg (enc x).toArray, .agg (enc y).toArray] W fun e w' => e = .returned (.int .i64 (cf x y)) ∧ Lays W w')
    {w : World} {base b cap n : Nat} {e : TypeId} {xs : List α} (hn : xs.length = n) (hsz : n < 4611686018427387904) (h : w.ownsRow base e K (.slice (some ⟨b, 0, none⟩) n cap) n (xs.flatMap enc)) :
    Calls P (ρ.f 6) #[.slice (some ⟨b, 0, none⟩) n cap, .func (.func g) #[] #[]] w fun en w' => en = .returned (.tuple #[]) ∧
      ∃ ys : List α, ys.Perm xs ∧ (∀ i j (hi : i < j) (hj : j < ys.length), ltOf cf ys[j] (ys[i]'(by omega)) = false) ∧ w'.ownsRow base e K (.slice (some ⟨b, 0, none⟩) n cap) n (ys.flatMap enc) ∧ Gr b w w' := by
  have hlt := (h.lt b rfl)
  have hH := holds_of_own hk hK hn h
  have hc : CmpLays P g #[] enc K cf b 0 xs.toArray.size w := fun m os dk _ x y => by
    rw [Array.append_empty]
    exact hcmp x y _
  have hs := AnyQ.slices_SortFunc L K aE zE enc hk h1 cf hO g #[] b 0 cap xs.toArray w eg hc hH hlt.2 (by simpa [hn] using hsz)
  have e1 : xs.toArray.size = n := by simpa using hn
  rw [e1] at hs
  refine hs.mono fun en w' ⟨he, d', m, os, hp, hso, hw⟩ => ⟨he, d'.toList, ?_, ?_, ?_⟩
  · have h3 := hp.2.2
    have h4 := hp.1
    rw [e1] at h4
    have e2 : d'.extract 0 n = d' := by rw [← h4]; simp
    have e3 : xs.toArray.extract 0 n = xs.toArray := by rw [← e1]; simp
    rw [e2, e3] at h3
    simpa using h3
  · intro i j hi hj
    have hj' : j < d'.size := by simpa using hj
    have h4 := hp.1
    rw [e1] at h4
    have := hso i j (Nat.zero_le _) hi (by omega)
    rw [getElem!_pos d' j hj', getElem!_pos d' i (by omega)] at this
    simpa using this
  · have h4 := hp.1
    rw [e1] at h4
    have := own_of_sorted hk hK h d'.toList (by simpa using h4) m os
    rw [hw]
    simpa using this
end Go.Proofs.YtncnmadiiaidfaaGreatDoor
/- The drawn statements of the stream's price. -/
namespace Go.Proofs.YtncnmadiiaidfaaGreatDoor
open Go.RowKit

/-- Region r, wherever it stands. -/
def findReg (r : Nat) : Code → Option Code
  | .region n o b => bif Nat.beq n r then some (.region n o b) else none
  | .seq a b => match findReg r a with | some c => some c | none => findReg r b
  | .cond _ a b => match findReg r a with | some c => some c | none => findReg r b
  | .scope c => findReg r c
  | .block _ c => findReg r c
  | .loop c => findReg r c
  | _ => none
noncomputable def ty_p3C : Code := (findReg 3 (Tryz.f5.body.getD .skip)).getD .skip
def ty_p3Sh (s b off : Nat) : Nat → Value → World → Prop
  | 0, v, w => ShPtr s 0 v w
  | 1, v, w => ShT v w
  | 2, v, w => ShLT s b 2 v w
  | 3, v, w => ShT v w
  | 4, v, w => ShPtr s 0 v w
  | 5, v, w => ShZ v w
  | 6, v, w => ShPtr s 0 v w
  | 7, v, w => ShLZ s b 3 v w
  | 8, v, w => ShZ v w
  | 9, v, w => ShPtr s 0 v w
  | 10, v, w => ShZ v w
  | 11, v, w => ShPtr s 0 v w
  | 12, v, w => ShPtr b (off + 9) v w
  | 13, v, w => ShZ v w
  | 14, v, w => ShLZ s b 2 v w
  | 15, v, w => ShZ v w
  | 16, v, w => ShPtr b off v w
  | 17, _, _ => True
  | 18, v, w => ShPtr b (off + 1) v w
  | 19, _, _ => True
  | 20, v, w => ShPtr b (off + 6) v w
  | 21, _, _ => True
  | 22, v, w => ShPtr b (off + 7) v w
  | 23, _, _ => True
  | 24, v, w => ShPtr b (off + 9) v w
  | 25, _, _ => True
  | _, _, _ => True
def ty_p3D : List Tmp := [37, 38, 39, 40, 41, 42, 43, 44, 45, 46, 47, 48, 49, 50, 51, 52, 53, 54, 55, 56, 57]
set_option maxRecDepth 100000 in
set_option maxHeartbeats 2000000 in
theorem ty_p3 {Q : Exit → Act → World → Prop} {a0 : Act} {w0 w : World} {s b off k : Nat} {B : World → Prop} (E : PrBox b off B) (hsb : s < b) (hk : k < 800000) (hsz : a0.tmps.size = 59) (g0 : a0.tmps.getD 0 undef = .pointer (some ⟨s, 0, none⟩)) (g5 : a0.tmps.getD 5 undef = .pointer (some ⟨b, off, none⟩)) (g1 : ∀ w, ShT (a0.tmps.getD 1 undef) w) (hW : TyW s b k B w0 0 w)
    (hend : ∀ (f : Tmp → Value) (w' : World), TyW s b k B w0 26 w' → Q .normal ⟨ty_p3D.foldl (fun t d => t.setIfInBounds d (f d)) a0.tmps, a0.defers⟩ w') : Code.wp Tryz.prog ty_p3C Q a0 w := by
  conv => arg 2; whnf
  refine wp_region_known (by kernel_rfl) (TyW s b k B w0) (ty_p3Sh s b off) (Two s b) a0 (by rw [hsz]; kernel_rfl) (by kernel_rfl) ?_ ?_ ?_ ⟨hW.two.trans (Two.of_gr ((Gr.refl s w).drew)), hW.str.nx (Nx.refl w).drew, E.same _ _ hW.box rfl (Nat.le_refl _)⟩
  · intro i v w w' h hkp
    match i, h with
    | 0, h => exact h
    | 1, h => exact h
    | 2, h => exact ShLT.keep h hkp
    | 3, h => exact h
    | 4, h => exact h
    | 5, h => exact h
    | 6, h => exact h
    | 7, h => exact ShLZ.keep h hkp
    | 8, h => exact h
    | 9, h => exact h
    | 10, h => exact h
    | 11, h => exact h
    | 12, h => exact h
    | 13, h => exact h
    | 14, h => exact ShLZ.keep h hkp
    | 15, h => exact h
    | 16, h => exact h
    | 17, h => exact h
    | 18, h => exact h
    | 19, h => exact h
    | 20, h => exact h
    | 21, h => exact h
    | 22, h => exact h
    | 23, h => exact h
    | 24, h => exact h
    | 25, h => exact h
    | _ + 26, _ => trivial
  · intro i o ho m a w hm hM hold hdep
    have hm : m < 26 := hm
    match i, ho with
    | 0, ho =>
      obtain rfl := Option.some.inj ho
      have e1 := (hold 0 (by decide)).trans g0
      exact wpOp_val (v := a.tmps.getD 0 undef) rfl rfl (by unfold execOp; go_simp) ⟨_, rfl, hM.pass, Two.refl _ _ _, fun _ _ => e1⟩
    | 1, ho =>
      obtain rfl := Option.some.inj ho
      have e1 : ShT (a.tmps.getD 1 undef) w := by rw [hold 1 (by decide)]; exact g1 w
      exact wpOp_val (v := a.tmps.getD 1 undef) rfl rfl (by unfold execOp; go_simp) ⟨_, rfl, hM.pass, Two.refl _ _ _, fun _ _ => e1⟩
    | 2, ho =>
      obtain rfl := Option.some.inj ho
      have e1 := hdep 1 _ 38 rfl ⟨_, Array.mem_of_getElem? (i := 0) rfl, rfl, rfl⟩ rfl
      obtain ⟨z1, f1, hz1⟩ := e1
      have f1 : a.eval (.tmp 38) = .string z1 := f1
      have f1b : a.tmps[38]?.getD undef = .string z1 := by rw [← Array.getD_eq_getD_getElem?]; exact f1
      have hb := E.lt w hM.box
      have hs := hM.str.lt
      refine wpOp_val (w' := w.alloc (.cells #[.string z1, .string ⟨#[]⟩] 9 (0, 0))) (v := .slice (some ⟨w.heap.size, 0, none⟩) 2 2) rfl rfl (by unfold execOp; simp only; go_simp) ⟨_, rfl, hM.alloc E _, Two.alloc _ _, fun _ _ => ⟨w.heap.size, [z1, ⟨#[]⟩], rfl, rfl, ?_, by omega, by omega, heap_alloc_new w _⟩⟩
      intro z hz
      simp only [List.mem_cons, List.not_mem_nil, or_false] at hz
      rcases hz with rfl | rfl
      all_goals first | assumption | decide
    | 3, ho =>
      obtain rfl := Option.some.inj ho
      have e1 := hdep 0 _ 37 rfl ⟨_, Array.mem_of_getElem? (i := 0) rfl, rfl, rfl⟩ rfl
      have e2 := hdep 2 _ 39 rfl ⟨_, Array.mem_of_getElem? (i := 1) rfl, rfl, rfl⟩ rfl
      refine ty_some rfl rfl rfl e1 e2 (by decide) hM.str (by omega) ?_
      intro t w' ht hg hS
      exact ⟨_, rfl, hM.gr E (by omega) hg (hS.more (by omega)), Two.of_gr hg, fun _ _ => ⟨_, rfl, ht⟩⟩
    | 4, ho =>
      obtain rfl := Option.some.inj ho
      have e1 := (hold 0 (by decide)).trans g0
      exact wpOp_val (v := a.tmps.getD 0 undef) rfl rfl (by unfold execOp; go_simp) ⟨_, rfl, hM.pass, Two.refl _ _ _, fun _ _ => e1⟩
    | 5, ho =>
      obtain rfl := Option.some.inj ho
      have e1 := hdep 4 _ 41 rfl ⟨_, Array.mem_of_getElem? (i := 0) rfl, rfl, rfl⟩ rfl
      refine ty_odd rfl rfl rfl e1 (by decide) (by decide) hM.str (by omega) ?_
      intro t w' ht hg hS
      exact ⟨_, rfl, hM.gr E (by omega) hg (hS.more (by omega)), Two.of_gr hg, fun _ _ => ⟨_, rfl, ht⟩⟩
    | 6, ho =>
      obtain rfl := Option.some.inj ho
      have e1 := (hold 0 (by decide)).trans g0
      exact wpOp_val (v := a.tmps.getD 0 undef) rfl rfl (by unfold execOp; go_simp) ⟨_, rfl, hM.pass, Two.refl _ _ _, fun _ _ => e1⟩
    | 7, ho =>
      obtain rfl := Option.some.inj ho
      have hb := E.lt w hM.box
      have hs := hM.str.lt
      refine wpOp_val (w' := w.alloc (.cells #[.int .i64 (24), .int .i64 (25), .int .i64 (3)] 3 (0, 0))) (v := .slice (some ⟨w.heap.size, 0, none⟩) 3 3) rfl rfl (by unfold execOp; go_simp) ⟨_, rfl, hM.alloc E _, Two.alloc _ _, fun _ _ => ⟨w.heap.size, [(24), (25), (3)], rfl, rfl, ?_, by omega, by omega, heap_alloc_new w _⟩⟩
      intro z hz
      simp only [List.mem_cons, List.not_mem_nil, or_false] at hz
      rcases hz with rfl | rfl | rfl
      all_goals first | assumption | decide
    | 8, ho =>
      obtain rfl := Option.some.inj ho
      have e1 := hdep 6 _ 43 rfl ⟨_, Array.mem_of_getElem? (i := 0) rfl, rfl, rfl⟩ rfl
      have e2 := hdep 7 _ 44 rfl ⟨_, Array.mem_of_getElem? (i := 1) rfl, rfl, rfl⟩ rfl
      refine ty_pick rfl rfl rfl e1 e2 (by decide) hM.str (by omega) ?_
      intro t w' ht hg hS
      exact ⟨_, rfl, hM.gr E (by omega) hg (hS.more (by omega)), Two.of_gr hg, fun _ _ => ⟨_, rfl, ht⟩⟩
    | 9, ho =>
      obtain rfl := Option.some.inj ho
      have e1 := (hold 0 (by decide)).trans g0
      exact wpOp_val (v := a.tmps.getD 0 undef) rfl rfl (by unfold execOp; go_simp) ⟨_, rfl, hM.pass, Two.refl _ _ _, fun _ _ => e1⟩
    | 10, ho =>
      obtain rfl := Option.some.inj ho
      have e1 := hdep 9 _ 46 rfl ⟨_, Array.mem_of_getElem? (i := 0) rfl, rfl, rfl⟩ rfl
      refine ty_odd rfl rfl rfl e1 (by decide) (by decide) hM.str (by omega) ?_
      intro t w' ht hg hS
      exact ⟨_, rfl, hM.gr E (by omega) hg (hS.more (by omega)), Two.of_gr hg, fun _ _ => ⟨_, rfl, ht⟩⟩
    | 11, ho =>
      obtain rfl := Option.some.inj ho
      have e1 := (hold 0 (by decide)).trans g0
      exact wpOp_val (v := a.tmps.getD 0 undef) rfl rfl (by unfold execOp; go_simp) ⟨_, rfl, hM.pass, Two.refl _ _ _, fun _ _ => e1⟩
    | 12, ho =>
      obtain rfl := Option.some.inj ho
      have e1 := (hold 5 (by decide)).trans g5
      have e2 : a.eval (.tmp 5) = .pointer (some ⟨b, off, none⟩) := e1
      have e2b : a.tmps[5]?.getD undef = .pointer (some ⟨b, off, none⟩) := by rw [← Array.getD_eq_getD_getElem?]; exact e2
      exact wpOp_val (v := .pointer (some ⟨b, off + 9, none⟩)) rfl rfl (by unfold execOp; simp only; go_simp) ⟨_, rfl, hM.pass, Two.refl _ _ _, fun _ _ => rfl⟩
    | 13, ho =>
      obtain rfl := Option.some.inj ho
      have e1 := hdep 12 _ 49 rfl ⟨_, Array.mem_of_getElem? (i := 0) rfl, rfl, rfl⟩ rfl
      have e2 : a.eval (.tmp 49) = .pointer (some ⟨b, off + 9, none⟩) := e1
      have e2b : a.tmps[49]?.getD undef = .pointer (some ⟨b, off + 9, none⟩) := by rw [← Array.getD_eq_getD_getElem?]; exact e2
      obtain ⟨x, hok, hc⟩ := E.get w hM.box
      have c0 : w.cell? ⟨b, off + 9, none⟩ = some _ := hc 9 _ rfl
      exact wpOp_val (v := .int .i64 x.most) rfl rfl (by unfold execOp; simp only; go_simp) ⟨_, rfl, hM.pass, Two.refl _ _ _, fun _ _ => ⟨_, rfl, hok.2 _ (by simp)⟩⟩
    | 14, ho =>
      obtain rfl := Option.some.inj ho
      have e1 := hdep 13 _ 50 rfl ⟨_, Array.mem_of_getElem? (i := 0) rfl, rfl, rfl⟩ rfl
      obtain ⟨z1, f1, hz1⟩ := e1
      have f1 : a.eval (.tmp 50) = .int .i64 z1 := f1
      have f1b : a.tmps[50]?.getD undef = .int .i64 z1 := by rw [← Array.getD_eq_getD_getElem?]; exact f1
      have hb := E.lt w hM.box
      have hs := hM.str.lt
      refine wpOp_val (w' := w.alloc (.cells #[.int .i64 z1, .int .i64 (100)] 3 (0, 0))) (v := .slice (some ⟨w.heap.size, 0, none⟩) 2 2) rfl rfl (by unfold execOp; simp only; go_simp) ⟨_, rfl, hM.alloc E _, Two.alloc _ _, fun _ _ => ⟨w.heap.size, [z1, (100)], rfl, rfl, ?_, by omega, by omega, heap_alloc_new w _⟩⟩
      intro z hz
      simp only [List.mem_cons, List.not_mem_nil, or_false] at hz
      rcases hz with rfl | rfl
      all_goals first | assumption | decide
    | 15, ho =>
      obtain rfl := Option.some.inj ho
      have e1 := hdep 11 _ 48 rfl ⟨_, Array.mem_of_getElem? (i := 0) rfl, rfl, rfl⟩ rfl
      have e2 := hdep 14 _ 51 rfl ⟨_, Array.mem_of_getElem? (i := 1) rfl, rfl, rfl⟩ rfl
      refine ty_pick rfl rfl rfl e1 e2 (by decide) hM.str (by omega) ?_
      intro t w' ht hg hS
      exact ⟨_, rfl, hM.gr E (by omega) hg (hS.more (by omega)), Two.of_gr hg, fun _ _ => ⟨_, rfl, ht⟩⟩
    | 16, ho =>
      obtain rfl := Option.some.inj ho
      have e1 := (hold 5 (by decide)).trans g5
      have e2 : a.eval (.tmp 5) = .pointer (some ⟨b, off, none⟩) := e1
      have e2b : a.tmps[5]?.getD undef = .pointer (some ⟨b, off, none⟩) := by rw [← Array.getD_eq_getD_getElem?]; exact e2
      exact wpOp_val (v := .pointer (some ⟨b, off, none⟩)) rfl rfl (by unfold execOp; simp only; go_simp) ⟨_, rfl, hM.pass, Two.refl _ _ _, fun _ _ => rfl⟩
    | 17, ho =>
      obtain rfl := Option.some.inj ho
      have e1 := hdep 16 _ 53 rfl ⟨_, Array.mem_of_getElem? (i := 0) rfl, rfl, rfl⟩ rfl
      have e2 := hdep 3 _ 40 rfl ⟨_, Array.mem_of_getElem? (i := 1) rfl, rfl, rfl⟩ rfl
      have e3 : a.eval (.tmp 53) = .pointer (some ⟨b, off, none⟩) := e1
      have e3b : a.tmps[53]?.getD undef = .pointer (some ⟨b, off, none⟩) := by rw [← Array.getD_eq_getD_getElem?]; exact e3
      obtain ⟨z, e4, hz⟩ := e2
      have e4 : a.eval (.tmp 40) = .string z := e4
      have e4b : a.tmps[40]?.getD undef = .string z := by rw [← Array.getD_eq_getD_getElem?]; exact e4
      obtain ⟨x, hok, hc⟩ := E.get w hM.box
      have c0 : w.cell? ⟨b, off, none⟩ = some _ := hc 0 _ rfl
      have hfz := E.frz w (off) hM.box
      exact wpOp_skip (w' := w.setCell ⟨b, off, none⟩ (.string z)) rfl rfl (by unfold execOp; simp only; go_simp) ⟨_, rfl, hM.setS E hsb (j := 0) (by decide) hz, Two.set _, fun _ _ => trivial⟩
    | 18, ho =>
      obtain rfl := Option.some.inj ho
      have e1 := (hold 5 (by decide)).trans g5
      have e2 : a.eval (.tmp 5) = .pointer (some ⟨b, off, none⟩) := e1
      have e2b : a.tmps[5]?.getD undef = .pointer (some ⟨b, off, none⟩) := by rw [← Array.getD_eq_getD_getElem?]; exact e2
      exact wpOp_val (v := .pointer (some ⟨b, off + 1, none⟩)) rfl rfl (by unfold execOp; simp only; go_simp) ⟨_, rfl, hM.pass, Two.refl _ _ _, fun _ _ => rfl⟩
    | 19, ho =>
      obtain rfl := Option.some.inj ho
      have e1 := hdep 18 _ 54 rfl ⟨_, Array.mem_of_getElem? (i := 0) rfl, rfl, rfl⟩ rfl
      have e2 := hdep 5 _ 42 rfl ⟨_, Array.mem_of_getElem? (i := 1) rfl, rfl, rfl⟩ rfl
      have e3 : a.eval (.tmp 54) = .pointer (some ⟨b, off + 1, none⟩) := e1
      have e3b : a.tmps[54]?.getD undef = .pointer (some ⟨b, off + 1, none⟩) := by rw [← Array.getD_eq_getD_getElem?]; exact e3
      obtain ⟨z, e4, hz⟩ := e2
      have e4 : a.eval (.tmp 42) = .int .i64 z := e4
      have e4b : a.tmps[42]?.getD undef = .int .i64 z := by rw [← Array.getD_eq_getD_getElem?]; exact e4
      obtain ⟨x, hok, hc⟩ := E.get w hM.box
      have c0 : w.cell? ⟨b, off + 1, none⟩ = some _ := hc 1 _ rfl
      have hfz := E.frz w (off + 1) hM.box
      exact wpOp_skip (w' := w.setCell ⟨b, off + 1, none⟩ (.int .i64 z)) rfl rfl (by unfold execOp; simp only; go_simp) ⟨_, rfl, hM.setI E hsb (j := 1) (by decide) hz, Two.set _, fun _ _ => trivial⟩
    | 20, ho =>
      obtain rfl := Option.some.inj ho
      have e1 := (hold 5 (by decide)).trans g5
      have e2 : a.eval (.tmp 5) = .pointer (some ⟨b, off, none⟩) := e1
      have e2b : a.tmps[5]?.getD undef = .pointer (some ⟨b, off, none⟩) := by rw [← Array.getD_eq_getD_getElem?]; exact e2
      exact wpOp_val (v := .pointer (some ⟨b, off + 6, none⟩)) rfl rfl (by unfold execOp; simp only; go_simp) ⟨_, rfl, hM.pass, Two.refl _ _ _, fun _ _ => rfl⟩
    | 21, ho =>
      obtain rfl := Option.some.inj ho
      have e1 := hdep 20 _ 55 rfl ⟨_, Array.mem_of_getElem? (i := 0) rfl, rfl, rfl⟩ rfl
      have e2 := hdep 8 _ 45 rfl ⟨_, Array.mem_of_getElem? (i := 1) rfl, rfl, rfl⟩ rfl
      have e3 : a.eval (.tmp 55) = .pointer (some ⟨b, off + 6, none⟩) := e1
      have e3b : a.tmps[55]?.getD undef = .pointer (some ⟨b, off + 6, none⟩) := by rw [← Array.getD_eq_getD_getElem?]; exact e3
      obtain ⟨z, e4, hz⟩ := e2
      have e4 : a.eval (.tmp 45) = .int .i64 z := e4
      have e4b : a.tmps[45]?.getD undef = .int .i64 z := by rw [← Array.getD_eq_getD_getElem?]; exact e4
      obtain ⟨x, hok, hc⟩ := E.get w hM.box
      have c0 : w.cell? ⟨b, off + 6, none⟩ = some _ := hc 6 _ rfl
      have hfz := E.frz w (off + 6) hM.box
      exact wpOp_skip (w' := w.setCell ⟨b, off + 6, none⟩ (.int .i64 z)) rfl rfl (by unfold execOp; simp only; go_simp) ⟨_, rfl, hM.setI E hsb (j := 6) (by decide) hz, Two.set _, fun _ _ => trivial⟩
    | 22, ho =>
      obtain rfl := Option.some.inj ho
      have e1 := (hold 5 (by decide)).trans g5
      have e2 : a.eval (.tmp 5) = .pointer (some ⟨b, off, none⟩) := e1
      have e2b : a.tmps[5]?.getD undef = .pointer (some ⟨b, off, none⟩) := by rw [← Array.getD_eq_getD_getElem?]; exact e2
      exact wpOp_val (v := .pointer (some ⟨b, off + 7, none⟩)) rfl rfl (by unfold execOp; simp only; go_simp) ⟨_, rfl, hM.pass, Two.refl _ _ _, fun _ _ => rfl⟩
    | 23, ho =>
      obtain rfl := Option.some.inj ho
      have e1 := hdep 22 _ 56 rfl ⟨_, Array.mem_of_getElem? (i := 0) rfl, rfl, rfl⟩ rfl
      have e2 := hdep 10 _ 47 rfl ⟨_, Array.mem_of_getElem? (i := 1) rfl, rfl, rfl⟩ rfl
      have e3 : a.eval (.tmp 56) = .pointer (some ⟨b, off + 7, none⟩) := e1
      have e3b : a.tmps[56]?.getD undef = .pointer (some ⟨b, off + 7, none⟩) := by rw [← Array.getD_eq_getD_getElem?]; exact e3
      obtain ⟨z, e4, hz⟩ := e2
      have e4 : a.eval (.tmp 47) = .int .i64 z := e4
      have e4b : a.tmps[47]?.getD undef = .int .i64 z := by rw [← Array.getD_eq_getD_getElem?]; exact e4
      obtain ⟨x, hok, hc⟩ := E.get w hM.box
      have c0 : w.cell? ⟨b, off + 7, none⟩ = some _ := hc 7 _ rfl
      have hfz := E.frz w (off + 7) hM.box
      exact wpOp_skip (w' := w.setCell ⟨b, off + 7, none⟩ (.int .i64 z)) rfl rfl (by unfold execOp; simp only; go_simp) ⟨_, rfl, hM.setI E hsb (j := 7) (by decide) hz, Two.set _, fun _ _ => trivial⟩
    | 24, ho =>
      obtain rfl := Option.some.inj ho
      have e1 := (hold 5 (by decide)).trans g5
      have e2 : a.eval (.tmp 5) = .pointer (some ⟨b, off, none⟩) := e1
      have e2b : a.tmps[5]?.getD undef = .pointer (some ⟨b, off, none⟩) := by rw [← Array.getD_eq_getD_getElem?]; exact e2
      exact wpOp_val (v := .pointer (some ⟨b, off + 9, none⟩)) rfl rfl (by unfold execOp; simp only; go_simp) ⟨_, rfl, hM.pass, Two.refl _ _ _, fun _ _ => rfl⟩
    | 25, ho =>
      obtain rfl := Option.some.inj ho
      have e1 := hdep 24 _ 57 rfl ⟨_, Array.mem_of_getElem? (i := 0) rfl, rfl, rfl⟩ rfl
      have e2 := hdep 15 _ 52 rfl ⟨_, Array.mem_of_getElem? (i := 1) rfl, rfl, rfl⟩ rfl
      have e3 : a.eval (.tmp 57) = .pointer (some ⟨b, off + 9, none⟩) := e1
      have e3b : a.tmps[57]?.getD undef = .pointer (some ⟨b, off + 9, none⟩) := by rw [← Array.getD_eq_getD_getElem?]; exact e3
      obtain ⟨z, e4, hz⟩ := e2
      have e4 : a.eval (.tmp 52) = .int .i64 z := e4
      have e4b : a.tmps[52]?.getD undef = .int .i64 z := by rw [← Array.getD_eq_getD_getElem?]; exact e4
      obtain ⟨x, hok, hc⟩ := E.get w hM.box
      have c0 : w.cell? ⟨b, off + 9, none⟩ = some _ := hc 9 _ rfl
      have hfz := E.frz w (off + 9) hM.box
      exact wpOp_skip (w' := w.setCell ⟨b, off + 9, none⟩ (.int .i64 z)) rfl rfl (by unfold execOp; simp only; go_simp) ⟨_, rfl, hM.setI E hsb (j := 9) (by decide) hz, Two.set _, fun _ _ => trivial⟩
    | j + 26, ho => simp at ho
  · intro listed a w hK hW2 _
    obtain ⟨f, rfl⟩ := known_frame hK (by rw [hsz]; kernel_rfl)
    exact hend f w hW2
end Go.Proofs.YtncnmadiiaidfaaGreatDoor
/- Zones in the making. -/
namespace Go.Proofs.YtncnmadiiaidfaaGreatDoor
open Go.RowKit Go.Sort Go.Proofs Go.Shelf

theorem encZone_len (x : Zone) : (encZone x).length = 2 := rfl
def rowZ (x : Zone) : Value := .slice x.a x.nodes.length x.cap
/-- Zones in the making: each one's nodes a row of the call's own, all of them apart. -/
structure OwnZones (w : World) (base nb g : Nat) (zs : List Zone) : Prop where
  row : w.ownsRow base 61 2 (.slice (some ⟨g, 0, none⟩) zs.length zs.length) zs.length (zs.flatMap encZone)
  each : ∀ i (h : i < zs.length), w.ownsRow nb 9 1 (rowZ zs[i]) zs[i].nodes.length (zs[i].nodes.flatMap encS) ∧ Small zs[i].nodes ∧ zs[i].key.size ≤ 1000000
  apart : ∀ i j (h : i < zs.length) (h' : j < zs.length), i ≠ j → ∀ b, (rowZ zs[i]).ownBlock = some b → (rowZ zs[j]).ownBlock ≠ some b
theorem OwnZones.gr {w w' : World} {s base nb g : Nat} {zs : List Zone} (h : OwnZones w base nb g zs) (hn : Gr s w w') (hs : s < base) (hb : base ≤ nb) : OwnZones w' base nb g zs :=
  ⟨own_gr h.row hn hs, fun i hi => ⟨own_gr (h.each i hi).1 hn (by omega), (h.each i hi).2⟩, h.apart⟩
theorem OwnZones.nx {w w' : World} {base nb g : Nat} {zs : List Zone} (h : OwnZones w base nb g zs) (hn : Nx w w') : OwnZones w' base nb g zs :=
  ⟨own_nx h.row hn, fun i hi => ⟨own_nx (h.each i hi).1 hn, (h.each i hi).2⟩, h.apart⟩
theorem OwnZones.rd {w : World} {base nb g : Nat} {zs : List Zone} (h : OwnZones w base nb g zs) (hb : base ≤ nb) (h4 : ∀ x ∈ zs, x.nodes.length ≤ 400) : RdZones w base (some ⟨g, 0, none⟩) zs :=
  ⟨rd_ownv encZone_len rfl h.row, fun x hx => by
    obtain ⟨i, hi, e⟩ := List.mem_iff_getElem.1 hx
    obtain ⟨r1, r2, r3⟩ := h.each i hi
    rw [e] at r1 r2 r3
    exact ⟨(rd_ownv encS_len rfl r1).low hb, r2, h4 x hx, r3⟩⟩
/-- One zone gets one node more. -/
theorem OwnZones.app {w w' : World} {base nb g g5 c5 q : Nat} {zs : List Zone} {nd : ByteArray} (h : OwnZones w base nb g zs) (hq : q < zs.length) (hg : w.grownBy w' (rowZ zs[q]).ownBlock)
    (hn : w'.ownsRow nb 9 1 (.slice (some ⟨g5, 0, none⟩) (zs[q].nodes.length + 1) c5) (zs[q].nodes.length + 1) (zs[q].nodes.flatMap encS ++ [.string nd]))
    (hat : (rowZ zs[q]).ownBlock = some g5 ∨ g5 = w.heap.size) (hs : nd.size ≤ 1000000) :
    OwnZones (w'.setCell ⟨g, q * 2 + 1, none⟩ (.slice (some ⟨g5, 0, none⟩) (zs[q].nodes.length + 1) c5)) base nb g (zs.set q ⟨zs[q].key, some ⟨g5, 0, none⟩, c5, zs[q].nodes ++ [nd]⟩) := by
  have hr := h.row.kept hg (own_apart h.row (h.each q hq).1 (by decide))
  have hset := own_set encZone_len rfl hr q hq 1 (by omega) (.slice (some ⟨g5, 0, none⟩) (zs[q].nodes.length + 1) c5) ⟨zs[q].key, some ⟨g5, 0, none⟩, c5, zs[q].nodes ++ [nd]⟩ (by simp [encZone]) (q * 2 + 1) rfl
  have hl : (zs.set q ⟨zs[q].key, some ⟨g5, 0, none⟩, c5, zs[q].nodes ++ [nd]⟩).length = zs.length := List.length_set ..
  have keep : ∀ {v : Value} {m : Nat} {xs : List Value}, w'.ownsRow nb 9 1 v m xs → (w'.setCell ⟨g, q * 2 + 1, none⟩ (.slice (some ⟨g5, 0, none⟩) (zs[q].nodes.length + 1) c5)).ownsRow nb 9 1 v m xs := fun hv =>
    hv.kept ((Gr.refl g _).setS (p := ⟨g, q * 2 + 1, none⟩) (.inl rfl) (.slice (some ⟨g5, 0, none⟩) (zs[q].nodes.length + 1) c5)) (own_apart hv hr (by decide))
  refine ⟨by rw [hl]; exact hset, fun i hi => ?_, fun i j hi hj hij b hb => ?_⟩
  · have hi' : i < zs.length := by rw [hl] at hi; exact hi
    rw [List.getElem_set]
    by_cases e : q = i
    · subst e
      rw [if_pos rfl]
      refine ⟨?_, ?_, (h.each q hq).2.2⟩
      · show (w'.setCell _ _).ownsRow nb 9 1 (.slice (some ⟨g5, 0, none⟩) (zs[q].nodes ++ [nd]).length c5) (zs[q].nodes ++ [nd]).length ((zs[q].nodes ++ [nd]).flatMap encS)
        rw [List.length_append, List.flatMap_append]
        exact keep hn
      · intro t ht
        rcases List.mem_append.1 ht with ht | ht
        · exact (h.each q hq).2.1 t ht
        · simp at ht; subst ht; exact hs
    · rw [if_neg e]
      obtain ⟨r1, r2⟩ := h.each i hi'
      refine ⟨keep (r1.kept hg ?_), r2⟩
      cases ho : (rowZ zs[i]).ownBlock with
      | none => exact .inl rfl
      | some b => exact .inr (fun hc => h.apart i q hi' hq (fun e2 => e e2.symm) b ho hc.symm)
  · have hi' : i < zs.length := by rw [hl] at hi; exact hi
    have hj' : j < zs.length := by rw [hl] at hj; exact hj
    rw [List.getElem_set] at hb ⊢
    have key : ∀ t (ht : t < zs.length), t ≠ q → (rowZ zs[t]).ownBlock ≠ some g5 := fun t ht hne hc => by
      rcases hat with hat | hat
      · exact h.apart t q ht hq hne g5 hc hat
      · have := ((h.each t ht).1.lt g5 hc).2
        omega
    by_cases e1 : q = i
    · rw [if_pos e1] at hb
      rw [if_neg (fun e2 => hij (e1.symm.trans e2))]
      have eb : b = g5 := by
        have : (rowZ ⟨zs[q].key, some ⟨g5, 0, none⟩, c5, zs[q].nodes ++ [nd]⟩).ownBlock = some g5 := rfl
        rw [this] at hb; injection hb with hb; exact hb.symm
      subst eb
      exact key j hj' (fun e2 => hij (e1.symm.trans e2.symm))
    · rw [if_neg e1] at hb
      by_cases e2 : q = j
      · rw [if_pos e2]
        intro hc
        have eb : b = g5 := by
          have : (rowZ ⟨zs[q].key, some ⟨g5, 0, none⟩, c5, zs[q].nodes ++ [nd]⟩).ownBlock = some g5 := rfl
          rw [this] at hc; injection hc with hc; exact hc.symm
        subst eb
        exact key i hi' (fun e3 => e1 e3.symm) hb
      · rw [if_neg e2]
        exact h.apart i j hi' hj' hij b hb
/-- One zone gets another key and other nodes. -/
theorem OwnZones.twist {w : World} {base nb b2 g q n c : Nat} {a : Option Addr} {zs : List Zone} {nodes : List ByteArray} {ky : ByteArray} (h : OwnZones w base nb g zs) (hq : q < zs.length) (hbn : base ≤ nb) (hb : base ≤ b2) (hr : w.ownsRow b2 9 1 (.slice a n c) n (nodes.flatMap encS)) (hn : n = nodes.length) (hs : Small nodes) (hk : ky.size ≤ 1000000) (h4 : nodes.length ≤ 400) (h5 : ∀ x ∈ zs, x.nodes.length ≤ 400) :
    RdZones ((w.setCell ⟨g, q * 2, none⟩ (.string ky)).setCell ⟨g, q * 2 + 1, none⟩ (.slice a n c)) base (some ⟨g, 0, none⟩) (zs.set q ⟨ky, a, c, nodes⟩) := by
  subst hn
  have o1 := own_set encZone_len rfl h.row q hq 0 (by omega) (.string ky) ⟨ky, zs[q].a, zs[q].cap, zs[q].nodes⟩ (by simp [encZone]) (q * 2) rfl
  have o2 := own_set encZone_len (by rw [List.length_set]) o1 q (by rw [List.length_set]; exact hq) 1 (by omega) (.slice a nodes.length c) ⟨ky, a, c, nodes⟩ (by simp [encZone]) (q * 2 + 1) (by omega)
  rw [List.set_set] at o2
  have keep : ∀ {v : Value} {m b : Nat} {xs : List Value}, w.ownsRow b 9 1 v m xs → ((w.setCell ⟨g, q * 2, none⟩ (.string ky)).setCell ⟨g, q * 2 + 1, none⟩ (.slice a nodes.length c)).ownsRow b 9 1 v m xs := fun hv => by
    have k1 := hv.kept ((Gr.refl g _).setS (p := ⟨g, q * 2, none⟩) (.inl rfl) (.string ky)) (own_apart hv h.row (by decide))
    exact k1.kept ((Gr.refl g _).setS (p := ⟨g, q * 2 + 1, none⟩) (.inl rfl) (.slice a nodes.length c)) (own_apart k1 o1 (by decide))
  have hR : Rd ((w.setCell ⟨g, q * 2, none⟩ (.string ky)).setCell ⟨g, q * 2 + 1, none⟩ (.slice a nodes.length c)) base (some ⟨g, 0, none⟩) 2 encZone (zs.set q ⟨ky, a, c, nodes⟩) := rd_ownv encZone_len (by rw [List.length_set]) o2
  refine ⟨hR, fun x hx => ?_⟩
  rcases List.mem_or_eq_of_mem_set hx with hx | rfl
  · obtain ⟨i, hi, e⟩ := List.mem_iff_getElem.1 hx
    obtain ⟨r1, r2, r3⟩ := h.each i hi
    rw [e] at r1 r2 r3
    exact ⟨(rd_ownv encS_len rfl (keep r1)).low hbn, r2, h5 x hx, r3⟩
  · exact ⟨(rd_ownv encS_len rfl (keep hr)).low hb, hs, h4, hk⟩
end Go.Proofs.YtncnmadiiaidfaaGreatDoor
/- What the laws share: the end, the stream, cmp.Or of two or three. -/
namespace Go.Proofs.YtncnmadiiaidfaaGreatDoor
open Go.RowKit

/-- The law's world: what was there stays. -/
def TrueNx (w : World) (e : Ending) (w' : World) : Prop := e = .returned (.bool true) ∧ Nx w w'

theorem str_new (A : Option Addr) (n c : Nat) (w : World) (hn : n ≤ 9223372036854775807)
    (hL : 0 < n → ∃ b off, A = some ⟨b, off, none⟩ ∧ b < w.heap.size ∧ ∀ j, j < n → ∃ z : Int, w.cell? ⟨b, off + j, none⟩ = some (.int .i64 z) ∧ -9223372036854775808 ≤ z ∧ z ≤ 9223372036854775807) :
    Str (w.alloc (.cells #[.slice A n c, .int .i64 0] 25)) w.heap.size 0 := by
  refine ⟨A, n, c, 0, Nat.le_refl _, hn, hnew rfl, fun hp => ?_⟩
  obtain ⟨b, off, e, hb, hz⟩ := hL hp
  refine ⟨b, off, e, hb, fun j hj => ?_⟩
  obtain ⟨z, h1, h2⟩ := hz j hj
  exact ⟨z, (Below.cell ((Nx.refl w).alloc _) (p := ⟨b, _, none⟩) hb).trans h1, h2⟩
end Go.Proofs.YtncnmadiiaidfaaGreatDoor
/- The rest of a function's code from a region on. Of no program. -/
namespace Go.Proofs.YtncnmadiiaidfaaGreatDoor
open Go

/-- The first region's number. -/
def firstReg : Code → Option Nat
  | .region n _ _ => some n
  | .seq a _ => firstReg a
  | .scope c => firstReg c
  | .block _ c => firstReg c
  | .loop c => firstReg c
  | _ => none
def isReg (r : Nat) (c : Code) : Bool := match firstReg c with | some n => Nat.beq n r | none => false
/-- What follows from the statement on that begins with region r. -/
def fromReg (r : Nat) : Code → Code
  | .seq a b => bif isReg r a then .seq a b else fromReg r b
  | .scope c => fromReg r c
  | .block _ c => fromReg r c
  | c => c
end Go.Proofs.YtncnmadiiaidfaaGreatDoor
