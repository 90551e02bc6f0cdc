/- The fares and the bills as the reference reckons them. -/
import Derived.Test.YtemaiikgnogfhaaGreatDoorQPaid
import Derived.Test.YtemaiikgnogfhaaGreatDoorQBills
import Derived.Deep.DeepCutAuto
namespace Go.Proofs.YtemaiikgnogfhaaGreatDoor
open Go.RowKit Go.Sort Go.Shelf Go.Maps

/-- Sorted by their rides the dues are the program's. -/
theorem dues_eq {zs : List Zone} {p : Price} {xs : List Pass} {l O : List Jour} (hO : IsOrd l O) (hs : SortR l) {ys : List Due} (hp : ys.Perm ((payAll zs p xs [] O).map (fun d => (⟨d.t.ride, d.cents⟩ : Due))))
    (hso : ∀ i j (_ : i < j) (hj : j < ys.length), ltOf dueC ys[j] (ys[i]'(by omega)) = false) : ys = faresL zs p xs O l := by
  unfold faresL
  obtain ⟨P, hP⟩ : ∃ P, P = payAll zs p xs [] O := ⟨_, rfl⟩
  rw [← hP] at hp ⊢
  have h2 : P.map Paid.t = O := by rw [hP, payAll_t]; rfl
  have h3 : (P.map Paid.t).Pairwise (fun a b => a.ride ≠ b.ride) := by rw [h2]; exact ord_ne hO hs
  refine sorted_eq ?_ ?_ (fun d => ?_)
  · have hnd : (ys.map Due.key).Nodup := by
      refine (hp.map Due.key).nodup_iff.2 ?_
      rw [List.map_map]
      rw [List.pairwise_map] at h3
      exact List.pairwise_map.2 h3
    rw [List.pairwise_iff_getElem]
    intro i j hi hj hij
    have h1 := hso i j hij hj
    have h2 : ys[i].key ≠ ys[j].key := fun e => by
      have := (List.nodup_iff_pairwise_ne.1 hnd)
      rw [List.pairwise_iff_getElem] at this
      exact this i j (by simpa using hi) (by simpa using hj) hij (by simpa using e)
    rw [due_nlt] at h1
    refine Classical.byContradiction fun hn => h2 (ltS_tri _ _ hn h1)
  · rw [List.pairwise_map]; exact hs
  · rw [hp.mem_iff]
    constructor
    · intro hd
      obtain ⟨x, hx, rfl⟩ := List.mem_map.1 hd
      refine List.mem_map.2 ⟨x.t, hO.1.mem_iff.1 (h2 ▸ List.mem_map_of_mem hx), ?_⟩
      rw [costOf_at h3 hx]
    · intro hd
      obtain ⟨t, ht, rfl⟩ := List.mem_map.1 hd
      have h4 : t ∈ P.map Paid.t := by rw [h2]; exact hO.1.mem_iff.2 ht
      obtain ⟨x, hx, rfl⟩ := List.mem_map.1 h4
      exact List.mem_map.2 ⟨x, hx, by rw [costOf_at h3 hx]⟩
theorem billR_step (P : List Paid) (day : Int) (k : Nat) (hk : k < P.length) : billK (billR (P.take (k + 1)) day) = if dayJ P[k].t = day then addK (billK (billR (P.take k) day)) P[k].t.rider P[k].cents else billK (billR (P.take k) day) := by
  rw [List.take_succ_eq_append_getElem hk, billR_snoc]
  by_cases h : dayJ P[k].t = day
  · rw [if_pos h, if_pos h, billK_snoc]
  · rw [if_neg h, if_neg h, List.append_nil]
theorem billR_bd {P : List Paid} (h : ∀ d ∈ P, 0 ≤ d.cents ∧ d.cents ≤ 1000000000) (day : Int) : ∀ k, k ≤ P.length → BndK (billK (billR (P.take k) day)) (1000000000 * k)
  | 0, _ => fun s => by simp [billR, billK]
  | k + 1, hk => by
    have ih := billR_bd h day k (by omega)
    rw [billR_step P day k hk]
    have hc := h P[k] (List.getElem_mem hk)
    split
    · intro s
      have := ih.add P[k].t.rider hc.1 hc.2 s
      omega
    · intro s
      have := ih s
      omega
theorem due_take (P : List Paid) (k : Nat) (hk : k < P.length) : (P.take (k + 1)).map (fun d => (⟨d.t.ride, d.cents⟩ : Due)) = (P.take k).map (fun d => (⟨d.t.ride, d.cents⟩ : Due)) ++ [(⟨P[k].t.ride, P[k].cents⟩ : Due)] := by
  rw [List.take_succ_eq_append_getElem hk, List.map_append]; rfl

set_option maxRecDepth 100000 in
set_option maxHeartbeats 4000000 in
theorem w_FaresOf (D X A : Option Addr) (c cx cl : Nat) (zs : List Zone) (p : Price) (xs : List Pass) (l : List Jour) (w : World)
    (hZ : RdZones w 0 D zs) (hzl : zs.length ≤ 100) (hk : p.key.size ≤ 1000000) (hX : RdPasses w 0 X xs) (hxl : xs.length ≤ 300) (hJ : RdJours w 0 A l) (hll : l.length < 20) (hF : faultB zs p xs l = 0) :
    Calls Tryz.prog 22 #[.slice D zs.length c, aggP p, .slice X xs.length cx, .slice A l.length cl] w fun e w' => ∃ (O : List Jour) (R : Option Addr) (cR : Nat), IsOrd l O ∧ e = .returned (.slice R l.length cR) ∧ Rd w' w.heap.size R 2 encDue (faresL zs p xs O l) ∧ Nx w w' := by
  have HPD := hide (fun W (hn : Nx w W) => w_paidFor D X A c cx cl zs p xs l W (hZ.nx hn) hzl hk (hX.nx hn) hxl (hJ.nx hn) hll hF)
  have HPB := hide (fun (O : List Jour) => payAll_bd (zs := zs) (xs := xs) (faultB_zero hF).2.1 (faultB_zero hF).2.2.1 O [] (fun d hd => by cases hd))
  have HJO := hide (faultB_zero hF).2.2.2.1
  have HSR := hide (faultB_zero hF).2.2.2.2
  have HJX := hide hJ.2
  obtain ⟨n, hn⟩ : ∃ n, n = l.length := ⟨_, rfl⟩
  rw [← hn] at HPD hll ⊢
  have HN := hide hn
  clear hF hZ hzl hk hX hxl hJ hn
  generalize zs.length = nz at *
  generalize xs.length = nx at *
  have HDE := hide (fun (O : List Jour) (hO : IsOrd l O) (ys : List Due) => dues_eq (zs := zs) (p := p) (xs := xs) hO HSR.out (ys := ys))
  obtain ⟨k0, p1, p2, p3, p4, p5, p6, p7, p8, p9⟩ := p
  obtain ⟨PR, hPR⟩ : ∃ PR : Price, PR = ⟨k0, p1, p2, p3, p4, p5, p6, p7, p8, p9⟩ := ⟨_, rfl⟩
  rw [← hPR] at HPB HDE HPD ⊢
  have HPD2 : Hid (∀ W, Nx w W → Calls Tryz.prog 55 #[.slice D nz c, .agg #[.string k0, .int .i64 p1, .int .i64 p2, .int .i64 p3, .int .i64 p4, .int .i64 p5, .int .i64 p6, .int .i64 p7, .int .i64 p8, .int .i64 p9], .slice X nx cx, .slice A n cl] W fun e w' => ∃ (O : List Jour) (R : Option Addr) (cR : Nat), IsOrd l O ∧ e = .returned (.slice R n cR) ∧ Rd w' W.heap.size R 8 (encPd xs) (payAll zs PR xs [] O) ∧ Nx W w') := hide (by have h := HPD.out; rw [show aggP PR = .agg #[.string k0, .int .i64 p1, .int .i64 p2, .int .i64 p3, .int .i64 p4, .int .i64 p5, .int .i64 p6, .int .i64 p7, .int .i64 p8, .int .i64 p9] from hPR ▸ rfl] at h; exact h)
  clear HPD
  rw [show aggP PR = .agg #[.string k0, .int .i64 p1, .int .i64 p2, .int .i64 p3, .int .i64 p4, .int .i64 p5, .int .i64 p6, .int .i64 p7, .int .i64 p8, .int .i64 p9] from hPR ▸ rfl]
  clear hPR
  go_enter Tryz.func22, Tryz.ntmps22
  go_upto_region 2 with fail
  have HN1 := hide ((Nx.refl w).alloc (.cells #[.string k0, .int .i64 p1, .int .i64 p2, .int .i64 p3, .int .i64 p4, .int .i64 p5, .int .i64 p6, .int .i64 p7, .int .i64 p8, .int .i64 p9] 29))
  have HF1 := hide (HPD2.out _ HN1.out)
  go_upto_region 3 with (go_at_call 55; refine HF1.out.mono ?_; rintro e w2 ⟨O, R, cR, hO, rfl, hR, hn2⟩)
  have HO := hide hO
  obtain ⟨P, hP⟩ : ∃ P, P = payAll zs PR xs [] O := ⟨_, rfl⟩
  have hPl : P.length = n := by rw [hP, payAll_len, HN.out]; simpa using hO.1.length_eq
  have hPt : P.map Paid.t = O := by rw [hP, payAll_t]; rfl
  have hPO : ∀ d ∈ P, d.t ∈ l := fun d hd => hO.1.mem_iff.1 (hPt ▸ List.mem_map_of_mem hd)
  have hPB := HPB.out O
  rw [← hP] at hPB hR
  have HPE := hide hP
  have HPL := hide hPl
  have HPO := hide hPO
  have HPBB := hide hPB
  have HR := hide hR
  have HN2 := hide hn2
  have HW2 := hide (HN1.out.trans hn2)
  have HDT := hide (due_take P)
  obtain ⟨G, hG⟩ : ∃ G : Nat → List Due, G = fun k => (P.take k).map (fun d => (⟨d.t.ride, d.cents⟩ : Due)) := ⟨_, rfl⟩
  have HGS : Hid (∀ k (hk : k < P.length), G (k + 1) = G k ++ [(⟨P[k].t.ride, P[k].cents⟩ : Due)]) := hide (by rw [hG]; exact HDT.out)
  have HGL := hide (fun k (hk : k ≤ n) => (show (G k).length = k by rw [hG]; simp [HPL.out]; omega))
  have hG0 : G 0 = [] := by rw [hG]; rfl
  have HG0 := hide hG0
  have HGN := hide (show G n = P.map (fun d => (⟨d.t.ride, d.cents⟩ : Due)) by rw [hG]; simp [← HPL.out])
  clear hO hR hn2 hP hPl hPt hPO hPB hG hG0 HF1 HPD2 HDT
  go_loopw [9, 11, 18] (fun v _ i wr => ∃ k : Nat, k ≤ n ∧ i = .int .i64 k ∧ wr.ownsRow w2.heap.size 61 2 v (G k).length ((G k).flatMap encDue) ∧ Nx w2 wr) (fun _ _ i _ => n - (intOf i).toNat)
  case atStart => exact ⟨0, Nat.zero_le _, rfl, by rw [HG0.out]; exact World.ownsRow_nil _ _ _ _, Nx.refl _⟩
  case round =>
    obtain ⟨k, hk, rfl, hown, hn3⟩ := hrel
    by_cases hlt : k < n
    · have hkp : k < P.length := by have := HPL.out; omega
      obtain ⟨d, hd⟩ : ∃ d, d = P[k] := ⟨_, rfl⟩
      have hde : P[k] = d := hd.symm
      have hgs := HGS.out k hkp
      rw [hde] at hgs
      obtain ⟨br, off, rfl, _, hb, hbr, hc⟩ := HR.out.open_ hn3 (by omega)
      obtain ⟨nm, hnm⟩ : ∃ nm, nm = nameP xs d.by_ := ⟨_, rfl⟩
      have o0 : wr.cell? ⟨br, off + k * 8, none⟩ = some (.string d.t.ride) := hde ▸ hc k hkp 0 _ rfl
      have o1 : wr.cell? ⟨br, off + k * 8 + 1, none⟩ = some (.string d.t.rider) := hde ▸ hc k hkp 1 _ rfl
      have o2 : wr.cell? ⟨br, off + k * 8 + 2, none⟩ = some (.slice d.t.a d.t.nodes.length d.t.cap) := hde ▸ hc k hkp 2 _ rfl
      have o3 : wr.cell? ⟨br, off + k * 8 + 3, none⟩ = some (.int .i64 d.t.metres) := hde ▸ hc k hkp 3 _ rfl
      have o4 : wr.cell? ⟨br, off + k * 8 + 4, none⟩ = some (.int .i64 d.t.from_) := hde ▸ hc k hkp 4 _ rfl
      have o5 : wr.cell? ⟨br, off + k * 8 + 5, none⟩ = some (.int .i64 d.t.to_) := hde ▸ hc k hkp 5 _ rfl
      have o6 : wr.cell? ⟨br, off + k * 8 + 6, none⟩ = some (.int .i64 d.cents) := hde ▸ hc k hkp 6 _ rfl
      have o7 : wr.cell? ⟨br, off + k * 8 + 7, none⟩ = some (.string nm) := by rw [hnm]; exact hde ▸ hc k hkp 7 _ rfl
      have i1 : (0 : Int) ≤ (k : Int) := by omega
      have i2 : (k : Int) < (n : Int) := by omega
      obtain ⟨L, hL⟩ : ∃ L, L = G k := ⟨_, rfl⟩
      have hLl : L.length = k := by rw [hL]; exact HGL.out k hk
      rw [← hL] at hgs hown
      obtain ⟨A1, c1', ev, _, _⟩ := Rd.of_own encDue_len rfl hown
      obtain rfl := ev
      have HTK := hide hgs
      have HOW := hide (own_nx hown ((Nx.refl wr).alloc (.cells #[.string d.t.ride, .string d.t.rider, .slice d.t.a d.t.nodes.length d.t.cap, .int .i64 d.t.metres, .int .i64 d.t.from_, .int .i64 d.t.to_, .int .i64 d.cents, .string nm] 98)))
      have HN3 := hide (hn3.trans ((Nx.refl wr).alloc (.cells #[.string d.t.ride, .string d.t.rider, .slice d.t.a d.t.nodes.length d.t.cap, .int .i64 d.t.metres, .int .i64 d.t.from_, .int .i64 d.t.to_, .int .i64 d.cents, .string nm] 98)))
      have hwz := hn3.sz
      clear hgs hown hn3 hc hnm hd hde hL
      go_wp2_with (at_builtin; go_loud (refine wpApp rfl _ _ _ rfl el_Due encDue encDue_len encDue_one (by omega) (by omega) w2.heap.size _ L rfl (HOW.out.alloc _) _ ⟨d.t.ride, d.cents⟩ _ rfl (hnew (by simp)) rfl (by omega) (by simp; omega) ?_); intro v2 w3 hown2 hg2)
      have hnx2 := (HN3.out.alloc (.cells #[.string d.t.ride, .int .i64 d.cents] 61)).grown hg2 (fun j hj => by exact own_blk_lt HOW.out j hj)
      go_roundw
      case rel => exact ⟨k + 1, by omega, by go_num, by rw [HTK.out]; exact hown2, hnx2⟩
      case measure => simp [intOf]; omega
    · have ek : k = n := by omega
      subst ek
      have hlen : (G k).length = k := HGL.out k (Nat.le_refl _)
      have HE := HDE.out O HO.out
      rw [← HPE.out, ← HGN.out] at HE
      have HE := hide HE
      obtain ⟨L, hL⟩ : ∃ L, L = G k := ⟨_, rfl⟩
      rw [← hL] at hlen hown HE
      rcases hown.2 with ⟨rfl, h0⟩ | ⟨g, cap, cur, rfl, hg, _⟩
      · have hL0 : L = [] := List.eq_nil_of_length_eq_zero h0
        have hk0 : k = 0 := by rw [← hlen, hL0]; rfl
        have HF0 := hide (show ([] : List Due) = faresL zs PR xs O l from HE.out [] (by rw [hL0]) (fun i j _ hj => by cases hj))
        have hcon := fun W => AnyF.slices_SortFunc_none (P := Tryz.prog) { Tryz.sortDue with } none 0 (.func (.func 57) #[] #[]) W
        change ∀ W, Calls Tryz.prog 56 _ _ _ at hcon
        have HNE := hide (HW2.out.trans hn3)
        clear hL hown hlen hL0 h0
        go_wp2_with (go_at_call 56; refine (hcon _).mono ?_; rintro e w' ⟨rfl, rfl⟩)
        go_ret
        refine ⟨O, none, 0, HO.out, by rw [hk0]; rfl, ?_, HNE.out⟩
        rw [← HF0.out]; exact Rd.nil
      · rw [hlen] at hown
        have hcon := sortFunc Tryz.sortDue 2 (by omega) Tryz.isAgg61 Tryz.sizeOf61 encDue encDue_len encDue_one dueC swoDue 57 (enters_of Tryz.func57 (by kernel_rfl) rfl) (fun x y W => w_byDue x y W) (base := w2.heap.size) (b := g) (cap := cap) (xs := L) hlen (by omega) hown
        change Calls Tryz.prog 56 _ _ _ at hcon
        have HCON := hide hcon
        have HNE := hide (HW2.out.trans hn3)
        have hgl : w2.heap.size ≤ g := hg
        have hw2z := HW2.out.sz
        clear hL hown hcon hn3
        go_wp2_with (go_at_call 56; refine HCON.out.mono ?_; rintro e w' ⟨rfl, ys, hp, hs, ho, hgr⟩)
        go_ret
        have hyl : ys.length = k := hp.length_eq.trans hlen
        obtain ⟨A9, c9, ev, hR9, _⟩ := Rd.of_own encDue_len hyl.symm ho
        have hys := HE.out ys hp hs
        refine ⟨O, A9, c9, HO.out, by rw [ev]; exact congrArg (fun n => Ending.returned (Value.slice A9 n c9)) hyl, ?_, HNE.out.grown hgr (fun j hj => by injection hj with hj; omega)⟩
        rw [← hys]; exact hR9.low hw2z

set_option maxRecDepth 100000 in
set_option maxHeartbeats 4000000 in
theorem w_BillsOf (D X A : Option Addr) (c cx cl : Nat) (zs : List Zone) (p : Price) (xs : List Pass) (l : List Jour) (day : Int) (w : World)
    (hZ : RdZones w 0 D zs) (hzl : zs.length ≤ 100) (hk : p.key.size ≤ 1000000) (hX : RdPasses w 0 X xs) (hxl : xs.length ≤ 300) (hJ : RdJours w 0 A l) (hll : l.length < 20) (hF : faultB zs p xs l = 0) :
    Calls Tryz.prog 24 #[.slice D zs.length c, aggP p, .slice X xs.length cx, .slice A l.length cl, .int .i64 day] w fun e w' => ∃ (O : List Jour) (R : Option Addr) (cR : Nat) (ys : List Due), IsOrd l O ∧ e = .returned (.slice R ys.length cR) ∧ DuesOf (billK (billR (payAll zs p xs [] O) day)) false ys ∧ Rd w' w.heap.size R 2 encDue ys ∧ ys.length ≤ 65536 ∧ Nx w w' := by
  have HPD := hide (fun W (hn : Nx w W) => w_paidFor D X A c cx cl zs p xs l W (hZ.nx hn) hzl hk (hX.nx hn) hxl (hJ.nx hn) hll hF)
  have HPB := hide (fun (O : List Jour) => payAll_bd (zs := zs) (xs := xs) (faultB_zero hF).2.1 (faultB_zero hF).2.2.1 O [] (fun d hd => by cases hd))
  have HJO := hide (faultB_zero hF).2.2.2.1
  have HSR := hide (faultB_zero hF).2.2.2.2
  have HJX := hide hJ.2
  obtain ⟨n, hn⟩ : ∃ n, n = l.length := ⟨_, rfl⟩
  rw [← hn] at HPD hll ⊢
  have HN := hide hn
  clear hF hZ hzl hk hX hxl hJ hn
  generalize zs.length = nz at *
  generalize xs.length = nx at *
  obtain ⟨k0, p1, p2, p3, p4, p5, p6, p7, p8, p9⟩ := p
  obtain ⟨PR, hPR⟩ : ∃ PR : Price, PR = ⟨k0, p1, p2, p3, p4, p5, p6, p7, p8, p9⟩ := ⟨_, rfl⟩
  rw [← hPR] at HPB HPD ⊢
  have HPD2 : Hid (∀ W, Nx w W → Calls Tryz.prog 55 #[.slice D nz c, .agg #[.string k0, .int .i64 p1, .int .i64 p2, .int .i64 p3, .int .i64 p4, .int .i64 p5, .int .i64 p6, .int .i64 p7, .int .i64 p8, .int .i64 p9], .slice X nx cx, .slice A n cl] W fun e w' => ∃ (O : List Jour) (R : Option Addr) (cR : Nat), IsOrd l O ∧ e = .returned (.slice R n cR) ∧ Rd w' W.heap.size R 8 (encPd xs) (payAll zs PR xs [] O) ∧ Nx W w') := hide (by have h := HPD.out; rw [show aggP PR = .agg #[.string k0, .int .i64 p1, .int .i64 p2, .int .i64 p3, .int .i64 p4, .int .i64 p5, .int .i64 p6, .int .i64 p7, .int .i64 p8, .int .i64 p9] from hPR ▸ rfl] at h; exact h)
  clear HPD
  rw [show aggP PR = .agg #[.string k0, .int .i64 p1, .int .i64 p2, .int .i64 p3, .int .i64 p4, .int .i64 p5, .int .i64 p6, .int .i64 p7, .int .i64 p8, .int .i64 p9] from hPR ▸ rfl]
  clear hPR
  have hmm := @run_makeMap Tryz.prog
  go_enter Tryz.func24, Tryz.ntmps24
  go_upto_region 1 with fail
  obtain ⟨w1, hw1⟩ : ∃ w1, w1 = w.alloc (.cells #[.string k0, .int .i64 p1, .int .i64 p2, .int .i64 p3, .int .i64 p4, .int .i64 p5, .int .i64 p6, .int .i64 p7, .int .i64 p8, .int .i64 p9] 29) := ⟨_, rfl⟩
  have HN1 := hide (show Nx w w1 from hw1 ▸ (Nx.refl w).alloc _)
  obtain ⟨bm, hbm⟩ : ∃ bm, bm = w.heap.size + 1 := ⟨_, rfl⟩
  have hbm1 : w1.heap.size = bm := by rw [hw1, hbm]; simp
  obtain ⟨wm, hwm⟩ : ∃ wm, wm = w1.alloc (.map #[] 0) := ⟨_, rfl⟩
  have HNM := hide (show Nx (w.alloc (.cells #[.string k0, .int .i64 p1, .int .i64 p2, .int .i64 p3, .int .i64 p4, .int .i64 p5, .int .i64 p6, .int .i64 p7, .int .i64 p8, .int .i64 p9] 29)) wm from hwm ▸ hw1 ▸ (Nx.refl _).alloc _)
  have hMM : MpK wm bm 0 (fun _ => none) := by rw [hwm, ← hbm1]; exact MoI.made (P := Tryz.prog) (K := 9) (E := 3) (ek := Value.string) (dom := domS) w1
  have hbs : w.heap.size ≤ bm ∧ bm < wm.heap.size := by
    constructor
    · rw [hbm]; omega
    · exact hMM.lt
  have q0 : wm.cell? ⟨w.heap.size, 0, none⟩ = some (.string k0) := nx_cell HNM.out (by simp) (by go_simp)
  have q1 : wm.cell? ⟨w.heap.size, 1, none⟩ = some (.int .i64 p1) := nx_cell HNM.out (by simp) (by go_simp)
  have q2 : wm.cell? ⟨w.heap.size, 2, none⟩ = some (.int .i64 p2) := nx_cell HNM.out (by simp) (by go_simp)
  have q3 : wm.cell? ⟨w.heap.size, 3, none⟩ = some (.int .i64 p3) := nx_cell HNM.out (by simp) (by go_simp)
  have q4 : wm.cell? ⟨w.heap.size, 4, none⟩ = some (.int .i64 p4) := nx_cell HNM.out (by simp) (by go_simp)
  have q5 : wm.cell? ⟨w.heap.size, 5, none⟩ = some (.int .i64 p5) := nx_cell HNM.out (by simp) (by go_simp)
  have q6 : wm.cell? ⟨w.heap.size, 6, none⟩ = some (.int .i64 p6) := nx_cell HNM.out (by simp) (by go_simp)
  have q7 : wm.cell? ⟨w.heap.size, 7, none⟩ = some (.int .i64 p7) := nx_cell HNM.out (by simp) (by go_simp)
  have q8 : wm.cell? ⟨w.heap.size, 8, none⟩ = some (.int .i64 p8) := nx_cell HNM.out (by simp) (by go_simp)
  have q9 : wm.cell? ⟨w.heap.size, 9, none⟩ = some (.int .i64 p9) := nx_cell HNM.out (by simp) (by go_simp)
  have HWM := hide (((Nx.refl w).alloc (.cells #[.string k0, .int .i64 p1, .int .i64 p2, .int .i64 p3, .int .i64 p4, .int .i64 p5, .int .i64 p6, .int .i64 p7, .int .i64 p8, .int .i64 p9] 29)).trans HNM.out)
  have HMM := hide hMM
  have HF1 := hide (HPD2.out wm HWM.out)
  clear HPD2 hMM
  go_upto_region 2 with fail
  try rw [← hw1]
  try rw [← hwm]
  try rw [← hbm]
  clear hwm hbm1 hbm hmm hw1
  go_upto_region 3 with (go_at_call 55; refine HF1.out.mono ?_; rintro e w2 ⟨O, R, cR, hO, rfl, hR, hn2⟩)
  have HO := hide hO
  obtain ⟨P, hP⟩ : ∃ P, P = payAll zs PR xs [] O := ⟨_, rfl⟩
  have hPl : P.length = n := by rw [hP, payAll_len, HN.out]; simpa using hO.1.length_eq
  have hPt : P.map Paid.t = O := by rw [hP, payAll_t]; rfl
  have hPO : ∀ d ∈ P, d.t ∈ l := fun d hd => hO.1.mem_iff.1 (hPt ▸ List.mem_map_of_mem hd)
  have hPB := HPB.out O
  rw [← hP] at hPB hR
  have HPE := hide hP
  have HPL := hide hPl
  have HPO := hide hPO
  have HPBB := hide hPB
  have HR := hide hR
  have HN2 := hide hn2
  have HW2 := hide (HWM.out.trans hn2)
  have HM2 := hide (HMM.out.nx hn2)
  have HBS := hide (billR_step P day)
  have HBD := hide (billR_bd hPB day)
  obtain ⟨G, hG⟩ : ∃ G : Nat → ByteArray → Option Int, G = fun k => billK (billR (P.take k) day) := ⟨_, rfl⟩
  have hG0 : G 0 = fun _ => none := by rw [hG]; rfl
  have HGS : Hid (∀ k (hk : k < P.length), G (k + 1) = if dayJ P[k].t = day then addK (G k) P[k].t.rider P[k].cents else G k) := hide (by rw [hG]; exact HBS.out)
  have HGB : Hid (∀ k, k ≤ P.length → BndK (G k) (1000000000 * k)) := hide (by rw [hG]; exact HBD.out)
  have HGN := hide (show G n = billK (billR P day) by rw [hG]; simp [← HPL.out])
  have HG0 := hide hG0
  clear hO hR hn2 hP hPl hPt hPO hPB HBS HBD hG hG0 q0 q1 q2 q3 q4 q5 q6 q7 q8 q9 HF1
  go_loopw [13, 21] (fun _ i wr => ∃ k : Nat, k ≤ n ∧ i = .int .i64 k ∧ MpK wr bm k (G k) ∧ Gr bm w2 wr) (fun _ i _ => n - (intOf i).toNat)
  case atStart => exact ⟨0, Nat.zero_le _, rfl, by rw [HG0.out]; exact HM2.out, Gr.refl _ _⟩
  case round =>
    obtain ⟨k, hk, rfl, hM, hgr⟩ := hrel
    have hnw : Nx w wr := HW2.out.grown hgr (fun j hj => by injection hj with hj; omega)
    by_cases hlt : k < n
    · have hkp : k < P.length := by have := HPL.out; omega
      obtain ⟨d, hd0⟩ : ∃ d, d = P[k] := ⟨_, rfl⟩
      have hde : P[k] = d := hd0.symm
      have hdm : d ∈ P := hd0 ▸ List.getElem_mem hkp
      have htl := HPO.out d hdm
      have hvb := HPBB.out d hdm
      have hgs := HGS.out k hkp
      rw [hde] at hgs
      obtain ⟨br, off, rfl, _, hb, hbr, hc⟩ := (HR.out.gr hgr (by omega)).open_ (Nx.refl wr) (by omega)
      obtain ⟨nm, hnm⟩ : ∃ nm, nm = nameP xs d.by_ := ⟨_, rfl⟩
      have o0 : wr.cell? ⟨br, off + k * 8, none⟩ = some (.string d.t.ride) := hde ▸ hc k hkp 0 _ rfl
      have o1 : wr.cell? ⟨br, off + k * 8 + 1, none⟩ = some (.string d.t.rider) := hde ▸ hc k hkp 1 _ rfl
      have o2 : wr.cell? ⟨br, off + k * 8 + 2, none⟩ = some (.slice d.t.a d.t.nodes.length d.t.cap) := hde ▸ hc k hkp 2 _ rfl
      have o3 : wr.cell? ⟨br, off + k * 8 + 3, none⟩ = some (.int .i64 d.t.metres) := hde ▸ hc k hkp 3 _ rfl
      have o4 : wr.cell? ⟨br, off + k * 8 + 4, none⟩ = some (.int .i64 d.t.from_) := hde ▸ hc k hkp 4 _ rfl
      have o5 : wr.cell? ⟨br, off + k * 8 + 5, none⟩ = some (.int .i64 d.t.to_) := hde ▸ hc k hkp 5 _ rfl
      have o6 : wr.cell? ⟨br, off + k * 8 + 6, none⟩ = some (.int .i64 d.cents) := hde ▸ hc k hkp 6 _ rfl
      have o7 : wr.cell? ⟨br, off + k * 8 + 7, none⟩ = some (.string nm) := by rw [hnm]; exact hde ▸ hc k hkp 7 _ rfl
      have i1 : (0 : Int) ≤ (k : Int) := by omega
      have i2 : (k : Int) < (n : Int) := by omega
      have hjo := HJO.out d.t htl
      have f86 : (0 : Int) ≤ d.t.from_ ∧ d.t.from_ ≤ 9007199254740992 := ⟨by have := hjo.time; omega, by have := hjo.time; omega⟩
      obtain ⟨dj, hdj⟩ : ∃ dj, dj = dayJ d.t := ⟨_, rfl⟩
      have HDQ := hide (show d.t.from_ / 86400000 = dj by rw [hdj]; rfl)
      rw [← hdj] at hgs
      have hkd : domS d.t.rider := by have h := (HJX.out d.t htl).2.2.2.2; unfold domS maxLen; omega
      have hkm := keyS_mk Tryz.underlying9 hkd
      have hgb := HGB.out k (by omega) d.t.rider
      obtain ⟨v0, hv0⟩ : ∃ v0, v0 = (G k d.t.rider).getD 0 := ⟨_, rfl⟩
      have HL := hide ((hM.nx ((Nx.refl wr).alloc (.cells #[.string d.t.ride, .string d.t.rider, .slice d.t.a d.t.nodes.length d.t.cap, .int .i64 d.t.metres, .int .i64 d.t.from_, .int .i64 d.t.to_, .int .i64 d.cents, .string nm] 98))).look law_str Tryz.underlying92 Tryz.underlying3 (zeroIntK _) hkd hkm).1
      rw [← hv0] at HL hgb
      have HV0 := hide hv0
      have HGR := hide hgr
      have HGSK := hide hgs
      have HM := hide hM
      clear hgs hM hgr hc hnm hd0 hde hdm hjo hdj hv0 hnw
      by_cases hd : dj = day
      · have t1 : (d.t.from_ / 86400000 == day) = true := by rw [HDQ.out]; simpa using hd
        have HS2 := hide (show G (k + 1) = addK (G k) d.t.rider d.cents by rw [HGSK.out, if_pos hd])
        have w3 : IntKind.i64.wrap (v0 + d.cents) = v0 + d.cents := IntWalk.i64_in _ (by omega)
        have hlk := HL.out
        clear hd HGSK
        go_wp2_with (at_mapUpdate; refine wpMoPut _ rfl _ _ _ _ rfl law_str strV_inj Tryz.underlying92 Tryz.underlying3 bm k (G k) rfl (HM.out.nx ((Nx.refl wr).alloc _)) (by unfold maxLen; omega) d.t.rider rfl hkd _ hkm (v0 + d.cents) rfl (wf_i64o.2 ⟨by omega, by omega⟩) ?_; intro w5 hm5 hg5; (have HM5 := hide hm5); clear hm5)
        go_roundw
        case rel =>
          refine ⟨k + 1, by omega, by go_num, ?_, HGR.out.trans ((Gr.of_nx ((Nx.refl wr).alloc _)).trans hg5)⟩
          rw [HS2.out]
          have e : (fun k' => if k' = d.t.rider then some (v0 + d.cents) else G k k') = addK (G k) d.t.rider d.cents := by unfold addK; rw [HV0.out]
          rw [← e]
          exact HM5.out
        case measure => simp [intOf]; omega
      · have t1 : (d.t.from_ / 86400000 == day) = false := by rw [HDQ.out]; simpa using hd
        have HS2 := hide (show G (k + 1) = G k by rw [HGSK.out, if_neg hd])
        clear hd HGSK HL
        go_wp2_with fail
        go_roundw
        case rel => exact ⟨k + 1, by omega, by go_num, by rw [HS2.out]; exact (HM.out.nx ((Nx.refl wr).alloc _)).mono (by omega), HGR.out.then_nx ((Nx.refl wr).alloc _)⟩
        case measure => simp [intOf]; omega
    · have ek : k = n := by omega
      subst ek
      have HD := hide (w_duesR bm k (G k) false wr hM (by omega))
      have HNW := hide hnw
      clear hM hgr hnw
      go_wp2_with (go_at_call 60; refine HD.out.mono ?_; rintro e w9 ⟨A9, c9, ys, rfl, hys, hr9, hl9, hn9⟩)
      go_ret
      exact ⟨O, A9, c9, ys, HO.out, rfl, by rw [← HPE.out, ← HGN.out]; exact hys, hr9.low HNW.out.sz, hl9, HNW.out.trans hn9⟩
end Go.Proofs.YtemaiikgnogfhaaGreatDoor
