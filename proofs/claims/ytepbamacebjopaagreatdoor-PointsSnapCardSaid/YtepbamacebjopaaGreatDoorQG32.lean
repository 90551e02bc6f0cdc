/- Which nodes belong together: the reference's IslandsOf (gen_calls.py iso.src). -/
import Derived.Test.YtepbamacebjopaaGreatDoorQG29
import Derived.Test.YtepbamacebjopaaGreatDoorQG23
import Derived.Test.YtepbamacebjopaaGreatDoorQG24
import Derived.Deep.RegionHeldLaw
import Derived.Deep.DeepMust
import Derived.Test.YtepbamacebjopaaGreatDoorQCheckR
import Derived.Test.YtepbamacebjopaaGreatDoorQG12
namespace Go.Proofs.YtepbamacebjopaaGreatDoor
open Go.RowKit Go.Sort

set_option maxRecDepth 100000 in
set_option maxHeartbeats 1000000 in
theorem w_IndexFR (g : Nat) (p : RowS → Bool) (cap : Value) (eg : Enters g) (lo : Nat) (A : Option Addr) (c : Nat) (l : List RowS) (w : World) (hcl : ∀ y ∈ l, ∀ W, Nx w W → Calls Tryz.prog g #[.slice y.a y.l.length y.c, cap] W fun e w' => e = .returned (.bool (p y)) ∧ Nx W w')
    (hR : Rd w lo A 1 encRS l) (hl : l.length ≤ 65536) :
    Calls Tryz.prog 101 #[.slice A l.length c, .func (.func g) #[] #[cap]] w fun e w' => e = .returned (.int .i64 (findI p l)) ∧ Nx w w' := by
  generalize hn : l.length = n at *
  have HR := hide hR
  have HN := hide hn
  have HC0 := hide hcl
  clear hR hn hcl
  unfold Enters at eg
  go_enter Tryz.func101, Tryz.ntmps101
  go_wp2
  go_loopw [5, 8] (fun _ i wr => ∃ k : Nat, k ≤ n ∧ i = .int .i64 k ∧ Nx w wr ∧ findI p l = idxP p (l.drop k) k) (fun _ i _ => n - (intOf i).toNat)
  case atStart => exact ⟨0, Nat.zero_le _, rfl, Nx.refl _, rfl⟩
  case round =>
    obtain ⟨k, hk, rfl, hbw, hq⟩ := hrel
    have HQ := hide hq
    clear hq
    by_cases hlt : k < n
    · have hlt' : k < l.length := by have := HN.out; omega
      obtain ⟨b, off, rfl, _, hb, hbr, hc⟩ := HR.out.open_ hbw (by omega)
      have c0 : wr.cell? ⟨b, off + k, none⟩ = some (.slice l[k].a l[k].l.length l[k].c) := by simpa using hc k hlt' 0 _ rfl
      clear hc
      have HD := hide (idxP_drop p l k hlt')
      have hcl := fun W (h : Nx w W) => HC0.out l[k] (List.getElem_mem hlt') W h
      generalize l[k] = y at *
      generalize y.l.length = ny at *
      cases hbig : p y
      all_goals
        have HB := hide hbig
        rw [hbig] at hcl
        have HCL := hide hcl
        clear hbig hcl
        go_wp2_with (go_at_fn g; refine (HCL.out _ hbw).mono ?_; rintro e w2 ⟨rfl, hn2⟩)
      · go_roundw
        case rel => exact ⟨k + 1, by omega, by go_num, hbw.trans hn2, by rw [HQ.out, HD.out, HB.out, if_neg (by simp)]⟩
        case measure => simp [intOf]; omega
      · go_ret
        exact ⟨ret_int (by rw [HQ.out, HD.out, HB.out, if_pos rfl]), hbw.trans hn2⟩
    · go_wp2
      go_ret
      exact ⟨ret_int (by rw [HQ.out, List.drop_of_length_le (by have := HN.out; omega)]; rfl), hbw⟩
set_option maxRecDepth 100000 in
set_option maxHeartbeats 1000000 in
theorem w_ContFR (g : Nat) (p : RowS → Bool) (cap : Value) (eg : Enters g) (lo : Nat) (A : Option Addr) (c : Nat) (l : List RowS) (w : World) (hcl : ∀ y ∈ l, ∀ W, Nx w W → Calls Tryz.prog g #[.slice y.a y.l.length y.c, cap] W fun e w' => e = .returned (.bool (p y)) ∧ Nx W w')
    (hR : Rd w lo A 1 encRS l) (hl : l.length ≤ 65536) :
    Calls Tryz.prog 60 #[.slice A l.length c, .func (.func g) #[] #[cap]] w fun e w' => e = .returned (.bool (l.any p)) ∧ Nx w w' := by
  have HC := hide (w_IndexFR g p cap eg lo A c l w hcl hR hl)
  have HA := hide (idxP_any p l 0)
  rw [show idxP p l 0 = findI p l from rfl] at HA
  generalize findI p l = r at *
  generalize l.any p = z at *
  clear hcl eg hR hl
  generalize l.length = n at *
  have h1 := HA.out
  have h2 : decide (r ≥ 0) = z := h1
  go_enter Tryz.func60, Tryz.ntmps60
  go_wp2_with (go_at_call 101; refine HC.out.mono ?_; rintro e w2 ⟨rfl, hn2⟩)
  go_ret
  exact ⟨rfl, hn2⟩
theorem w_iso1 (s : ByteArray) (A : Option Addr) (c : Nat) (l : List ByteArray) (q : Nat) (w : World) (hq : w.cell? ⟨q, 0, none⟩ = some (.string s)) (hR : Rd w 0 A 1 encS l) (hl : l.length ≤ 65536) :
    Calls Tryz.prog 61 #[.slice A l.length c, .pointer (some ⟨q, 0, none⟩)] w fun e w' => e = .returned (.bool (memS l s)) ∧ Nx w w' := by
  have HC := hide (w_ContS2 0 A c l s w hR hl)
  clear hR
  generalize memS l s = z at *
  generalize l.length = n at *
  go_enter Tryz.func61, Tryz.ntmps61
  go_wp2_with (go_at_call 62; refine HC.out.mono ?_; rintro e w2 ⟨rfl, hn2⟩)
  go_ret
  exact ⟨rfl, hn2⟩
theorem eg_iso1 : Enters 61 := enters_of Tryz.func61 (by kernel_rfl) rfl
open Classical in
noncomputable def backF (E : List (ByteArray × ByteArray)) (k : ByteArray) (l : List ByteArray) : List ByteArray := l.filter fun s => decide (ReachE E s k)
theorem backF_take {E : List (ByteArray × ByteArray)} {k : ByteArray} {l : List ByteArray} {i : Nat} (hi : i < l.length) : (ReachE E l[i] k → backF E k (l.take (i + 1)) = backF E k (l.take i) ++ [l[i]]) ∧ (¬ ReachE E l[i] k → backF E k (l.take (i + 1)) = backF E k (l.take i)) := by
  unfold backF
  rw [List.take_succ_eq_append_getElem hi, List.filter_append]
  constructor
  · intro h; simp [h]
  · intro h; simp [h]
theorem backF_sort {E : List (ByteArray × ByteArray)} {k : ByteArray} {l : List ByteArray} (h : l.Pairwise ltS) : (backF E k l).Pairwise ltS := List.Pairwise.filter _ h
theorem backF_mem {E : List (ByteArray × ByteArray)} {k : ByteArray} {l : List ByteArray} {s : ByteArray} : s ∈ backF E k l ↔ s ∈ l ∧ ReachE E s k := by
  unfold backF
  rw [List.mem_filter]
  simp
theorem backF_len {E : List (ByteArray × ByteArray)} {k : ByteArray} {l : List ByteArray} : (backF E k l).length ≤ l.length := List.length_filter_le _ _
set_option maxRecDepth 100000 in
set_option maxHeartbeats 8000000 in
theorem w_IslandsOf (lo : Nat) (A B C : Option Addr) (n2 ca cb cc : Nat) (ns : List Node) (rs : List Arc) (w : World) (hN : Rd w lo A 3 encNode ns) (hA : Rd w lo B 5 encArc rs) (hnl : ns.length ≤ 400) (hal : rs.length ≤ 400) (hS : SortN ns) (hC : chk (arcF ns) none rs = 0) :
    Calls Tryz.prog 19 #[.agg #[.slice A ns.length ca, .slice B rs.length cb, .slice C n2 cc]] w fun e w' => ∃ (v : Value) (es : List RowS), e = .returned v ∧ es.map (·.l) = islandsL ns rs ∧ w'.ownsRow w.heap.size 34 1 v es.length (es.flatMap encRS) ∧ OwnRowsS w' w.heap.size es ∧ Nx w w' := by
  obtain ⟨wb, hwb⟩ : ∃ wb, wb = w.alloc (.cells #[.slice A ns.length ca, .slice B rs.length cb, .slice C n2 cc] 30) := ⟨_, rfl⟩
  have hnb : Nx w wb := hwb ▸ (Nx.refl w).alloc _
  have hsz : wb.heap.size = w.heap.size + 1 := by rw [hwb]; simp
  have b0 : wb.cell? ⟨w.heap.size, 0, none⟩ = some (.slice A ns.length ca) := by rw [hwb]; go_simp
  have b1 : wb.cell? ⟨w.heap.size, 1, none⟩ = some (.slice B rs.length cb) := by rw [hwb]; go_simp
  have b2 : wb.cell? ⟨w.heap.size, 2, none⟩ = some (.slice C n2 cc) := by rw [hwb]; go_simp
  have HBX := hide (fun W (hx : Nx wb W) => (⟨nx_cell hx (by omega) b0, nx_cell hx (by omega) b1, nx_cell hx (by omega) b2⟩ : W.cell? ⟨w.heap.size, 0, none⟩ = some (.slice A ns.length ca) ∧ W.cell? ⟨w.heap.size, 1, none⟩ = some (.slice B rs.length cb) ∧ W.cell? ⟨w.heap.size, 2, none⟩ = some (.slice C n2 cc)))
  have HRN := hide (fun W (hx : Nx wb W) => hN.nx (hnb.trans hx))
  obtain ⟨E, hE⟩ : ∃ E, E = edgesB false rs := ⟨_, rfl⟩
  have HCO := hide (fun s W (hx : Nx wb W) => (show Calls Tryz.prog 64 #[.agg #[.slice A ns.length ca, .slice B rs.length cb, .slice C n2 cc], .string s] W fun e w' => ∃ (v : Value) (L : List ByteArray), e = .returned v ∧ w'.ownsRow W.heap.size 9 1 v L.length (L.flatMap encS) ∧ L.Nodup ∧ (∀ x, x ∈ L ↔ ReachE E s x) ∧ L.length ≤ rs.length + 1 ∧ Nx W w' by subst hE; exact w_comes lo A B C ns.length n2 ca cb cc rs s W (hA.nx (hnb.trans hx)) hal))
  obtain ⟨R, hR⟩ : ∃ R : ByteArray → List ByteArray, R = fun a => rowI (Both rs a) ns := ⟨_, rfl⟩
  have HRE := hide (fun (a : ByteArray) (ha : 0 ≤ nodeI ns a) (l : List ByteArray) (hl : l.Pairwise ltS) (hm : ∀ s, s ∈ l ↔ ReachE E a s ∧ ReachE E s a) => (show l = R a by subst hE hR; exact row_eq hS hC ha hl hm))
  obtain ⟨L, hL⟩ : ∃ L, L = islandsL ns rs := ⟨_, rfl⟩
  have HLL := hide (show L = islL R ns [] by rw [hL, hR]; rfl)
  have HD1 := hide (fun j (hj : j < ns.length) T => islL_drop (R := R) hj T)
  have HNK := hide (fun j (hj : j < ns.length) => (node_mem (List.getElem_mem hj) : 0 ≤ nodeI ns ns[j].key))
  rw [← hL]
  have HNB := hide hnb
  have HWB := hide hwb
  have HSZ := hide hsz
  clear hnb hwb hsz b0 b1 b2 hN hA hS hC hE hR hL
  obtain ⟨nn, hnn⟩ : ∃ nn, nn = ns.length := ⟨_, rfl⟩
  obtain ⟨nr, hnr⟩ : ∃ nr, nr = rs.length := ⟨_, rfl⟩
  rw [← hnn, ← hnr] at HBX HCO
  rw [← hnn, ← hnr] at HWB
  rw [← hnn] at hnl
  rw [← hnr] at hal
  rw [← hnn, ← hnr]
  have HNN := hide hnn
  clear hnn hnr
  go_enter Tryz.func19, Tryz.ntmps19
  go_upto_region 2 with fail
  rw [← HWB.out]
  obtain ⟨c0, c1, c2⟩ := HBX.out wb (Nx.refl _)
  go_wp2_with fail
  clear c0 c1 c2
  go_loopw [3, 12] (fun v u wr => ∃ (j : Nat) (es : List RowS), j ≤ nn ∧ u = .int .i64 j ∧ L = es.map (·.l) ++ islL R (ns.drop j) (es.map (·.l)).flatten ∧ wr.ownsRow wb.heap.size 34 1 v es.length (es.flatMap encRS) ∧ OwnRowsS wr wb.heap.size es ∧ es.length ≤ j ∧ (∀ r ∈ es, r.l.length ≤ 401) ∧ Nx wb wr) (fun _ u _ => nn - (intOf u).toNat)
  case atStart => exact ⟨0, [], Nat.zero_le _, rfl, HLL.out, World.ownsRow_nil _ _ _ _, fun r hr => absurd hr (by simp), Nat.le_refl _, fun r hr => absurd hr (by simp), Nx.refl _⟩
  case round =>
    obtain ⟨j, es, hj, rfl, hq, hown, hrows, hes, hlen, hbw⟩ := hrel
    obtain ⟨ZA, zc, rfl, hRZ, _⟩ := Rd.of_own encRS_len rfl hown
    have HQ := hide hq
    have HO := hide hown
    have HRS := hide hrows
    have HBW := hide hbw
    have HLN := hide hlen
    have HRZ := hide hRZ
    clear hq hown hrows hlen hRZ
    by_cases hlt : j < nn
    · have hjl : j < ns.length := by have := HNN.out; omega
      obtain ⟨nb, noff, hAA, _, hnb, _, hc⟩ := (HRN.out wr hbw).open_ (Nx.refl wr) (by omega)
      have c0 : wr.cell? ⟨nb, noff + j * 3, none⟩ = some (.string ns[j].key) := hc j hjl 0 _ rfl
      have c1 : wr.cell? ⟨nb, noff + j * 3 + 1, none⟩ = some (.int .i64 ns[j].x) := hc j hjl 1 _ rfl
      have c2 : wr.cell? ⟨nb, noff + j * 3 + 2, none⟩ = some (.int .i64 ns[j].y) := hc j hjl 2 _ rfl
      have HD := hide (HD1.out j hjl (es.map (·.l)).flatten)
      have HK0 := hide (HNK.out j hjl)
      clear hc hbw
      subst hAA
      generalize ns[j] = x at *
      obtain ⟨ar, har⟩ : ∃ ar, ar = wr.heap.size := ⟨_, rfl⟩
      obtain ⟨wk, hwk⟩ : ∃ wk, wk = wr.alloc (.cells #[.string x.key, .int .i64 x.x, .int .i64 x.y] 74) := ⟨_, rfl⟩
      have hnk : Nx wr wk := hwk ▸ (Nx.refl wr).alloc _
      have hak : ar < wk.heap.size := by rw [hwk, har]; simp
      have d0 : wk.cell? ⟨ar, 0, none⟩ = some (.string x.key) := by rw [hwk, har]; go_simp
      have HAK := hide (fun W (hx : Nx wk W) => (nx_cell hx hak d0 : W.cell? ⟨ar, 0, none⟩ = some (.string x.key)))
      have HNK2 := hide hnk
      have HWK := hide hwk
      have HARK := hide har
      have i1 : (0 : Int) ≤ (j : Int) := by omega
      have i2 : (j : Int) < (nn : Int) := by omega
      obtain ⟨ne, hne⟩ : ∃ ne, ne = es.length := ⟨_, rfl⟩
      have HCF := hide (w_ContFR _ (fun r => memS r.l x.key) (.pointer (some ⟨ar, 0, none⟩)) eg_iso1 0 ZA zc es wk (fun y hy W hx => w_iso1 x.key y.a y.c y.l ar W (HAK.out W hx) (by
        obtain ⟨A', c', e', h', _⟩ := Rd.of_own encS_len rfl (HRS.out y hy)
        injection e' with e1 e2 e3
        subst e1
        exact ((h'.low (Nat.zero_le _)).nx hnk).nx hx) (by have := HLN.out y hy; omega)) ((HRZ.out.low (Nat.zero_le _)).nx hnk) (by omega))
      rw [show es.any (fun r => memS r.l x.key) = (es.map (·.l)).any (fun l => memS l x.key) by rw [List.any_map]; rfl, ← hne] at HCF
      rw [← hne] at hes ⊢
      have HNE := hide hne
      clear hnk hwk har d0 hne
      go_upto_region 5 with fail
      rw [← HWK.out, ← HARK.out]
      clear c0 c1 c2 HWK
      cases hany : (es.map (·.l)).any (fun l => memS l x.key)
      · rw [hany] at HCF
        have hT : x.key ∉ (es.map (·.l)).flatten := fun hk => by
          have := seen_any (es.map (·.l)) x.key
          rw [hany, seenF_in hk] at this
          cases this
        have HEQ := hide (HD.out.2 hT)
        clear hany hT HD
        go_wp2_with fail
        refine HCF.out.mono ?_
        rintro e w3 ⟨rfl, hn3⟩
        have HN3 := hide (HNK2.out.trans hn3)
        have HX3 := hide hn3
        obtain ⟨c0, c1, c2⟩ := HBX.out w3 (HBW.out.trans HN3.out)
        have d0 := HAK.out w3 hn3
        clear hn3 HCF
        go_wp2_with fail
        refine (HCO.out x.key w3 (HBW.out.trans HN3.out)).mono ?_
        rintro e w4 ⟨v4, L4, rfl, hown4, hnd, hmem, hl4, hn4⟩
        obtain ⟨D4, d4, rfl, hR4, _⟩ := Rd.of_own encS_len rfl hown4
        have hpos : 0 < L4.length := List.length_pos_of_mem ((hmem x.key).2 .refl)
        have HON := hide (w_once 0 D4 d4 L4 w4 (hR4.low (Nat.zero_le _)) (by omega) hpos)
        have HMEM := hide hmem
        have HN4 := hide (HN3.out.trans hn4)
        have HX4 := hide (HX3.out.trans hn4)
        have hl4b := hl4
        clear c0 c1 c2 d0 hown4 hnd hmem hn4 hR4 hpos hl4
        obtain ⟨n4, hn4⟩ : ∃ n4, n4 = L4.length := ⟨_, rfl⟩
        rw [← hn4] at HON hl4b ⊢
        clear hn4
        go_wp2_with fail
        refine HON.out.mono ?_
        rintro e w5 ⟨D5, d5, M, rfl, hR5, hsort, hmem5, hl5, hn5⟩
        have HM := hide (fun s => (hmem5 s).trans (HMEM.out s))
        have HSO := hide hsort
        have HN5 := hide (HN4.out.trans hn5)
        have HX5 := hide (HX4.out.trans hn5)
        have HR5 := hide (hR5.low (Nat.zero_le _))
        clear hR5 hsort hmem5 hn5 HON HMEM
        obtain ⟨n5, hn5⟩ : ∃ n5, n5 = M.length := ⟨_, rfl⟩
        rw [← hn5] at hl5 ⊢
        have HN5L := hide hn5
        clear hn5
        go_wp2_with fail
        obtain ⟨wo, hwo⟩ : ∃ wo, wo = w5 := ⟨_, rfl⟩
        subst hwo
        go_loopw [6, 25] (fun vr u wi => ∃ (i : Nat), i ≤ n5 ∧ u = .int .i64 i ∧ wi.ownsRow wo.heap.size 9 1 vr (backF E x.key (M.take i)).length ((backF E x.key (M.take i)).flatMap encS) ∧ Nx wo wi) (fun _ u _ => n5 - (intOf u).toNat)
        case atStart => exact ⟨0, Nat.zero_le _, rfl, World.ownsRow_nil _ _ _ _, Nx.refl _⟩
        case round =>
          obtain ⟨i, hi, rfl, hown, how⟩ := hrel
          obtain ⟨DA, da, rfl, _, _⟩ := Rd.of_own encS_len rfl hown
          have HOI := hide hown
          have HOW := hide how
          have hba : (backF E x.key (M.take i)).length ≤ 401 := Nat.le_trans backF_len (by rw [List.length_take]; have := HN5L.out; omega)
          clear hown how
          by_cases hil : i < n5
          · have hil' : i < M.length := by have := HN5L.out; omega
            obtain ⟨mb, mo, hDD, _, hmb, _, hmc⟩ := HR5.out.open_ HOW.out (by omega)
            have m0 : wr.cell? ⟨mb, mo + i, none⟩ = some (.string M[i]) := by simpa using hmc i hil' 0 _ rfl
            have HBT := hide (backF_take (E := E) (k := x.key) hil')
            clear hmc
            subst hDD
            generalize M[i] = s at *
            have k1 : (0 : Int) ≤ (i : Int) := by omega
            have k2 : (i : Int) < (n5 : Int) := by omega
            obtain ⟨acc, hacc⟩ : ∃ acc, acc = backF E x.key (M.take i) := ⟨_, rfl⟩
            rw [← hacc] at HOI HBT hba ⊢
            have HACC := hide hacc
            clear hacc
            obtain ⟨na, hna⟩ : ∃ na, na = acc.length := ⟨_, rfl⟩
            rw [← hna] at hba ⊢
            have HNA := hide hna
            clear hna
            go_upto_region 10 with fail
            clear m0
            have hx : Nx wr wr.drew := (Nx.refl wr).drew
            have HSS := hide (fun W (hx : Nx wr W) => (⟨HBX.out W ((HBW.out.trans HN5.out).trans (HOW.out.trans hx)), HAK.out W (HX5.out.trans (HOW.out.trans hx))⟩ : (W.cell? ⟨w.heap.size, 0, none⟩ = some (.slice (some ⟨nb, noff, none⟩) nn ca) ∧ W.cell? ⟨w.heap.size, 1, none⟩ = some (.slice B nr cb) ∧ W.cell? ⟨w.heap.size, 2, none⟩ = some (.slice C n2 cc)) ∧ W.cell? ⟨ar, 0, none⟩ = some (.string x.key)))
            refine wp_region_held_drew (S := fun W => (W.cell? ⟨w.heap.size, 0, none⟩ = some (.slice (some ⟨nb, noff, none⟩) nn ca) ∧ W.cell? ⟨w.heap.size, 1, none⟩ = some (.slice B nr cb) ∧ W.cell? ⟨w.heap.size, 2, none⟩ = some (.slice C n2 cc)) ∧ W.cell? ⟨ar, 0, none⟩ = some (.string x.key)) (by kernel_rfl) (HSS.out _ hx) (fun hHeld => ?_)
            generalize wr.drew = wd at *
            refine wpAnyH_take (i := 0) (oi := ⟨some 29, _, _, _, _, _⟩) (v := ?_) rfl (by kernel_rfl) (by kernel_rfl) (by kernel_rfl) (fun _ _ _ h => h) (Or.inl ⟨by rfl, ?_⟩) (by assumption) ?_
            rotate_left 1
            · intro w hSw
              (try dsimp only at hSw)
              go_simp
              try with_reducible rfl
            try simp only [Act.put, List.setIfInBounds_toArray, List.set_cons_zero, List.set_cons_succ]
            refine wpAnyH_take (i := 1) (oi := ⟨some 30, _, _, _, _, _⟩) (v := ?_) rfl (by kernel_rfl) (by kernel_rfl) (by kernel_rfl) (fun _ _ _ h => h) (Or.inl ⟨by rfl, ?_⟩) (by assumption) ?_
            rotate_left 1
            · intro w hSw
              (try dsimp only at hSw)
              go_simp
              try with_reducible rfl
            try simp only [Act.put, List.setIfInBounds_toArray, List.set_cons_zero, List.set_cons_succ]
            refine wpAnyH_take (i := 3) (oi := ⟨some 32, _, _, _, _, _⟩) (v := ?_) rfl (by kernel_rfl) (by kernel_rfl) (by kernel_rfl) (fun _ _ _ h => h) (Or.inl ⟨by rfl, ?_⟩) (by assumption) ?_
            rotate_left 1
            · intro w hSw
              (try dsimp only at hSw)
              go_simp
              try with_reducible rfl
            try simp only [Act.put, List.setIfInBounds_toArray, List.set_cons_zero, List.set_cons_succ]
            refine wpAnyH_take (i := 4) (oi := ⟨some 33, _, _, _, _, _⟩) (v := ?_) rfl (by kernel_rfl) (by kernel_rfl) (by kernel_rfl) (fun _ _ _ h => h) (Or.inl ⟨by rfl, ?_⟩) (by assumption) ?_
            rotate_left 1
            · intro w hSw
              (try dsimp only at hSw)
              go_simp
              try with_reducible rfl
            try simp only [Act.put, List.setIfInBounds_toArray, List.set_cons_zero, List.set_cons_succ]
            refine wpAnyH_ready (rs := [2]) (by kernel_rfl) (by simp) ?_
            refine AllReadyH.cons rfl (fun K hK => ?_) AllReadyH.nil
            go_simp
            go_at_call 64
            refine (HCO.out s wd ((HBW.out.trans HN5.out).trans (HOW.out.trans hx))).mono ?_
            rintro e w6 ⟨v6, L6, rfl, hown6, hnd6, hmem6, hl6, hn6⟩
            obtain ⟨D6, d6, rfl, hR6, _⟩ := Rd.of_own encS_len rfl hown6
            replace hx := hx.trans hn6
            have HCT := hide (w_ContS2 0 D6 d6 L6 x.key w6 (hR6.low (Nat.zero_le _)) (by omega))
            have HM6 := hide (hmem6 x.key)
            clear hown6 hnd6 hmem6 hR6 hl6 hn6
            obtain ⟨n6, hn6⟩ : ∃ n6, n6 = L6.length := ⟨_, rfl⟩
            rw [← hn6] at HCT
            rw [← hn6]
            clear hn6
            go_simp
            refine hK.out _ _ (HSS.out _ hx) (fun hHeld => ?_)
            clear hK K
            try simp only [Act.put, List.setIfInBounds_toArray, List.set_cons_zero, List.set_cons_succ]
            cases hms : memS L6 x.key
            · rw [hms] at HCT
              refine wpAnyH_ready (rs := [5]) (by kernel_rfl) (by simp) ?_
              refine AllReadyH.cons rfl (fun K hK => ?_) AllReadyH.nil
              go_simp
              go_at_call 62
              refine HCT.out.mono ?_
              rintro e w7 ⟨rfl, hn7⟩
              replace hx := hx.trans hn7
              go_simp
              refine hK.out _ _ (HSS.out _ hx) (fun hHeld => ?_)
              clear hK K
              try simp only [Act.put, List.setIfInBounds_toArray, List.set_cons_zero, List.set_cons_succ]
              refine wpAnyH_done (by kernel_rfl) ?_ _
              have hno : ¬ ReachE E s x.key := fun h => by rw [memS_iff.2 (HM6.out.2 h)] at hms; cases hms
              have HB2 := hide (HBT.out.2 hno)
              have HO7 := hide (own_nx HOI.out hx)
              clear hHeld hms hno
              go_wp2_with fail
              go_roundw
              case rel => exact ⟨i + 1, by omega, by go_num, by rw [HB2.out]; have := HO7.out; rw [HNA.out]; exact this, HOW.out.trans hx⟩
              case measure => simp [intOf]; omega
            · rw [hms] at HCT
              refine wpAnyH_ready (rs := [5]) (by kernel_rfl) (by simp) ?_
              refine AllReadyH.cons rfl (fun K hK => ?_) AllReadyH.nil
              go_simp
              go_at_call 62
              refine HCT.out.mono ?_
              rintro e w7 ⟨rfl, hn7⟩
              replace hx := hx.trans hn7
              go_simp
              refine hK.out _ _ (HSS.out _ hx) (fun hHeld => ?_)
              clear hK K
              try simp only [Act.put, List.setIfInBounds_toArray, List.set_cons_zero, List.set_cons_succ]
              refine wpAnyH_done (by kernel_rfl) ?_ _
              have hyes : ReachE E s x.key := HM6.out.1 (memS_iff.1 hms)
              have HB2 := hide (HBT.out.1 hyes)
              have HO7 := hide (own_nx HOI.out hx)
              have HX7 := hide (HOW.out.trans hx)
              have hsz7 : wo.heap.size ≤ w7.heap.size := HX7.out.sz
              clear hHeld hms hyes hx
              rw [← HNA.out] at HO7
              go_wp2_with (at_builtin; go_must (refine wpApp2 rfl _ _ _ rfl el_CM encS encS_len encS_one (by omega) (by omega) wo.heap.size _ acc rfl (HNA.out ▸ HO7.out.alloc _) _ s _ rfl (hnew rfl) rfl (by have := HNA.out; omega) (by simp; omega) ?_); intro v9 w9 hown9 hg9 _; (have HO9 := hide hown9); (have HG9 := hide hg9); clear hown9 hg9)
              go_roundw
              case rel => exact ⟨i + 1, by omega, by go_num, by rw [HB2.out]; exact HO9.out, (HX7.out.alloc _).grown HG9.out (fun k hk => own_blk_lt HO7.out k hk)⟩
              case measure => simp [intOf]; omega
          · obtain rfl : n5 = i := by omega
            have HTL := hide (show M.take n5 = M by rw [HN5L.out, List.take_length])
            obtain ⟨acc, hacc⟩ : ∃ acc, acc = backF E x.key M := ⟨_, rfl⟩
            have HAR := hide (show acc = R x.key from hacc ▸ HRE.out x.key HK0.out _ (backF_sort HSO.out) (fun s => by rw [backF_mem, HM.out]))
            rw [HTL.out, ← hacc] at HOI hba ⊢
            have HACC := hide hacc
            clear hacc
            have HO2 := hide (own_nx HO.out (HN5.out.trans HOW.out))
            have HR2 := hide (show OwnRowsS wr wb.heap.size es from fun r hr => own_nx (HRS.out r hr) (HN5.out.trans HOW.out))
            have hwbr := (HBW.out.trans (HN5.out.trans HOW.out))
            have hsb : wb.heap.size ≤ wr.heap.size := hwbr.sz
            have HWBR := hide hwbr
            have HOB := hide (World.ownsRow.mono (base' := wb.heap.size) HOI.out (HBW.out.trans HN5.out).sz)
            rw [← HNE.out] at HO2
            clear hwbr
            go_wp2_with (at_builtin; go_must (refine wpApp2 rfl _ _ _ rfl el_RSS encRS encRS_len encRS_one (by omega) (by omega) wb.heap.size _ es rfl (HNE.out ▸ HO2.out.alloc _) _ ⟨DA, da, acc⟩ _ rfl (hnew rfl) rfl (by have := HNE.out; omega) (by simp; omega) ?_); intro v9 w9 hown9 hg9 hat9; (have HO9 := hide hown9); (have HG9 := hide hg9); clear hown9 hg9 hat9)
            go_roundw
            case rel =>
              refine ⟨j + 1, es ++ [⟨DA, da, acc⟩], by omega, by go_num, ?_, HO9.out, ?_, by have := HNE.out; simp; omega, ?_, ?_⟩
              · rw [HQ.out, HEQ.out, HAR.out]; simp
              · intro r hr
                have hI : (wr.alloc (.cells #[.slice DA acc.length da] 34)).ownsRow wb.heap.size 9 1 (.slice r.a r.l.length r.c) r.l.length (r.l.flatMap encS) := by
                  rcases List.mem_append.1 hr with hr | hr
                  · exact (HR2.out r hr).alloc _
                  · have hr : r = ⟨DA, da, acc⟩ := by simpa using hr
                    subst hr
                    exact HOB.out.alloc _
                exact hI.kept HG9.out (own_apart hI (HO2.out.alloc _) (by decide))
              · intro r hr
                rcases List.mem_append.1 hr with hr | hr
                · exact HLN.out r hr
                · have hr : r = ⟨DA, da, acc⟩ := by simpa using hr
                  subst hr
                  exact hba
              · exact (HWBR.out.alloc _).grown HG9.out (fun k hk => own_blk_lt HO2.out k hk)
            case measure => simp [intOf]; omega
      · rw [hany] at HCF
        have hT : x.key ∈ (es.map (·.l)).flatten := Classical.byContradiction fun hk => by
          have := seen_any (es.map (·.l)) x.key
          rw [hany, seenF_out hk] at this
          cases this
        have HEQ := hide (HD.out.1 hT)
        clear hany hT HD
        go_wp2_with fail
        refine HCF.out.mono ?_
        rintro e w3 ⟨rfl, hn3⟩
        go_wp2_with fail
        go_roundw
        case rel => exact ⟨j + 1, es, by omega, by go_num, by rw [HQ.out, HEQ.out], own_nx (HNE.out ▸ HO.out) (HNK2.out.trans hn3), fun r hr => own_nx (HRS.out r hr) (HNK2.out.trans hn3), by have := HNE.out; omega, HLN.out, HBW.out.trans (HNK2.out.trans hn3)⟩
        case measure => simp [intOf]; omega
    · obtain rfl : nn = j := by omega
      have hMM : es.map (·.l) = L := by rw [HQ.out, List.drop_of_length_le (by have := HNN.out; omega)]; simp [islL]
      have HMM := hide hMM
      have hle : w.heap.size ≤ wb.heap.size := by have := HSZ.out; omega
      clear hMM
      go_wp2_with fail
      go_ret
      exact ⟨.slice ZA es.length zc, rfl, es, HMM.out, World.ownsRow.mono HO.out hle, fun r hr => World.ownsRow.mono (HRS.out r hr) hle, HNB.out.trans HBW.out⟩
end Go.Proofs.YtepbamacebjopaaGreatDoor
/- Bans: the reference's check. -/
namespace Go.Proofs.YtepbamacebjopaaGreatDoor
open Go.RowKit

set_option maxRecDepth 100000 in
set_option maxHeartbeats 4000000 in
theorem w_bansFaultQ (lo' lo'' : Nat) (A B C : Option Addr) (nn ca cb cc : Nat) (rs : List Arc) (bs : List Ban) (w : World)
    (hA : RdArcs w lo' B rs) (hal : rs.length ≤ 400) (hB : Rd w lo'' C 2 encBan bs) (hbl : bs.length ≤ 400) :
    Calls Tryz.prog 51 #[.agg #[.slice A nn ca, .slice B rs.length cb, .slice C bs.length cc]] w fun e w' => e = .returned (.int .i64 (chk (banF rs) none bs)) ∧ Nx w w' := by
  obtain ⟨wa, hwa⟩ : ∃ wa, wa = w.alloc (.cells #[.slice A nn ca, .slice B rs.length cb, .slice C bs.length cc] 30) := ⟨_, rfl⟩
  have hna : Nx w wa := hwa ▸ (Nx.refl w).alloc _
  have hgw : w.heap.size < wa.heap.size := by rw [hwa]; simp
  have b0 : wa.cell? ⟨w.heap.size, 0, none⟩ = some (.slice A nn ca) := by rw [hwa]; go_simp
  have b1 : wa.cell? ⟨w.heap.size, 1, none⟩ = some (.slice B rs.length cb) := by rw [hwa]; go_simp
  have b2 : wa.cell? ⟨w.heap.size, 2, none⟩ = some (.slice C bs.length cc) := by rw [hwa]; go_simp
  have HAR := hide (fun s W (hx : Nx wa W) => w_ArcAt lo' A B C nn bs.length ca cb cc rs s W ((hA.1.nx hna).nx hx) (by omega))
  have HRA := hide (hA.nx hna).1
  have HRB := hide (hB.nx hna)
  obtain ⟨V, hV⟩ : ∃ V, V = chk (banF rs) none bs := ⟨_, rfl⟩
  have HRF := hide hV
  rw [← hV]
  clear hA hB hV
  generalize hrl : rs.length = n at *
  generalize hbl' : bs.length = m at *
  have HRL := hide hrl
  have HBL := hide hbl'
  clear hrl hbl'
  have tm : decide ((m : Int) > 1000) = false := decide_eq_false (by omega)
  have tm2 : decide ((1000 : Int) < (m : Int)) = false := decide_eq_false (by omega)
  go_enter Tryz.func51, Tryz.ntmps51
  go_wp2_with fail
  rw [← hwa]
  have HWA := hide hwa
  clear hwa
  have hbw := Nx.refl wa
  generalize w.heap.size = gb at *
  go_wp2_with fail
  go_loopw [14] (fun i wr => ∃ k : Nat, k ≤ m ∧ i = .int .i64 k ∧ Nx wa wr ∧ chk (banF rs) none bs = chk (banF rs) (prevOf bs k) (bs.drop k)) (fun i _ => m - (intOf i).toNat)
  case atStart => exact ⟨0, Nat.zero_le _, rfl, hbw, rfl⟩
  case round =>
    clear hbw
    obtain ⟨k, hk, rfl, hbw, hq⟩ := hrel
    have HQ := hide hq
    clear hq
    by_cases hlt : k < m
    · have hlt' : k < bs.length := by have := HBL.out; omega
      have HD := hide (chk_drop (banF rs) bs k hlt')
      have HV := hide (banF_at rs bs k hlt')
      have HB1 := hide (nx_cell hbw hgw b1)
      have HB2 := hide (nx_cell hbw hgw b2)
      obtain ⟨b, off, rfl, _, hb, hbr, hc⟩ := HRB.out.open_ hbw (by have := HBL.out; omega)
      have c0 : wr.cell? ⟨b, off + k * 2, none⟩ = some (.string bs[k].from_) := hc k hlt' 0 _ rfl
      have c1 : wr.cell? ⟨b, off + k * 2 + 1, none⟩ = some (.string bs[k].to_) := hc k hlt' 1 _ rfl
      have HPC := hide (fun h0 : 0 < k => And.intro (show wr.cell? ⟨b, off + (k - 1) * 2, none⟩ = some (.string (bs[k - 1]'(by omega)).from_) from hc (k - 1) (by omega) 0 _ rfl) (show wr.cell? ⟨b, off + (k - 1) * 2 + 1, none⟩ = some (.string (bs[k - 1]'(by omega)).to_) from hc (k - 1) (by omega) 1 _ rfl))
      have HPV := hide (fun h0 : 0 < k => (show banBad bs k = decide (banC bs[k] (bs[k - 1]'(by omega)) ≤ 0) by
        unfold banBad
        rw [prevOf_pos _ k h0 (by omega), List.getD_eq_getElem?_getD, List.getElem?_eq_getElem hlt']; rfl))
      have HP0 := hide (fun h0 : k = 0 => (show banBad bs k = false by subst h0; rfl))
      clear hc
      generalize bs[k] = x at *
      generalize banBad bs k = bad at *
      go_upto_region 6 with fail
      obtain ⟨wk, hwk⟩ : ∃ wk, wk = wr.alloc (.cells #[.string x.from_, .string x.to_] 80) := ⟨_, rfl⟩
      have hnk : Nx wr wk := hwk ▸ (Nx.refl wr).alloc _
      have hsk : wr.heap.size < wk.heap.size := by rw [hwk]; simp
      have d0 : wk.cell? ⟨wr.heap.size, 0, none⟩ = some (.string x.from_) := by rw [hwk]; go_simp
      have d1 : wk.cell? ⟨wr.heap.size, 1, none⟩ = some (.string x.to_) := by rw [hwk]; go_simp
      rw [← hwk]
      have HWK := hide hwk
      clear hwk c0 c1
      have hnx := hbw.trans hnk
      have hgk := Nat.lt_of_lt_of_le hgw hnx.sz
      have bb0 := nx_cell hnx hgw b0
      have bb1 := nx_cell hnx hgw b1
      have bb2 := nx_cell hnx hgw b2
      obtain ⟨bx, hbx⟩ : ∃ bx, bx = wr.heap.size := ⟨_, rfl⟩
      rw [← hbx] at hsk d0 d1 ⊢
      have HBX := hide hbx
      clear hbx
      generalize hx1 : x.from_ = x1 at *
      generalize hx2 : x.to_ = x2 at *
      have HX := hide (And.intro hx1 hx2)
      clear hx1 hx2
      go_cut [5, 6] (fun v9 v10 wx => v9 = .int .i64 (arcI rs x1) ∧ v10 = .int .i64 (arcI rs x2) ∧ Nx wk wx)
      case first =>
        go_region_held3 (fun w' => w'.cell? ⟨bx, 0, none⟩ = some (.string x1) ∧ w'.cell? ⟨bx, 1, none⟩ = some (.string x2) ∧ w'.cell? ⟨gb, 0, none⟩ = some (.slice A nn ca) ∧ w'.cell? ⟨gb, 1, none⟩ = some (.slice B n cb) ∧ w'.cell? ⟨gb, 2, none⟩ = some (.slice (some ⟨b, off, none⟩) m cc))
          (first | (go_split_ands; exact ⟨nx_cell hn3 (Nat.lt_of_lt_of_le hsk hn2.sz) ‹_›, nx_cell hn3 (Nat.lt_of_lt_of_le hsk hn2.sz) ‹_›, nx_cell hn3 (Nat.lt_of_lt_of_le hgk hn2.sz) ‹_›, nx_cell hn3 (Nat.lt_of_lt_of_le hgk hn2.sz) ‹_›, nx_cell hn3 (Nat.lt_of_lt_of_le hgk hn2.sz) ‹_›⟩) | (go_split_ands; exact ⟨nx_cell hn2 hsk ‹_›, nx_cell hn2 hsk ‹_›, nx_cell hn2 hgk ‹_›, nx_cell hn2 hgk ‹_›, nx_cell hn2 hgk ‹_›⟩) | go_keep)
          (first
            | (go_at_call 66; refine (HAR.out _ _ (hnx.drew.trans hn2)).mono ?_; rintro e w3 ⟨rfl, hn3⟩)
            | (go_at_call 66; refine (HAR.out _ _ hnx.drew).mono ?_; rintro e w2 ⟨rfl, hn2⟩))
        go_wp2
        go_meet
        exact ⟨rfl, rfl, ((Nx.refl wk).drew.trans hn2).trans hn3⟩
      case rest =>
        obtain ⟨rfl, rfl, hx1⟩ := hcut
        have hnx1 := hnx.trans hx1
        clear bb0 bb1 bb2
        have HG := hide (show banG rs x = if arcI rs x1 < 0 ∨ arcI rs x2 < 0 then 8 else if (arcAt rs x1).to_ = (arcAt rs x2).from_ then 0 else 3 by unfold banG; rw [HX.out.1, HX.out.2])
        by_cases hf : arcI rs x1 < 0
        · have tf : decide (arcI rs x1 < 0) = true := decide_eq_true hf
          have HG8 := hide (HG.out.trans (if_pos (.inl hf)))
          clear hf d0 d1
          go_wp2_with fail
          go_ret
          exact ⟨ret_int (by rw [HRF.out, HQ.out, HD.out, HV.out, HG8.out]; rfl), hna.trans hnx1⟩
        by_cases ht : arcI rs x2 < 0
        · have tf : decide (arcI rs x1 < 0) = false := decide_eq_false hf
          have tt : decide (arcI rs x2 < 0) = true := decide_eq_true ht
          have HG8 := hide (HG.out.trans (if_pos (.inr ht)))
          clear hf ht d0 d1
          go_wp2_with fail
          go_ret
          exact ⟨ret_int (by rw [HRF.out, HQ.out, HD.out, HV.out, HG8.out]; rfl), hna.trans hnx1⟩
        obtain ⟨i, hi, ei⟩ : ∃ i : Nat, i < rs.length ∧ arcI rs x1 = (i : Int) := by
          rcases findI_bd (fun n : Arc => decide (n.key = x1)) rs with h | h
          · exact absurd (show arcI rs x1 < 0 by unfold arcI; omega) hf
          · exact h
        obtain ⟨j, hj, ej⟩ : ∃ i : Nat, i < rs.length ∧ arcI rs x2 = (i : Int) := by
          rcases findI_bd (fun n : Arc => decide (n.key = x2)) rs with h | h
          · exact absurd (show arcI rs x2 < 0 by unfold arcI; omega) ht
          · exact h
        have HG2 := hide (show banG rs x = if rs[i].to_ = rs[j].from_ then 0 else 3 by
          rw [HG.out, if_neg (by omega)]
          unfold arcAt
          rw [ei, ej, List.getD_eq_getElem?_getD, List.getD_eq_getElem?_getD, List.getElem?_eq_getElem (show (i : Int).toNat < rs.length from hi), List.getElem?_eq_getElem (show (j : Int).toNat < rs.length from hj)]
          rfl)
        rw [ei, ej]
        clear hf ht HG ei ej
        have B1 := nx_cell hnx1 hgw b1
        obtain ⟨ba, offa, rfl, _, hba, hbar, hca⟩ := HRA.out.open_ hnx1 (by omega)
        have a1 : wc.cell? ⟨ba, offa + i * 5 + 2, none⟩ = some (.string rs[i].to_) := hca i hi 2 _ rfl
        have a2 : wc.cell? ⟨ba, offa + j * 5 + 1, none⟩ = some (.string rs[j].from_) := hca j hj 1 _ rfl
        have hin : i < n := by have := HRL.out; omega
        have hjn : j < n := by have := HRL.out; omega
        have D0 := hide (nx_cell hx1 hsk d0)
        have D1 := hide (nx_cell hx1 hsk d1)
        clear hca d0 d1
        generalize rs[i].to_ = r1 at *
        generalize rs[j].from_ = r2 at *
        go_upto_region 9 with fail
        have i1 : (0 : Int) ≤ (i : Int) := by omega
        have i2 : (i : Int) < (n : Int) := by omega
        have i3 : (0 : Int) ≤ (j : Int) := by omega
        have i4 : (j : Int) < (n : Int) := by omega
        by_cases heq : r1 = r2
        · have te : (r1.toList == r2.toList) = true := by rw [eqS_iff]; exact decide_eq_true heq
          have HG3 := hide (HG2.out.trans (if_pos heq))
          clear heq HG2
          rw [HG3.out, if_pos rfl] at HV
          go_quiet (fail)
          clear i1 i2 i3 i4 a1 a2 te
          go_upto_region 11 with fail
          have hnx2 : Nx wa (wc.drewN nq) := hnx1.drewN _
          have E0 : (wc.drewN nq).cell? ⟨bx, 0, none⟩ = some (.string x1) := D0.out
          have E1 : (wc.drewN nq).cell? ⟨bx, 1, none⟩ = some (.string x2) := D1.out
          have hsk2 : bx < (wc.drewN nq).heap.size := Nat.lt_of_lt_of_le hsk hx1.sz
          have HWK2 := hide (hnk.trans (hx1.drewN nq))
          generalize wc.drewN nq = wd at *
          clear B1 D0 D1
          go_cut [48] (fun v wx => v = .bool bad ∧ Nx wd wx)
          case first =>
            by_cases hk0 : 0 < k
            · have p1 := nx_cell HWK2.out hbr (HPC.out hk0).1
              have p2 := nx_cell HWK2.out hbr (HPC.out hk0).2
              have B2 := nx_cell HWK2.out (Nat.lt_of_lt_of_le hgw hbw.sz) HB2.out
              have hbw2 := Nat.lt_of_lt_of_le hbr HWK2.out.sz
              have hgw2 := Nat.lt_of_lt_of_le (Nat.lt_of_lt_of_le hgw hbw.sz) HWK2.out.sz
              have hpv := HPV.out hk0
              have hxe : x = ⟨x1, x2⟩ := by obtain ⟨h1, h2⟩ := HX.out; rw [← h1, ← h2]
              rw [hxe] at hpv
              have hkz : k - 1 < bs.length := by have := HBL.out; omega
              generalize (bs[k - 1]'(by omega)) = q at *
              obtain ⟨q1, q2⟩ := q
              have k1 : IntKind.i64.wrap ((k : Int) - 1) = (k : Int) - 1 := IntWalk.i64_in _ (by omega)
              have k2 : (1 : Int) ≤ (k : Int) := by omega
              have k3 : ((k : Int) - 1).toNat = k - 1 := by omega
              have k4 : (k : Int) - 1 < (m : Int) := by omega
              have kp : decide ((k : Int) > 0) = true := decide_eq_true (by omega)
              have kp2 : decide ((0 : Int) < (k : Int)) = true := decide_eq_true (by omega)
              have t1 : decide (0 ≤ banC ⟨q1, q2⟩ ⟨x1, x2⟩) = bad := by rw [hpv]; exact decide_eq_decide.2 (banC_anti _ _).symm
              have HOR := hide (fun g c W (hg : W.heap[g]? = some (.cells #[.int .i64 (cmpS q1 x1), .int .i64 (cmpS q2 x2)] 3 (0, 0))) => w_OrI2 _ _ g c W hg)
              rw [show (if cmpS q1 x1 = 0 then cmpS q2 x2 else cmpS q1 x1) = banC ⟨q1, q2⟩ ⟨x1, x2⟩ from rfl] at HOR
              clear hpv
              generalize banC ⟨q1, q2⟩ ⟨x1, x2⟩ = bz at *
              go_region_held3 (fun w' => w'.cell? ⟨bx, 0, none⟩ = some (.string x1) ∧ w'.cell? ⟨bx, 1, none⟩ = some (.string x2) ∧ w'.cell? ⟨b, off + (k - 1) * 2, none⟩ = some (.string q1) ∧ w'.cell? ⟨b, off + (k - 1) * 2 + 1, none⟩ = some (.string q2) ∧ w'.cell? ⟨gb, 2, none⟩ = some (.slice (some ⟨b, off, none⟩) m cc))
                (go_keep)
                (first
                  | (go_at_call 77; refine (w_CompareS _ _ _).mono ?_; rintro e w' ⟨rfl, rfl⟩)
                  | (go_at_call 96; refine (HOR.out _ _ _ (hnew_drew rfl)).mono ?_; rintro e w' ⟨rfl, rfl⟩))
              go_wp2
              go_meet
              exact ⟨rfl, ((Nx.refl wd).alloc _).drew⟩
            · have kp : decide ((k : Int) > 0) = false := decide_eq_false (by omega)
              have kp2 : decide ((0 : Int) < (k : Int)) = false := decide_eq_false (by omega)
              have hb0 := HP0.out (by omega)
              go_quiet (fail)
              go_wp2
              go_meet
              exact ⟨by rw [hb0], (Nx.refl _).drewN _⟩
          case rest =>
            obtain ⟨rfl, hx2⟩ := hcut
            cases hbd : bad
            · rw [hbd, if_neg (by simp)] at HV
              go_wp2_with fail
              go_roundw
              case rel => exact ⟨k + 1, by omega, by go_num, hnx2.trans hx2, by rw [HQ.out, HD.out, HV.out, if_pos rfl]⟩
              case measure => simp [intOf]; omega
            · rw [hbd, if_pos rfl] at HV
              go_wp2_with fail
              go_ret
              exact ⟨ret_int (by rw [HRF.out, HQ.out, HD.out, HV.out]; rfl), hna.trans (hnx2.trans hx2)⟩
        · have te : (r1.toList == r2.toList) = false := by rw [eqS_iff]; exact decide_eq_false heq
          have HG3 := hide (HG2.out.trans (if_neg heq))
          clear heq HG2
          rw [HG3.out] at HV
          go_quiet (fail)
          clear i1 i2 i3 i4
          go_wp2_with fail
          go_ret
          exact ⟨ret_int (by rw [HRF.out, HQ.out, HD.out, HV.out]; rfl), hna.trans (hnx1.drewN _)⟩
    · go_wp2
      go_ret
      exact ⟨ret_int (by rw [HRF.out, HQ.out, List.drop_of_length_le (by have := HBL.out; omega)]; rfl), hna.trans hbw⟩
end Go.Proofs.YtepbamacebjopaaGreatDoor
