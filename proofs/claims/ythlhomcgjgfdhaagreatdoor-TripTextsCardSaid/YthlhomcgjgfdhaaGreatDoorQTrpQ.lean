/- Trips read: the closure of the reference's JourneysRead. -/
import Derived.Test.YthlhomcgjgfdhaaGreatDoorQG16
import Derived.Test.YthlhomcgjgfdhaaGreatDoorQIntR
import Derived.Deep.DeepCutAuto
import Derived.Deep.AppendLies
import Derived.Deep.RegionHeld
import Derived.RegionTactic
namespace Go.Proofs.YthlhomcgjgfdhaaGreatDoor
open Go.RowKit

set_option maxRecDepth 100000 in
set_option maxHeartbeats 4000000 in
theorem w_ReadJ2 (b : Nat) (w1 : World) (d : List ByteArray) (line : ByteArray) (W : World) (hM : MaxI W) (hT : PowTab W) (hs : line.size ≤ 1900) (hd : d.length ≤ 1900) (hg : Gr b w1 W) (h : IJ b w1 d W) :
    Calls Tryz.prog 79 #[.string line, .pointer (some ⟨b, 0, none⟩)] W fun e w' => e = .returned (.bool (okLJ line)) ∧ Gr b w1 w' ∧ (okLJ line = true → IJ b w1 (d ++ [line]) w') := by
  obtain ⟨L, v, hdl, hbox, hown, hrow, hbw⟩ := h
  have hLb : L.length ≤ 1900 := by have h := congrArg List.length hdl; rw [List.length_map, List.length_map] at h; omega
  have HDL := hide hdl
  have HBOX := hide hbox
  have HOWN := hide hown
  have HROW := hide hrow
  have HG := hide hg
  have hW1 := hg.sz
  have HM := hide hM
  have HTB := hide hT
  clear hT
  have HW := hide (w_SplitO line 32 (by omega) W hM)
  clear hM hdl hbox hown hrow hg
  go_enter Tryz.func79, Tryz.ntmps79
  go_upto_region 2 with (go_at_call 70; refine HW.out.mono ?_; rintro e w0 ⟨ws, B, hwd, rfl, howw, hwle, hwz, hn0⟩)
  have HWD := hide (show wordsL 6 line.data.toList = if ws.length = 6 ∧ [] ∉ dataL ws then some (dataL ws) else none by
    unfold wordsL
    simp only [← hwd, dataL_len])
  have HRw := hide (rd_ownv encS_len rfl howw)
  have HN0 := hide hn0
  have HC0 := hide (w_ContS W.heap.size B ws.length ws ⟨#[]⟩ w0 HRw.out (by omega))
  obtain ⟨n, hn⟩ : ∃ n, n = ws.length := ⟨_, rfl⟩
  rw [← hn] at HC0 hwle ⊢
  have HNL := hide hn
  clear hwd howw hn0 hn HW
  by_cases hmb : memB ws ⟨#[]⟩ = true
  · have HF := hide (okLJ_no (by rw [HWD.out, if_neg (fun h => h.2 (mem_nil.1 hmb))]))
    rw [hmb] at HC0
    clear hmb
    go_wp2_with (go_at_call 78; refine HC0.out.mono ?_; rintro e w2 ⟨rfl, hn2⟩)
    go_ret
    exact ⟨by rw [HF.out]; rfl, HG.out.then_nx (HN0.out.trans hn2), fun h => by rw [HF.out] at h; cases h⟩
  have hmb0 : memB ws ⟨#[]⟩ = false := by simpa using hmb
  rw [hmb0] at HC0
  by_cases h6 : n = 6
  rotate_left
  · have HF := hide (okLJ_no (by rw [HWD.out, if_neg (fun h => h6 (HNL.out.trans h.1))]))
    have t1 : ((n : Int) != 6) = true := by simp; omega
    clear hmb hmb0 h6
    go_wp2_with (go_at_call 78; refine HC0.out.mono ?_; rintro e w2 ⟨rfl, hn2⟩)
    go_ret
    exact ⟨by rw [HF.out]; rfl, HG.out.then_nx (HN0.out.trans hn2), fun h => by rw [HF.out] at h; cases h⟩
  subst h6
  obtain ⟨s0, s1, s2, s3, s4, s5, rfl⟩ : ∃ s0 s1 s2 s3 s4 s5, ws = [s0, s1, s2, s3, s4, s5] := by
    match ws, HNL.out with
    | [s0, s1, s2, s3, s4, s5], _ => exact ⟨_, _, _, _, _, _, rfl⟩
  have hws : wordsL 6 line.data.toList = some (dataL [s0, s1, s2, s3, s4, s5]) := by rw [HWD.out, if_pos ⟨rfl, fun h => hmb (mem_nil.2 h)⟩]
  clear hmb hmb0 HWD HNL
  go_upto_region 4 with (go_at_call 78; refine HC0.out.mono ?_; rintro e w2 ⟨rfl, hn2⟩)
  have hn02 := hn2
  replace hn2 := HN0.out.trans hn2
  have hRw : Rd w2 W.heap.size B 1 encS [s0, s1, s2, s3, s4, s5] := HRw.out.nx hn02
  clear HC0 hn02
  obtain ⟨bb, off, rfl, hlo, hbb, _, hc⟩ := hRw.open_ (Nx.refl w2) (by simp)
  have q0 : w2.cell? ⟨bb, off, none⟩ = some (.string s0) := by have h := hc 0 (by simp) 0 _ rfl; simpa using h
  have q1 : w2.cell? ⟨bb, off + 1, none⟩ = some (.string s1) := by have h := hc 1 (by simp) 0 _ rfl; simpa using h
  have q5 : w2.cell? ⟨bb, off + 5, none⟩ = some (.string s5) := by have h := hc 5 (by simp) 0 _ rfl; simpa using h
  have hz0 := hwz s0 (by simp)
  have hz1 := hwz s1 (by simp)
  have hz5 := hwz s5 (by simp)
  have HRD := hide (readJ_words hws)
  have hsub : Rd w2 W.heap.size (some ⟨bb, off + 2, none⟩) 1 encS [s2, s3, s4] := hRw.sub 2 3
  have HNM := hide (w_Ints W.heap.size (some ⟨bb, off + 2, none⟩) 4 [s2, s3, s4] 12 (by omega) (by simp) (fun s h => Nat.le_trans (hwz s (by simp only [List.mem_cons, List.not_mem_nil, or_false] at h ⊢; rcases h with rfl | rfl | rfl <;> simp)) (by omega)) w2 hsub (tab_nx HTB.out hn2))
  have HSP := hide (fun W' (h : Nx W W') => w_SplitO s5 44 (by omega) W' (HM.out.nx h))
  have HN2 := hide hn2
  have hsz2 := hn2.sz
  clear hc hRw hsub hws hwz hn2 HM
  go_upto_region 5 with (go_at_call 69; refine HNM.out.mono ?_; rintro e w3 ⟨hnn, hn3⟩; rcases hnn with ⟨hno, rfl⟩ | ⟨ns, B3, c3, hns, rfl, hR3⟩)
  · have HF := hide (HRD.out.1 hno)
    have q53 := nx_cell hn3 hbb q5
    have HN3 := hide (HN2.out.trans hn3)
    clear hno hn3 HNM q0 q1 q5
    go_wp2_with (go_at_call 70; refine (HSP.out _ HN3.out).mono ?_; rintro e w4 ⟨ws4, B4, _, rfl, _, _, _, hn4⟩)
    go_ret
    exact ⟨by rw [HF.out]; rfl, HG.out.then_nx (HN3.out.trans hn4), fun h => by rw [HF.out] at h; cases h⟩
  have hl3 : ns.length = 3 := by have h := numsS_len hns; simpa using h
  obtain ⟨m, x, y, rfl⟩ : ∃ m x y, ns = [m, x, y] := by
    match ns, hl3 with
    | [m, x, y], _ => exact ⟨_, _, _, rfl⟩
  obtain ⟨b3, o3, rfl, hlo3, hb3, _, hc⟩ := hR3.open_ (Nx.refl w3) (by simp)
  have c0 : w3.cell? ⟨b3, o3, none⟩ = some (.int .i64 m) := by have h := hc 0 (by simp) 0 _ rfl; simpa using h
  have c1' : w3.cell? ⟨b3, o3 + 1, none⟩ = some (.int .i64 x) := by have h := hc 1 (by simp) 0 _ rfl; simpa using h
  have c2 : w3.cell? ⟨b3, o3 + 2, none⟩ = some (.int .i64 y) := by have h := hc 2 (by simp) 0 _ rfl; simpa using h
  have p0 := nx_cell hn3 hbb q0
  have p1 := nx_cell hn3 hbb q1
  have q53 := nx_cell hn3 hbb q5
  have hsz3 := hn3.sz
  have HN3 := hide (HN2.out.trans hn3)
  have HRN := hide (HRD.out.2 m x y)
  have HNS := hide hns
  clear hc hR3 hns hl3 hn3 HNM HRD q0 q1 q5
  have hbb3 : bb < w3.heap.size := by omega
  go_upto_region 6 with (go_at_call 70; refine (HSP.out _ HN3.out).mono ?_; rintro e w4 ⟨ws4, B4, hwd4, rfl, hown4, hwl4, hwz4, hn4⟩)
  have HRQ := hide (HRN.out ws4 HNS.out hwd4)
  have HN4 := hide (HN3.out.trans hn4)
  have HO4 := hide hown4
  have HZ4 := hide hwz4
  have HC4 := hide (w_ContS w3.heap.size B4 ws4.length ws4 ⟨#[]⟩ w4 (rd_ownv encS_len rfl hown4) (by omega))
  have p0 := nx_cell hn4 hbb3 p0
  have p1 := nx_cell hn4 hbb3 p1
  have c0 := nx_cell hn4 hb3 c0
  have c1' := nx_cell hn4 hb3 c1'
  have c2 := nx_cell hn4 hb3 c2
  have hsz4 := hn4.sz
  obtain ⟨n4, hn4'⟩ : ∃ n4, n4 = ws4.length := ⟨_, rfl⟩
  have HL4 := hide hn4'
  rw [← hn4'] at HC4 hwl4 HO4 ⊢
  clear hwd4 hown4 hwz4 hn4 hn4' HRN HNS
  have hbb4 : bb < w4.heap.size := by omega
  have hb34 : b3 < w4.heap.size := by omega
  cases hmb : memB ws4 ⟨#[]⟩ with
  | true =>
    have HF := hide (HRQ.out.1 hmb)
    rw [hmb] at HC4
    clear hmb HRQ
    go_wp2_with (go_at_call 78; refine HC4.out.mono ?_; rintro e w5 ⟨rfl, hn5⟩)
    go_ret
    exact ⟨by rw [HF.out]; rfl, HG.out.then_nx (HN4.out.trans hn5), fun h => by rw [HF.out] at h; cases h⟩
  | false =>
    have HRT := hide (HRQ.out.2 hmb)
    have HF := hide (okLJ_yes (HRQ.out.2 hmb none 0))
    rw [hmb] at HC4
    clear hmb HRQ
    go_upto_region 8 with (go_at_call 78; refine HC4.out.mono ?_; rintro e w5 ⟨rfl, hn5⟩)
    have p0 := nx_cell hn5 hbb4 p0
    have p1 := nx_cell hn5 hbb4 p1
    have c0 := nx_cell hn5 hb34 c0
    have c1' := nx_cell hn5 hb34 c1'
    have c2 := nx_cell hn5 hb34 c2
    have HN5 := hide (HN4.out.trans hn5)
    have hblt : b < W.heap.size := Nat.lt_of_lt_of_le hbw hW1
    have HB5 := hide ((HN5.out.block b hblt).trans HBOX.out)
    have HO5 := hide (own_nx HOWN.out HN5.out)
    have HW5 := hide (own_nx HO4.out hn5)
    have HRO := hide (fun z hz => (HROW.out z hz).nx HN5.out)
    obtain ⟨A1, c1, ev, _, _⟩ := Rd.of_own encJ_len rfl HOWN.out
    obtain rfl := ev
    have d0 : w5.cell? ⟨b, 0, none⟩ = some (.slice A1 L.length c1) := cell_of_row w5 b 0 _ _ _ HB5.out
    have hsz5 := hn5.sz
    have d0a : ∀ o, (w5.alloc o).cell? ⟨b, 0, none⟩ = some (.slice A1 L.length c1) := fun o => nx_cell ((Nx.refl w5).alloc o) (by omega) d0
    clear hn5 HC4
    obtain ⟨iE, zE, e1, e2, e3, e4, e5⟩ := el_JourS.hi
    have E1 := hide e1
    have E2 := hide e2
    have E3 := hide e3
    have E4 := hide e4
    have E5 := hide e5
    clear e1 e2 e3 e4 e5
    have HO3d := hide (show w5.drew.ownsRow w1.heap.size 71 6 (.slice A1 L.length c1) L.length (L.flatMap encJ) from HO5.out)
    have HW5d := hide (show w5.drew.ownsRow w3.heap.size 9 1 (.slice B4 n4 n4) n4 (ws4.flatMap encS) from HW5.out)
    have HROd := hide (show ∀ z ∈ L, JRd w5.drew w1.heap.size z from fun z hz => (HRO.out z hz).nx (Nx.refl w5).drew)
    have HB3d := hide (show w5.drew.heap[b]? = some (.cells #[.slice A1 L.length c1] 58 (0, 0)) from HB5.out)
    have HN3d := hide (show Nx W w5.drew from HN5.out.drew)
    have d0d : w5.drew.cell? ⟨b, 0, none⟩ = some (.slice A1 L.length c1) := d0
    have d0b : ∀ o, (w5.drew.alloc o).cell? ⟨b, 0, none⟩ = some (.slice A1 L.length c1) := d0a
    have hbd : b < w5.drew.heap.size := Nat.lt_of_lt_of_le hblt HN5.out.sz
    have hbbd : bb < w5.drew.heap.size := Nat.lt_of_lt_of_le hbb4 hsz5
    have hb3d : b3 < w5.drew.heap.size := Nat.lt_of_lt_of_le hb34 hsz5
    have hWd : W.heap.size ≤ w5.drew.heap.size := HN5.out.sz
    have hSd : (fun w' : World => w'.cell? ⟨bb, off, none⟩ = some (.string s0) ∧ w'.cell? ⟨bb, off + 1, none⟩ = some (.string s1) ∧ w'.cell? ⟨b3, o3, none⟩ = some (.int .i64 m) ∧ w'.cell? ⟨b3, o3 + 1, none⟩ = some (.int .i64 x) ∧ w'.cell? ⟨b3, o3 + 2, none⟩ = some (.int .i64 y)) w5.drew := ⟨p0, p1, c0, c1', c2⟩
    have hnb : some bb ≠ (Value.slice A1 L.length c1).ownBlock := fun e => by have := (HOWN.out.lt bb e.symm).2; omega
    have hnb3 : some b3 ≠ (Value.slice A1 L.length c1).ownBlock := fun e => by have := (HOWN.out.lt b3 e.symm).2; omega
    have hbbb : bb ≠ b := by omega
    have hb3b : b3 ≠ b := by omega
    clear p0 p1 c0 c1' c2 d0 d0a q53
    refine wp_region_held_drew (S := fun w' : World => w'.cell? ⟨bb, off, none⟩ = some (.string s0) ∧ w'.cell? ⟨bb, off + 1, none⟩ = some (.string s1) ∧ w'.cell? ⟨b3, o3, none⟩ = some (.int .i64 m) ∧ w'.cell? ⟨b3, o3 + 1, none⟩ = some (.int .i64 x) ∧ w'.cell? ⟨b3, o3 + 2, none⟩ = some (.int .i64 y)) (by kernel_rfl) hSd (fun hHeld => ?_)
    generalize w5.drew = wd at *
    refine wpAnyH_take (i := 1) (oi := ⟨some 34, _, _, _, _, _⟩) (v := ?_) rfl (by kernel_rfl) (by kernel_rfl) (by kernel_rfl) (fun _ _ _ h => h) (Or.inl ⟨by rfl, ?_⟩) (by assumption) ?_
    rotate_left 1
    · intro w hSw
      (try dsimp only at hSw)
      go_simp
      try with_reducible rfl
    try simp only [Act.put, List.setIfInBounds_toArray, List.set_cons_zero, List.set_cons_succ]
    refine wpAnyH_take (i := 2) (oi := ⟨some 35, _, _, _, _, _⟩) (v := ?_) rfl (by kernel_rfl) (by kernel_rfl) (by kernel_rfl) (fun _ _ _ h => h) (Or.inl ⟨by rfl, ?_⟩) (by assumption) ?_
    rotate_left 1
    · intro w hSw
      (try dsimp only at hSw)
      go_simp
      try with_reducible rfl
    try simp only [Act.put, List.setIfInBounds_toArray, List.set_cons_zero, List.set_cons_succ]
    refine wpAnyH_take (i := 3) (oi := ⟨some 36, _, _, _, _, _⟩) (v := ?_) rfl (by kernel_rfl) (by kernel_rfl) (by kernel_rfl) (fun _ _ _ h => h) (Or.inl ⟨by rfl, ?_⟩) (by assumption) ?_
    rotate_left 1
    · intro w hSw
      (try dsimp only at hSw)
      go_simp
      try with_reducible rfl
    try simp only [Act.put, List.setIfInBounds_toArray, List.set_cons_zero, List.set_cons_succ]
    refine wpAnyH_take (i := 4) (oi := ⟨some 37, _, _, _, _, _⟩) (v := ?_) rfl (by kernel_rfl) (by kernel_rfl) (by kernel_rfl) (fun _ _ _ h => h) (Or.inl ⟨by rfl, ?_⟩) (by assumption) ?_
    rotate_left 1
    · intro w hSw
      (try dsimp only at hSw)
      go_simp
      try with_reducible rfl
    try simp only [Act.put, List.setIfInBounds_toArray, List.set_cons_zero, List.set_cons_succ]
    refine wpAnyH_take (i := 5) (oi := ⟨some 38, _, _, _, _, _⟩) (v := ?_) rfl (by kernel_rfl) (by kernel_rfl) (by kernel_rfl) (fun _ _ _ h => h) (Or.inl ⟨by rfl, ?_⟩) (by assumption) ?_
    rotate_left 1
    · intro w hSw
      (try dsimp only at hSw)
      go_simp
      try with_reducible rfl
    try simp only [Act.put, List.setIfInBounds_toArray, List.set_cons_zero, List.set_cons_succ]
    refine wpAnyH_take (i := 6) (oi := ⟨some 39, _, _, _, _, _⟩) (v := ?_) rfl (by kernel_rfl) (by kernel_rfl) (by kernel_rfl) (fun _ _ _ h => h) (Or.inl ⟨by rfl, ?_⟩) (by assumption) ?_
    rotate_left 1
    · intro w hSw
      (try dsimp only at hSw)
      go_simp
      try with_reducible rfl
    try simp only [Act.put, List.setIfInBounds_toArray, List.set_cons_zero, List.set_cons_succ]
    refine wpAnyH_take (i := 7) (oi := ⟨some 40, _, _, _, _, _⟩) (v := ?_) rfl (by kernel_rfl) (by kernel_rfl) (by kernel_rfl) (fun _ _ _ h => h) (Or.inl ⟨by rfl, ?_⟩) (by assumption) ?_
    rotate_left 1
    · intro w hSw
      (try dsimp only at hSw)
      go_simp
      try with_reducible rfl
    try simp only [Act.put, List.setIfInBounds_toArray, List.set_cons_zero, List.set_cons_succ]
    refine wpAnyH_take (i := 8) (oi := ⟨some 41, _, _, _, _, _⟩) (v := ?_) rfl (by kernel_rfl) (by kernel_rfl) (by kernel_rfl) (fun _ _ _ h => h) (Or.inl ⟨by rfl, ?_⟩) (by assumption) ?_
    rotate_left 1
    · intro w hSw
      (try dsimp only at hSw)
      go_simp
      try with_reducible rfl
    try simp only [Act.put, List.setIfInBounds_toArray, List.set_cons_zero, List.set_cons_succ]
    refine wpAnyH_take (i := 9) (oi := ⟨some 42, _, _, _, _, _⟩) (v := ?_) rfl (by kernel_rfl) (by kernel_rfl) (by kernel_rfl) (fun _ _ _ h => h) (Or.inl ⟨by rfl, ?_⟩) (by assumption) ?_
    rotate_left 1
    · intro w hSw
      (try dsimp only at hSw)
      go_simp
      try with_reducible rfl
    try simp only [Act.put, List.setIfInBounds_toArray, List.set_cons_zero, List.set_cons_succ]
    refine wpAnyH_take (i := 10) (oi := ⟨some 43, _, _, _, _, _⟩) (v := ?_) rfl (by kernel_rfl) (by kernel_rfl) (by kernel_rfl) (fun _ _ _ h => h) (Or.inl ⟨by rfl, ?_⟩) (by assumption) ?_
    rotate_left 1
    · intro w hSw
      (try dsimp only at hSw)
      go_simp
      try with_reducible rfl
    try simp only [Act.put, List.setIfInBounds_toArray, List.set_cons_zero, List.set_cons_succ]
    refine wpAnyH_take (i := 11) (oi := ⟨some 44, _, _, _, _, _⟩) (v := ?_) rfl (by kernel_rfl) (by kernel_rfl) (by kernel_rfl) (fun _ _ _ h => h) (Or.inl ⟨by rfl, ?_⟩) (by assumption) ?_
    rotate_left 1
    · intro w hSw
      (try dsimp only at hSw)
      go_simp
      try with_reducible rfl
    try simp only [Act.put, List.setIfInBounds_toArray, List.set_cons_zero, List.set_cons_succ]
    refine wpAnyH_take (i := 12) (oi := ⟨some 45, _, _, _, _, _⟩) (v := ?_) rfl (by kernel_rfl) (by kernel_rfl) (by kernel_rfl) (fun _ _ _ h => h) (Or.inl ⟨by rfl, ?_⟩) (by assumption) ?_
    rotate_left 1
    · intro w hSw
      (try dsimp only at hSw)
      go_simp
      try with_reducible rfl
    try simp only [Act.put, List.setIfInBounds_toArray, List.set_cons_zero, List.set_cons_succ]
    refine wpAnyH_take (i := 13) (oi := ⟨some 46, _, _, _, _, _⟩) (v := ?_) rfl (by kernel_rfl) (by kernel_rfl) (by kernel_rfl) (fun _ _ _ h => h) (Or.inl ⟨by rfl, ?_⟩) (by assumption) ?_
    rotate_left 1
    · intro w hSw
      (try dsimp only at hSw)
      go_simp
      try with_reducible rfl
    try simp only [Act.put, List.setIfInBounds_toArray, List.set_cons_zero, List.set_cons_succ]
    refine wpAnyH_take (i := 14) (oi := ⟨some 47, _, _, _, _, _⟩) (v := ?_) rfl (by kernel_rfl) (by kernel_rfl) (by kernel_rfl) (fun _ _ _ h => h) (Or.inl ⟨by rfl, ?_⟩) (by assumption) ?_
    rotate_left 1
    · intro w hSw
      (try dsimp only at hSw)
      go_simp
      try with_reducible rfl
    try simp only [Act.put, List.setIfInBounds_toArray, List.set_cons_zero, List.set_cons_succ]
    refine wpAnyH_take (i := 15) (oi := ⟨some 48, _, _, _, _, _⟩) (v := ?_) rfl (by kernel_rfl) (by kernel_rfl) (by kernel_rfl) (fun _ _ _ h => h) (Or.inl ⟨by rfl, ?_⟩) (by assumption) ?_
    rotate_left 1
    · intro w hSw
      (try dsimp only at hSw)
      go_simp
      try with_reducible rfl
    try simp only [Act.put, List.setIfInBounds_toArray, List.set_cons_zero, List.set_cons_succ]
    refine wpAnyH_take (i := 16) (oi := ⟨some 49, _, _, _, _, _⟩) (v := ?_) rfl (by kernel_rfl) (by kernel_rfl) (by kernel_rfl) (fun _ _ _ h => h) (Or.inl ⟨by rfl, ?_⟩) (by assumption) ?_
    rotate_left 1
    · intro w hSw
      (try dsimp only at hSw)
      go_simp
      try with_reducible rfl
    try simp only [Act.put, List.setIfInBounds_toArray, List.set_cons_zero, List.set_cons_succ]
    refine wpAnyH_take (i := 17) (oi := ⟨some 50, _, _, _, _, _⟩) (v := ?_) rfl (by kernel_rfl) (by kernel_rfl) (by kernel_rfl) (fun _ _ _ h => h) (Or.inl ⟨by rfl, ?_⟩) (by assumption) ?_
    rotate_left 1
    · intro w hSw
      (try dsimp only at hSw)
      go_simp
      try with_reducible rfl
    try simp only [Act.put, List.setIfInBounds_toArray, List.set_cons_zero, List.set_cons_succ]
    refine wpAnyH_take (i := 18) (oi := ⟨some 51, _, _, _, _, _⟩) (v := ?_) rfl (by kernel_rfl) (by kernel_rfl) (by kernel_rfl) (fun _ _ _ h => h) (Or.inl ⟨by rfl, ?_⟩) (by assumption) ?_
    rotate_left 1
    · intro w hSw
      (try dsimp only at hSw)
      go_simp
      try with_reducible rfl
    try simp only [Act.put, List.setIfInBounds_toArray, List.set_cons_zero, List.set_cons_succ]
    refine wpAnyH_ready (rs := [0, 19]) (by kernel_rfl) (by simp) ?_
    refine AllReadyH.cons rfl (fun K hK => ?_) (AllReadyH.cons rfl (fun K hK => ?_) AllReadyH.nil)
    ·
      go_simp
      refine hK.out _ _ hSd (fun hHeld => ?_)
      clear hK K
      try simp only [Act.put, List.setIfInBounds_toArray, List.set_cons_zero, List.set_cons_succ]
      refine wpAnyH_ready (rs := [19]) (by kernel_rfl) (by simp) ?_
      refine AllReadyH.cons rfl (fun K hK => ?_) AllReadyH.nil
      go_simp
      refine hK.out _ _ ⟨nx_cell ((Nx.refl wd).alloc _) hbbd hSd.1, nx_cell ((Nx.refl wd).alloc _) hbbd hSd.2.1, nx_cell ((Nx.refl wd).alloc _) hb3d hSd.2.2.1, nx_cell ((Nx.refl wd).alloc _) hb3d hSd.2.2.2.1, nx_cell ((Nx.refl wd).alloc _) hb3d hSd.2.2.2.2⟩ (fun hHeld => ?_)
      clear hK K
      try simp only [Act.put, List.setIfInBounds_toArray, List.set_cons_zero, List.set_cons_succ]
      refine wpAnyH_ready (rs := [20]) (by kernel_rfl) (by simp) ?_
      refine AllReadyH.cons rfl (fun K hK => ?_) AllReadyH.nil
      refine step_append_lies _ rfl _ _ _ rfl w1.heap.size _ iE zE 6 80 Tryz.underlying58 E1.out E2.out E3.out E4.out E5.out (by omega) (.slice A1 L.length c1) L.length (L.flatMap encJ) rfl (HO3d.out.alloc _) _ 1 1 [.string s0, .string s1, .slice B4 n4 n4, .int .i64 m, .int .i64 x, .int .i64 y] rfl rfl (news_of (hnew rfl) rfl) (by intro u hu; simp at hu; rcases hu with rfl | rfl | rfl | rfl | rfl | rfl <;> rfl) (by omega) (by unfold maxLen; omega) (by omega) (by simp; omega) _ rfl ?_
      intro g5 c5 w6 hown5 hg5 hat5 hlt5
      have hb5 : w6.heap[b]? = some (.cells #[.slice A1 L.length c1] 58 (0, 0)) := (World.grownBy.block hg5 _ (by simp; omega) (fun e => by have := own_blk_lt HO3d.out b e.symm; have := (HO3d.out.lt b e.symm).1; omega)).trans ((heap_alloc_old wd _ hbd).trans HB3d.out)
      have d5 : w6.cell? ⟨b, 0, none⟩ = some (.slice A1 L.length c1) := cell_of_row w6 b 0 _ _ _ hb5
      have f5 : w6.frozen? ⟨b, 0, none⟩ = false := Lib.frozen_of_heap hb5 0
      have hS5 : (fun w' : World => w'.cell? ⟨bb, off, none⟩ = some (.string s0) ∧ w'.cell? ⟨bb, off + 1, none⟩ = some (.string s1) ∧ w'.cell? ⟨b3, o3, none⟩ = some (.int .i64 m) ∧ w'.cell? ⟨b3, o3 + 1, none⟩ = some (.int .i64 x) ∧ w'.cell? ⟨b3, o3 + 2, none⟩ = some (.int .i64 y)) w6 := ⟨World.grownBy.cell hg5 (nx_cell ((Nx.refl wd).alloc _) hbbd hSd.1) hnb, World.grownBy.cell hg5 (nx_cell ((Nx.refl wd).alloc _) hbbd hSd.2.1) hnb, World.grownBy.cell hg5 (nx_cell ((Nx.refl wd).alloc _) hb3d hSd.2.2.1) hnb3, World.grownBy.cell hg5 (nx_cell ((Nx.refl wd).alloc _) hb3d hSd.2.2.2.1) hnb3, World.grownBy.cell hg5 (nx_cell ((Nx.refl wd).alloc _) hb3d hSd.2.2.2.2) hnb3⟩
      refine hK.out _ _ hS5 (fun hHeld => ?_)
      clear hK K
      try simp only [Act.put, List.setIfInBounds_toArray]
      have HB5 := hide hb5
      have HG5 := hide hg5
      have HO5 := hide hown5
      clear hb5 hg5 hown5
      refine wpAnyH_ready (rs := [21]) (by kernel_rfl) (by simp) ?_
      refine AllReadyH.cons rfl (fun K hK => ?_) AllReadyH.nil
      go_simp
      refine hK.out _ _ ⟨(cell_set (by omega)).trans hS5.1, (cell_set (by omega)).trans hS5.2.1, (cell_set (by omega)).trans hS5.2.2.1, (cell_set (by omega)).trans hS5.2.2.2.1, (cell_set (by omega)).trans hS5.2.2.2.2⟩ (fun hHeld => ?_)
      clear hK K
      try simp only [Act.put, List.setIfInBounds_toArray, List.set_cons_zero, List.set_cons_succ]
      refine wpAnyH_done (by kernel_rfl) ?_ _
      go_wp2_with fail
      go_ret
      have hbase : ∀ k, (Value.slice A1 L.length c1).ownBlock = some k → w1.heap.size ≤ k := fun k hk => (HO3d.out.lt k hk).1
      have hg6 : Gr b w1 w6 := (((HG.out.then_nx HN3d.out).alloc (.cells #[.string s0, .string s1, .slice B4 n4 n4, .int .i64 m, .int .i64 x, .int .i64 y] 71))).grown HG5.out (fun k hk => .inr (hbase k hk))
      have hset : Gr b w6 (w6.setCell ⟨b, 0, none⟩ (.slice (some ⟨g5, 0, none⟩) (L.length + 1) c5)) := (Gr.refl b w6).setS (p := ⟨b, 0, none⟩) (.inl rfl) _
      refine ⟨by rw [HF.out]; rfl, hg6.trans hset, fun _ => ⟨L ++ [⟨s0, s1, B4, n4, ws4, m, x, y⟩], .slice (some ⟨g5, 0, none⟩) (L.length + 1) c5, ?_, ?_, ?_, ?_, hbw⟩⟩
      · rw [List.map_append, List.map_append, HDL.out, List.map_cons, List.map_nil, List.map_cons, List.map_nil, HRT.out B4 n4]
      · exact heap_set (i := 0) HB5.out
      · have e : (L ++ [(⟨s0, s1, B4, n4, ws4, m, x, y⟩ : Jour)]).flatMap encJ = L.flatMap encJ ++ [.string s0, .string s1, .slice B4 n4 n4, .int .i64 m, .int .i64 x, .int .i64 y] := by rw [List.flatMap_append]; simp [encJ, ← HL4.out]
        have e2 : (L ++ [(⟨s0, s1, B4, n4, ws4, m, x, y⟩ : Jour)]).length = L.length + 1 := by simp
        rw [e, e2]
        exact own_gr HO5.out hset hbw
      · intro z hz
        rcases List.mem_append.1 hz with hz | hz
        · have h1 := HROd.out z hz
          exact ⟨own_gr ((h1.row.alloc _).kept HG5.out (own_apart h1.row HO3d.out (by decide))) hset hbw, h1.small, h1.few, h1.ride, h1.rider⟩
        · rw [List.mem_singleton.1 hz]
          refine ⟨?_, fun s hs' => Nat.le_trans (HZ4.out s hs') (by omega), by show ws4.length ≤ 2000; rw [← HL4.out]; omega, by show s0.size ≤ 1000000; omega, by show s1.size ≤ 1000000; omega⟩
          have hr : w6.ownsRow w1.heap.size 9 1 (.slice B4 n4 n4) n4 (ws4.flatMap encS) := ((HW5d.out.mono (by omega)).alloc _).kept HG5.out (own_apart HW5d.out HO3d.out (by decide))
          show World.ownsRow _ w1.heap.size 9 1 (.slice B4 ws4.length n4) ws4.length (ws4.flatMap encS)
          rw [← HL4.out]
          exact own_gr hr hset hbw
    ·
      go_simp
      refine hK.out _ _ ⟨nx_cell ((Nx.refl wd).alloc _) hbbd hSd.1, nx_cell ((Nx.refl wd).alloc _) hbbd hSd.2.1, nx_cell ((Nx.refl wd).alloc _) hb3d hSd.2.2.1, nx_cell ((Nx.refl wd).alloc _) hb3d hSd.2.2.2.1, nx_cell ((Nx.refl wd).alloc _) hb3d hSd.2.2.2.2⟩ (fun hHeld => ?_)
      clear hK K
      try simp only [Act.put, List.setIfInBounds_toArray, List.set_cons_zero, List.set_cons_succ]
      refine wpAnyH_ready (rs := [0]) (by kernel_rfl) (by simp) ?_
      refine AllReadyH.cons rfl (fun K hK => ?_) AllReadyH.nil
      go_simp
      refine hK.out _ _ ⟨nx_cell ((Nx.refl wd).alloc _) hbbd hSd.1, nx_cell ((Nx.refl wd).alloc _) hbbd hSd.2.1, nx_cell ((Nx.refl wd).alloc _) hb3d hSd.2.2.1, nx_cell ((Nx.refl wd).alloc _) hb3d hSd.2.2.2.1, nx_cell ((Nx.refl wd).alloc _) hb3d hSd.2.2.2.2⟩ (fun hHeld => ?_)
      clear hK K
      try simp only [Act.put, List.setIfInBounds_toArray, List.set_cons_zero, List.set_cons_succ]
      refine wpAnyH_ready (rs := [20]) (by kernel_rfl) (by simp) ?_
      refine AllReadyH.cons rfl (fun K hK => ?_) AllReadyH.nil
      refine step_append_lies _ rfl _ _ _ rfl w1.heap.size _ iE zE 6 80 Tryz.underlying58 E1.out E2.out E3.out E4.out E5.out (by omega) (.slice A1 L.length c1) L.length (L.flatMap encJ) rfl (HO3d.out.alloc _) _ 1 1 [.string s0, .string s1, .slice B4 n4 n4, .int .i64 m, .int .i64 x, .int .i64 y] rfl rfl (news_of (hnew rfl) rfl) (by intro u hu; simp at hu; rcases hu with rfl | rfl | rfl | rfl | rfl | rfl <;> rfl) (by omega) (by unfold maxLen; omega) (by omega) (by simp; omega) _ rfl ?_
      intro g5 c5 w6 hown5 hg5 hat5 hlt5
      have hb5 : w6.heap[b]? = some (.cells #[.slice A1 L.length c1] 58 (0, 0)) := (World.grownBy.block hg5 _ (by simp; omega) (fun e => by have := own_blk_lt HO3d.out b e.symm; have := (HO3d.out.lt b e.symm).1; omega)).trans ((heap_alloc_old wd _ hbd).trans HB3d.out)
      have d5 : w6.cell? ⟨b, 0, none⟩ = some (.slice A1 L.length c1) := cell_of_row w6 b 0 _ _ _ hb5
      have f5 : w6.frozen? ⟨b, 0, none⟩ = false := Lib.frozen_of_heap hb5 0
      have hS5 : (fun w' : World => w'.cell? ⟨bb, off, none⟩ = some (.string s0) ∧ w'.cell? ⟨bb, off + 1, none⟩ = some (.string s1) ∧ w'.cell? ⟨b3, o3, none⟩ = some (.int .i64 m) ∧ w'.cell? ⟨b3, o3 + 1, none⟩ = some (.int .i64 x) ∧ w'.cell? ⟨b3, o3 + 2, none⟩ = some (.int .i64 y)) w6 := ⟨World.grownBy.cell hg5 (nx_cell ((Nx.refl wd).alloc _) hbbd hSd.1) hnb, World.grownBy.cell hg5 (nx_cell ((Nx.refl wd).alloc _) hbbd hSd.2.1) hnb, World.grownBy.cell hg5 (nx_cell ((Nx.refl wd).alloc _) hb3d hSd.2.2.1) hnb3, World.grownBy.cell hg5 (nx_cell ((Nx.refl wd).alloc _) hb3d hSd.2.2.2.1) hnb3, World.grownBy.cell hg5 (nx_cell ((Nx.refl wd).alloc _) hb3d hSd.2.2.2.2) hnb3⟩
      refine hK.out _ _ hS5 (fun hHeld => ?_)
      clear hK K
      try simp only [Act.put, List.setIfInBounds_toArray]
      have HB5 := hide hb5
      have HG5 := hide hg5
      have HO5 := hide hown5
      clear hb5 hg5 hown5
      refine wpAnyH_ready (rs := [21]) (by kernel_rfl) (by simp) ?_
      refine AllReadyH.cons rfl (fun K hK => ?_) AllReadyH.nil
      go_simp
      refine hK.out _ _ ⟨(cell_set (by omega)).trans hS5.1, (cell_set (by omega)).trans hS5.2.1, (cell_set (by omega)).trans hS5.2.2.1, (cell_set (by omega)).trans hS5.2.2.2.1, (cell_set (by omega)).trans hS5.2.2.2.2⟩ (fun hHeld => ?_)
      clear hK K
      try simp only [Act.put, List.setIfInBounds_toArray, List.set_cons_zero, List.set_cons_succ]
      refine wpAnyH_done (by kernel_rfl) ?_ _
      go_wp2_with fail
      go_ret
      have hbase : ∀ k, (Value.slice A1 L.length c1).ownBlock = some k → w1.heap.size ≤ k := fun k hk => (HO3d.out.lt k hk).1
      have hg6 : Gr b w1 w6 := (((HG.out.then_nx HN3d.out).alloc (.cells #[.string s0, .string s1, .slice B4 n4 n4, .int .i64 m, .int .i64 x, .int .i64 y] 71))).grown HG5.out (fun k hk => .inr (hbase k hk))
      have hset : Gr b w6 (w6.setCell ⟨b, 0, none⟩ (.slice (some ⟨g5, 0, none⟩) (L.length + 1) c5)) := (Gr.refl b w6).setS (p := ⟨b, 0, none⟩) (.inl rfl) _
      refine ⟨by rw [HF.out]; rfl, hg6.trans hset, fun _ => ⟨L ++ [⟨s0, s1, B4, n4, ws4, m, x, y⟩], .slice (some ⟨g5, 0, none⟩) (L.length + 1) c5, ?_, ?_, ?_, ?_, hbw⟩⟩
      · rw [List.map_append, List.map_append, HDL.out, List.map_cons, List.map_nil, List.map_cons, List.map_nil, HRT.out B4 n4]
      · exact heap_set (i := 0) HB5.out
      · have e : (L ++ [(⟨s0, s1, B4, n4, ws4, m, x, y⟩ : Jour)]).flatMap encJ = L.flatMap encJ ++ [.string s0, .string s1, .slice B4 n4 n4, .int .i64 m, .int .i64 x, .int .i64 y] := by rw [List.flatMap_append]; simp [encJ, ← HL4.out]
        have e2 : (L ++ [(⟨s0, s1, B4, n4, ws4, m, x, y⟩ : Jour)]).length = L.length + 1 := by simp
        rw [e, e2]
        exact own_gr HO5.out hset hbw
      · intro z hz
        rcases List.mem_append.1 hz with hz | hz
        · have h1 := HROd.out z hz
          exact ⟨own_gr ((h1.row.alloc _).kept HG5.out (own_apart h1.row HO3d.out (by decide))) hset hbw, h1.small, h1.few, h1.ride, h1.rider⟩
        · rw [List.mem_singleton.1 hz]
          refine ⟨?_, fun s hs' => Nat.le_trans (HZ4.out s hs') (by omega), by show ws4.length ≤ 2000; rw [← HL4.out]; omega, by show s0.size ≤ 1000000; omega, by show s1.size ≤ 1000000; omega⟩
          have hr : w6.ownsRow w1.heap.size 9 1 (.slice B4 n4 n4) n4 (ws4.flatMap encS) := ((HW5d.out.mono (by omega)).alloc _).kept HG5.out (own_apart HW5d.out HO3d.out (by decide))
          show World.ownsRow _ w1.heap.size 9 1 (.slice B4 ws4.length n4) ws4.length (ws4.flatMap encS)
          rw [← HL4.out]
          exact own_gr hr hset hbw
end Go.Proofs.YthlhomcgjgfdhaaGreatDoor
