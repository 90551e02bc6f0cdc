/- Tallies read: demand.Read and its closure. -/
import Derived.Test.YthlhomcgjgfdhaaGreatDoorQLinE
import Derived.Test.YthlhomcgjgfdhaaGreatDoorQG6
import Derived.Test.YthlhomcgjgfdhaaGreatDoorQCheckT
import Derived.Deep.DeepCutAuto
import Derived.Deep.AppendLies
import Derived.Deep.RegionHeld
import Derived.RegionTactic
namespace Go.Proofs.YthlhomcgjgfdhaaGreatDoor
open Go.RowKit

def okT (s : ByteArray) : Bool := (readT s.data.toList).isSome
theorem MaxI.grb {w w1 W : World} {b : Nat} (h : MaxI w) (hb : w.heap.size ≤ b) (hn : Nx w w1) (hg : Gr b w1 W) : MaxI W := h.gr ((Gr.of_nx hn).trans hg) hb
/-- The closure's box: what is read so far. -/
def IT (b : Nat) (w1 : World) (d : List ByteArray) (W : World) : Prop :=
  ∃ (L : List Tally) (v : Value), dataL d = L.map tallyLine ∧ (∀ t ∈ L, Digs t) ∧ W.heap[b]? = some (.cells #[v] 26 (0, 0)) ∧ W.ownsRow w1.heap.size 55 4 v L.length (L.flatMap encTally) ∧ b < w1.heap.size
theorem dataL_app (d : List ByteArray) (s : ByteArray) : dataL (d ++ [s]) = dataL d ++ [s.data.toList] := by simp [dataL]
set_option maxRecDepth 100000 in
set_option maxHeartbeats 4000000 in
theorem w_Read1 (b : Nat) (w1 : World) (d : List ByteArray) (line : ByteArray) (W : World) (hM : MaxI W) (hs : line.size ≤ 1000000) (hd : d.length ≤ 1000000) (hg : Gr b w1 W) (h : IT b w1 d W) :
    Calls Tryz.prog 64 #[.string line, .pointer (some ⟨b, 0, none⟩)] W fun e w' => e = .returned (.bool (okT line)) ∧ Gr b w1 w' ∧ (okT line = true → IT b w1 (d ++ [line]) w') := by
  obtain ⟨L, v, hdl, hdg, hbox, hown, hbw⟩ := h
  have hLd : L.length = d.length := by have h := congrArg List.length hdl; rw [dataL_len, List.length_map] at h; exact h.symm
  have hLb : L.length ≤ 1000000 := by omega
  clear hLd
  have HW := hide (w_Words line 4 (by omega) hs W hM)
  have HDL := hide hdl
  have HDG := hide hdg
  have HBOX := hide hbox
  have HOWN := hide hown
  have HG := hide hg
  have hW1 := hg.sz
  clear hM hdl hdg hbox hown hg
  go_enter Tryz.func64, Tryz.ntmps64
  go_upto_region 2 with (go_at_call 65; refine HW.out.mono ?_; rintro e w2 ⟨hww, hn2⟩; rcases hww with ⟨hwn, rfl⟩ | ⟨ws, B, hws, hwl, rfl, hRw, hwz⟩)
  · have HF := hide (show okT line = false by unfold okT readT; rw [hwn]; rfl)
    go_wp2_with fail
    go_ret
    exact ⟨by rw [HF.out]; rfl, HG.out.then_nx hn2, fun h => by rw [HF.out] at h; cases h⟩
  · have HWS := hide hws
    have HN2 := hide hn2
    have hnm := w_Numbers W.heap.size B 4 ws 10 (by omega) (by omega) (fun s h => Nat.le_trans (hwz s h) hs) w2 hRw
    rw [hwl] at hnm
    have HNM : Hid (Calls Tryz.prog 66 #[.slice B 4 4, .int .i64 ((10 : Nat) : Int)] w2 fun e w' => ((okT line = false ∧ e = .returned (.tuple #[.slice none 0 0, .bool false])) ∨ ∃ (t : Tally) (B : Option Addr) (d : Nat), readT line.data.toList = some t ∧ e = .returned (.tuple #[.slice B 4 d, .bool true]) ∧ Rd w' w2.heap.size B 1 encI (tallyW t)) ∧ Nx w2 w') := hide (hnm.mono (by
      rintro e w' ⟨h, hn⟩
      refine ⟨?_, hn⟩
      rcases h with ⟨h1, h2⟩ | ⟨ns, B', d', h1, h2, h3⟩
      · refine .inl ⟨?_, h2⟩
        unfold okT readT
        rw [hws]
        simp only
        rw [show numsL 10 (dataL ws) = none from h1]; rfl
      · have hl := (numsS_len h1).trans hwl
        match ns, hl with
        | [x, y, hh, m], _ =>
          refine .inr ⟨⟨x, y, hh, m⟩, B', d', ?_, h2, h3⟩
          unfold readT
          rw [hws]
          simp only
          rw [show numsL 10 (dataL ws) = some [x, y, hh, m] from h1]))
    clear hnm hws hRw hwz hn2 HW
    go_upto_region 5 with (go_at_call 66; refine HNM.out.mono ?_; rintro e w3 ⟨hnn, hn3⟩; rcases hnn with ⟨hno, rfl⟩ | ⟨t, B3, c3, hrt, rfl, hR3⟩)
    · have HF := hide hno
      clear hno
      go_wp2_with fail
      go_ret
      exact ⟨by rw [HF.out]; rfl, HG.out.then_nx (HN2.out.trans hn3), fun h => by rw [HF.out] at h; cases h⟩
    · have HF := hide (show okT line = true by unfold okT; rw [hrt]; rfl)
      have HRT := hide (readT_inv hrt)
      have HN3 := hide (HN2.out.trans hn3)
      have hblt : b < W.heap.size := Nat.lt_of_lt_of_le hbw hW1
      have HB3 := hide (((HN2.out.trans hn3).block b hblt).trans HBOX.out)
      have HO3 := hide (own_nx HOWN.out (HN2.out.trans hn3))
      obtain ⟨A1, c1, ev, _, _⟩ := Rd.of_own encTally_len rfl HOWN.out
      obtain rfl := ev
      obtain ⟨x, y, hh, m⟩ := t
      obtain ⟨bb, off, rfl, hlo3, hb3, hbr3, hc⟩ := hR3.open_ (Nx.refl w3) (by simp [tallyW])
      have c0 : w3.cell? ⟨bb, off, none⟩ = some (.int .i64 x) := by have h := hc 0 (by simp [tallyW]) 0 _ rfl; simp only [Nat.mul_one, Nat.add_zero] at h; exact h
      have c1' : w3.cell? ⟨bb, off + 1, none⟩ = some (.int .i64 y) := by have h := hc 1 (by simp [tallyW]) 0 _ rfl; simp only [Nat.mul_one, Nat.add_zero] at h; exact h
      have c2 : w3.cell? ⟨bb, off + 2, none⟩ = some (.int .i64 hh) := by have h := hc 2 (by simp [tallyW]) 0 _ rfl; simp only [Nat.mul_one, Nat.add_zero] at h; exact h
      have c3' : w3.cell? ⟨bb, off + 3, none⟩ = some (.int .i64 m) := by have h := hc 3 (by simp [tallyW]) 0 _ rfl; simp only [Nat.mul_one, Nat.add_zero] at h; exact h
      have d0 : w3.cell? ⟨b, 0, none⟩ = some (.slice A1 L.length c1) := cell_of_row w3 b 0 _ _ _ HB3.out
      have d0a : ∀ o, (w3.alloc o).cell? ⟨b, 0, none⟩ = some (.slice A1 L.length c1) := fun o => nx_cell ((Nx.refl w3).alloc o) (by have := HN3.out.sz; omega) d0
      have hsz3 := HN3.out.sz
      clear hc hrt hn3 HNM
      go_upto_region 6 with fail
      obtain ⟨iE, zE, e1, e2, e3, e4, e5⟩ := el_Tally.hi
      have E1 := hide e1
      have E2 := hide e2
      have E3 := hide e3
      have E4 := hide e4
      have E5 := hide e5
      clear e1 e2 e3 e4 e5
      have HO3d := hide (show w3.drew.ownsRow w1.heap.size 55 4 (.slice A1 L.length c1) L.length (L.flatMap encTally) from HO3.out)
      have HB3d := hide (show w3.drew.heap[b]? = some (.cells #[.slice A1 L.length c1] 26 (0, 0)) from HB3.out)
      have HN3d := hide (show Nx W w3.drew from HN3.out.drew)
      have d0d : w3.drew.cell? ⟨b, 0, none⟩ = some (.slice A1 L.length c1) := d0
      have d0b : ∀ o, (w3.drew.alloc o).cell? ⟨b, 0, none⟩ = some (.slice A1 L.length c1) := d0a
      have hbd : b < w3.drew.heap.size := Nat.lt_of_lt_of_le hblt HN3.out.sz
      have hbbd : bb < w3.drew.heap.size := hbr3
      have hWd : W.heap.size ≤ w3.drew.heap.size := HN3.out.sz
      have hSd : (fun w' : World => w'.cell? ⟨bb, off, none⟩ = some (.int .i64 x) ∧ w'.cell? ⟨bb, off + 1, none⟩ = some (.int .i64 y) ∧ w'.cell? ⟨bb, off + 2, none⟩ = some (.int .i64 hh) ∧ w'.cell? ⟨bb, off + 3, none⟩ = some (.int .i64 m)) w3.drew := ⟨c0, c1', c2, c3'⟩
      have hnb : some bb ≠ (Value.slice A1 L.length c1).ownBlock := fun e => by have := (HOWN.out.lt bb e.symm).2; have := HN2.out.sz; omega
      have hbbb : bb ≠ b := by have := HN2.out.sz; omega
      clear c0 c1' c2 c3' d0 d0a
      refine wp_region_held_drew (S := fun w' : World => w'.cell? ⟨bb, off, none⟩ = some (.int .i64 x) ∧ w'.cell? ⟨bb, off + 1, none⟩ = some (.int .i64 y) ∧ w'.cell? ⟨bb, off + 2, none⟩ = some (.int .i64 hh) ∧ w'.cell? ⟨bb, off + 3, none⟩ = some (.int .i64 m)) (by kernel_rfl) hSd (fun hHeld => ?_)
      generalize w3.drew = wd at *
      refine wpAnyH_take (i := 1) (oi := ⟨some 21, _, _, _, _, _⟩) (v := ?_) rfl (by kernel_rfl) (by kernel_rfl) (by kernel_rfl) (fun _ _ _ h => h) (Or.inl ⟨by rfl, ?_⟩) (by assumption) ?_
      rotate_left 1
      · intro w hSw
        (try dsimp only at hSw)
        go_simp
        try with_reducible rfl
      try simp only [Act.put, List.setIfInBounds_toArray, List.set_cons_zero, List.set_cons_succ]
      refine wpAnyH_take (i := 2) (oi := ⟨some 22, _, _, _, _, _⟩) (v := ?_) rfl (by kernel_rfl) (by kernel_rfl) (by kernel_rfl) (fun _ _ _ h => h) (Or.inl ⟨by rfl, ?_⟩) (by assumption) ?_
      rotate_left 1
      · intro w hSw
        (try dsimp only at hSw)
        go_simp
        try with_reducible rfl
      try simp only [Act.put, List.setIfInBounds_toArray, List.set_cons_zero, List.set_cons_succ]
      refine wpAnyH_take (i := 3) (oi := ⟨some 23, _, _, _, _, _⟩) (v := ?_) rfl (by kernel_rfl) (by kernel_rfl) (by kernel_rfl) (fun _ _ _ h => h) (Or.inl ⟨by rfl, ?_⟩) (by assumption) ?_
      rotate_left 1
      · intro w hSw
        (try dsimp only at hSw)
        go_simp
        try with_reducible rfl
      try simp only [Act.put, List.setIfInBounds_toArray, List.set_cons_zero, List.set_cons_succ]
      refine wpAnyH_take (i := 4) (oi := ⟨some 24, _, _, _, _, _⟩) (v := ?_) rfl (by kernel_rfl) (by kernel_rfl) (by kernel_rfl) (fun _ _ _ h => h) (Or.inl ⟨by rfl, ?_⟩) (by assumption) ?_
      rotate_left 1
      · intro w hSw
        (try dsimp only at hSw)
        go_simp
        try with_reducible rfl
      try simp only [Act.put, List.setIfInBounds_toArray, List.set_cons_zero, List.set_cons_succ]
      refine wpAnyH_take (i := 5) (oi := ⟨some 25, _, _, _, _, _⟩) (v := ?_) rfl (by kernel_rfl) (by kernel_rfl) (by kernel_rfl) (fun _ _ _ h => h) (Or.inl ⟨by rfl, ?_⟩) (by assumption) ?_
      rotate_left 1
      · intro w hSw
        (try dsimp only at hSw)
        go_simp
        try with_reducible rfl
      try simp only [Act.put, List.setIfInBounds_toArray, List.set_cons_zero, List.set_cons_succ]
      refine wpAnyH_take (i := 6) (oi := ⟨some 26, _, _, _, _, _⟩) (v := ?_) rfl (by kernel_rfl) (by kernel_rfl) (by kernel_rfl) (fun _ _ _ h => h) (Or.inl ⟨by rfl, ?_⟩) (by assumption) ?_
      rotate_left 1
      · intro w hSw
        (try dsimp only at hSw)
        go_simp
        try with_reducible rfl
      try simp only [Act.put, List.setIfInBounds_toArray, List.set_cons_zero, List.set_cons_succ]
      refine wpAnyH_take (i := 7) (oi := ⟨some 27, _, _, _, _, _⟩) (v := ?_) rfl (by kernel_rfl) (by kernel_rfl) (by kernel_rfl) (fun _ _ _ h => h) (Or.inl ⟨by rfl, ?_⟩) (by assumption) ?_
      rotate_left 1
      · intro w hSw
        (try dsimp only at hSw)
        go_simp
        try with_reducible rfl
      try simp only [Act.put, List.setIfInBounds_toArray, List.set_cons_zero, List.set_cons_succ]
      refine wpAnyH_take (i := 8) (oi := ⟨some 28, _, _, _, _, _⟩) (v := ?_) rfl (by kernel_rfl) (by kernel_rfl) (by kernel_rfl) (fun _ _ _ h => h) (Or.inl ⟨by rfl, ?_⟩) (by assumption) ?_
      rotate_left 1
      · intro w hSw
        (try dsimp only at hSw)
        go_simp
        try with_reducible rfl
      try simp only [Act.put, List.setIfInBounds_toArray, List.set_cons_zero, List.set_cons_succ]
      refine wpAnyH_take (i := 9) (oi := ⟨some 29, _, _, _, _, _⟩) (v := ?_) rfl (by kernel_rfl) (by kernel_rfl) (by kernel_rfl) (fun _ _ _ h => h) (Or.inl ⟨by rfl, ?_⟩) (by assumption) ?_
      rotate_left 1
      · intro w hSw
        (try dsimp only at hSw)
        go_simp
        try with_reducible rfl
      try simp only [Act.put, List.setIfInBounds_toArray, List.set_cons_zero, List.set_cons_succ]
      refine wpAnyH_take (i := 10) (oi := ⟨some 30, _, _, _, _, _⟩) (v := ?_) rfl (by kernel_rfl) (by kernel_rfl) (by kernel_rfl) (fun _ _ _ h => h) (Or.inl ⟨by rfl, ?_⟩) (by assumption) ?_
      rotate_left 1
      · intro w hSw
        (try dsimp only at hSw)
        go_simp
        try with_reducible rfl
      try simp only [Act.put, List.setIfInBounds_toArray, List.set_cons_zero, List.set_cons_succ]
      refine wpAnyH_take (i := 11) (oi := ⟨some 31, _, _, _, _, _⟩) (v := ?_) rfl (by kernel_rfl) (by kernel_rfl) (by kernel_rfl) (fun _ _ _ h => h) (Or.inl ⟨by rfl, ?_⟩) (by assumption) ?_
      rotate_left 1
      · intro w hSw
        (try dsimp only at hSw)
        go_simp
        try with_reducible rfl
      try simp only [Act.put, List.setIfInBounds_toArray, List.set_cons_zero, List.set_cons_succ]
      refine wpAnyH_take (i := 12) (oi := ⟨some 32, _, _, _, _, _⟩) (v := ?_) rfl (by kernel_rfl) (by kernel_rfl) (by kernel_rfl) (fun _ _ _ h => h) (Or.inl ⟨by rfl, ?_⟩) (by assumption) ?_
      rotate_left 1
      · intro w hSw
        (try dsimp only at hSw)
        go_simp
        try with_reducible rfl
      try simp only [Act.put, List.setIfInBounds_toArray, List.set_cons_zero, List.set_cons_succ]
      refine wpAnyH_take (i := 13) (oi := ⟨some 33, _, _, _, _, _⟩) (v := ?_) rfl (by kernel_rfl) (by kernel_rfl) (by kernel_rfl) (fun _ _ _ h => h) (Or.inl ⟨by rfl, ?_⟩) (by assumption) ?_
      rotate_left 1
      · intro w hSw
        (try dsimp only at hSw)
        go_simp
        try with_reducible rfl
      try simp only [Act.put, List.setIfInBounds_toArray, List.set_cons_zero, List.set_cons_succ]
      refine wpAnyH_take (i := 14) (oi := ⟨some 34, _, _, _, _, _⟩) (v := ?_) rfl (by kernel_rfl) (by kernel_rfl) (by kernel_rfl) (fun _ _ _ h => h) (Or.inl ⟨by rfl, ?_⟩) (by assumption) ?_
      rotate_left 1
      · intro w hSw
        (try dsimp only at hSw)
        go_simp
        try with_reducible rfl
      try simp only [Act.put, List.setIfInBounds_toArray, List.set_cons_zero, List.set_cons_succ]
      refine wpAnyH_ready (rs := [0, 15]) (by kernel_rfl) (by simp) ?_
      refine AllReadyH.cons rfl (fun K hK => ?_) (AllReadyH.cons rfl (fun K hK => ?_) AllReadyH.nil)
      ·
        go_simp
        refine hK.out _ _ hSd (fun hHeld => ?_)
        clear hK K
        try simp only [Act.put, List.setIfInBounds_toArray, List.set_cons_zero, List.set_cons_succ]
        refine wpAnyH_ready (rs := [15]) (by kernel_rfl) (by simp) ?_
        refine AllReadyH.cons rfl (fun K hK => ?_) AllReadyH.nil
        go_simp
        refine hK.out _ _ ⟨nx_cell ((Nx.refl wd).alloc _) hbbd hSd.1, nx_cell ((Nx.refl wd).alloc _) hbbd hSd.2.1, nx_cell ((Nx.refl wd).alloc _) hbbd hSd.2.2.1, nx_cell ((Nx.refl wd).alloc _) hbbd hSd.2.2.2⟩ (fun hHeld => ?_)
        clear hK K
        try simp only [Act.put, List.setIfInBounds_toArray, List.set_cons_zero, List.set_cons_succ]
        refine wpAnyH_ready (rs := [16]) (by kernel_rfl) (by simp) ?_
        refine AllReadyH.cons rfl (fun K hK => ?_) AllReadyH.nil
        refine step_append_lies _ rfl _ _ _ rfl w1.heap.size _ iE zE 4 32 Tryz.underlying26 E1.out E2.out E3.out E4.out E5.out (by omega) (.slice A1 L.length c1) L.length (L.flatMap encTally) rfl (HO3d.out.alloc _) _ 1 1 [.int .i64 x, .int .i64 y, .int .i64 hh, .int .i64 m] rfl rfl (news_of (hnew rfl) rfl) (by intro u hu; simp at hu; rcases hu with rfl | rfl | rfl | rfl <;> rfl) (by omega) (by unfold maxLen; omega) (by omega) (by simp; omega) _ rfl ?_
        intro g5 c5 w5 hown5 hg5 hat5 hlt5
        have hb5 : w5.heap[b]? = some (.cells #[.slice A1 L.length c1] 26 (0, 0)) := (World.grownBy.block hg5 _ (by simp; omega) (fun e => by have := own_blk_lt HO3d.out b e.symm; have := (HO3d.out.lt b e.symm).1; omega)).trans ((heap_alloc_old wd _ hbd).trans HB3d.out)
        have d5 : w5.cell? ⟨b, 0, none⟩ = some (.slice A1 L.length c1) := cell_of_row w5 b 0 _ _ _ hb5
        have f5 : w5.frozen? ⟨b, 0, none⟩ = false := Lib.frozen_of_heap hb5 0
        have hS5 : (fun w' : World => w'.cell? ⟨bb, off, none⟩ = some (.int .i64 x) ∧ w'.cell? ⟨bb, off + 1, none⟩ = some (.int .i64 y) ∧ w'.cell? ⟨bb, off + 2, none⟩ = some (.int .i64 hh) ∧ w'.cell? ⟨bb, off + 3, none⟩ = some (.int .i64 m)) w5 := ⟨World.grownBy.cell hg5 (nx_cell ((Nx.refl wd).alloc _) hbbd hSd.1) hnb, World.grownBy.cell hg5 (nx_cell ((Nx.refl wd).alloc _) hbbd hSd.2.1) hnb, World.grownBy.cell hg5 (nx_cell ((Nx.refl wd).alloc _) hbbd hSd.2.2.1) hnb, World.grownBy.cell hg5 (nx_cell ((Nx.refl wd).alloc _) hbbd hSd.2.2.2) hnb⟩
        refine hK.out _ _ hS5 (fun hHeld => ?_)
        clear hK K
        try simp only [Act.put, List.setIfInBounds_toArray]
        have HB5 := hide hb5
        have HG5 := hide hg5
        have HO5 := hide hown5
        clear hb5 hg5 hown5
        refine wpAnyH_ready (rs := [17]) (by kernel_rfl) (by simp) ?_
        refine AllReadyH.cons rfl (fun K hK => ?_) AllReadyH.nil
        go_simp
        refine hK.out _ _ ⟨(cell_set (by omega)).trans hS5.1, (cell_set (by omega)).trans hS5.2.1, (cell_set (by omega)).trans hS5.2.2.1, (cell_set (by omega)).trans hS5.2.2.2⟩ (fun hHeld => ?_)
        clear hK K
        try simp only [Act.put, List.setIfInBounds_toArray, List.set_cons_zero, List.set_cons_succ]
        refine wpAnyH_done (by kernel_rfl) ?_ _
        go_wp2_with fail
        go_ret
        have hbase : ∀ k, (Value.slice A1 L.length c1).ownBlock = some k → w1.heap.size ≤ k := fun k hk => (HO3d.out.lt k hk).1
        have hg6 : Gr b w1 w5 := (((HG.out.then_nx HN3d.out).alloc (.cells #[.int .i64 x, .int .i64 y, .int .i64 hh, .int .i64 m] 55))).grown HG5.out (fun k hk => .inr (hbase k hk))
        have hset : Gr b w5 (w5.setCell ⟨b, 0, none⟩ (.slice (some ⟨g5, 0, none⟩) (L.length + 1) c5)) := (Gr.refl b w5).setS (p := ⟨b, 0, none⟩) (.inl rfl) _
        refine ⟨by rw [HF.out]; rfl, hg6.trans hset, fun _ => ⟨L ++ [⟨x, y, hh, m⟩], .slice (some ⟨g5, 0, none⟩) (L.length + 1) c5, ?_, ?_, ?_, ?_, hbw⟩⟩
        · rw [dataL_app, HDL.out, List.map_append, ← HRT.out.1]; rfl
        · intro t ht
          rcases List.mem_append.1 ht with ht | ht
          · exact HDG.out t ht
          · rw [List.mem_singleton.1 ht]; exact HRT.out.2
        · exact heap_set (i := 0) HB5.out
        · have e : (L ++ [(⟨x, y, hh, m⟩ : Tally)]).flatMap encTally = L.flatMap encTally ++ [.int .i64 x, .int .i64 y, .int .i64 hh, .int .i64 m] := by rw [List.flatMap_append]; rfl
          have e2 : (L ++ [(⟨x, y, hh, m⟩ : Tally)]).length = L.length + 1 := by simp
          rw [e, e2]
          exact own_gr HO5.out hset hbw
      ·
        go_simp
        refine hK.out _ _ ⟨nx_cell ((Nx.refl wd).alloc _) hbbd hSd.1, nx_cell ((Nx.refl wd).alloc _) hbbd hSd.2.1, nx_cell ((Nx.refl wd).alloc _) hbbd hSd.2.2.1, nx_cell ((Nx.refl wd).alloc _) hbbd hSd.2.2.2⟩ (fun hHeld => ?_)
        clear hK K
        try simp only [Act.put, List.setIfInBounds_toArray, List.set_cons_zero, List.set_cons_succ]
        refine wpAnyH_ready (rs := [0]) (by kernel_rfl) (by simp) ?_
        refine AllReadyH.cons rfl (fun K hK => ?_) AllReadyH.nil
        go_simp
        refine hK.out _ _ ⟨nx_cell ((Nx.refl wd).alloc _) hbbd hSd.1, nx_cell ((Nx.refl wd).alloc _) hbbd hSd.2.1, nx_cell ((Nx.refl wd).alloc _) hbbd hSd.2.2.1, nx_cell ((Nx.refl wd).alloc _) hbbd hSd.2.2.2⟩ (fun hHeld => ?_)
        clear hK K
        try simp only [Act.put, List.setIfInBounds_toArray, List.set_cons_zero, List.set_cons_succ]
        refine wpAnyH_ready (rs := [16]) (by kernel_rfl) (by simp) ?_
        refine AllReadyH.cons rfl (fun K hK => ?_) AllReadyH.nil
        refine step_append_lies _ rfl _ _ _ rfl w1.heap.size _ iE zE 4 32 Tryz.underlying26 E1.out E2.out E3.out E4.out E5.out (by omega) (.slice A1 L.length c1) L.length (L.flatMap encTally) rfl (HO3d.out.alloc _) _ 1 1 [.int .i64 x, .int .i64 y, .int .i64 hh, .int .i64 m] rfl rfl (news_of (hnew rfl) rfl) (by intro u hu; simp at hu; rcases hu with rfl | rfl | rfl | rfl <;> rfl) (by omega) (by unfold maxLen; omega) (by omega) (by simp; omega) _ rfl ?_
        intro g5 c5 w5 hown5 hg5 hat5 hlt5
        have hb5 : w5.heap[b]? = some (.cells #[.slice A1 L.length c1] 26 (0, 0)) := (World.grownBy.block hg5 _ (by simp; omega) (fun e => by have := own_blk_lt HO3d.out b e.symm; have := (HO3d.out.lt b e.symm).1; omega)).trans ((heap_alloc_old wd _ hbd).trans HB3d.out)
        have d5 : w5.cell? ⟨b, 0, none⟩ = some (.slice A1 L.length c1) := cell_of_row w5 b 0 _ _ _ hb5
        have f5 : w5.frozen? ⟨b, 0, none⟩ = false := Lib.frozen_of_heap hb5 0
        have hS5 : (fun w' : World => w'.cell? ⟨bb, off, none⟩ = some (.int .i64 x) ∧ w'.cell? ⟨bb, off + 1, none⟩ = some (.int .i64 y) ∧ w'.cell? ⟨bb, off + 2, none⟩ = some (.int .i64 hh) ∧ w'.cell? ⟨bb, off + 3, none⟩ = some (.int .i64 m)) w5 := ⟨World.grownBy.cell hg5 (nx_cell ((Nx.refl wd).alloc _) hbbd hSd.1) hnb, World.grownBy.cell hg5 (nx_cell ((Nx.refl wd).alloc _) hbbd hSd.2.1) hnb, World.grownBy.cell hg5 (nx_cell ((Nx.refl wd).alloc _) hbbd hSd.2.2.1) hnb, World.grownBy.cell hg5 (nx_cell ((Nx.refl wd).alloc _) hbbd hSd.2.2.2) hnb⟩
        refine hK.out _ _ hS5 (fun hHeld => ?_)
        clear hK K
        try simp only [Act.put, List.setIfInBounds_toArray]
        have HB5 := hide hb5
        have HG5 := hide hg5
        have HO5 := hide hown5
        clear hb5 hg5 hown5
        refine wpAnyH_ready (rs := [17]) (by kernel_rfl) (by simp) ?_
        refine AllReadyH.cons rfl (fun K hK => ?_) AllReadyH.nil
        go_simp
        refine hK.out _ _ ⟨(cell_set (by omega)).trans hS5.1, (cell_set (by omega)).trans hS5.2.1, (cell_set (by omega)).trans hS5.2.2.1, (cell_set (by omega)).trans hS5.2.2.2⟩ (fun hHeld => ?_)
        clear hK K
        try simp only [Act.put, List.setIfInBounds_toArray, List.set_cons_zero, List.set_cons_succ]
        refine wpAnyH_done (by kernel_rfl) ?_ _
        go_wp2_with fail
        go_ret
        have hbase : ∀ k, (Value.slice A1 L.length c1).ownBlock = some k → w1.heap.size ≤ k := fun k hk => (HO3d.out.lt k hk).1
        have hg6 : Gr b w1 w5 := (((HG.out.then_nx HN3d.out).alloc (.cells #[.int .i64 x, .int .i64 y, .int .i64 hh, .int .i64 m] 55))).grown HG5.out (fun k hk => .inr (hbase k hk))
        have hset : Gr b w5 (w5.setCell ⟨b, 0, none⟩ (.slice (some ⟨g5, 0, none⟩) (L.length + 1) c5)) := (Gr.refl b w5).setS (p := ⟨b, 0, none⟩) (.inl rfl) _
        refine ⟨by rw [HF.out]; rfl, hg6.trans hset, fun _ => ⟨L ++ [⟨x, y, hh, m⟩], .slice (some ⟨g5, 0, none⟩) (L.length + 1) c5, ?_, ?_, ?_, ?_, hbw⟩⟩
        · rw [dataL_app, HDL.out, List.map_append, ← HRT.out.1]; rfl
        · intro t ht
          rcases List.mem_append.1 ht with ht | ht
          · exact HDG.out t ht
          · rw [List.mem_singleton.1 ht]; exact HRT.out.2
        · exact heap_set (i := 0) HB5.out
        · have e : (L ++ [(⟨x, y, hh, m⟩ : Tally)]).flatMap encTally = L.flatMap encTally ++ [.int .i64 x, .int .i64 y, .int .i64 hh, .int .i64 m] := by rw [List.flatMap_append]; rfl
          have e2 : (L ++ [(⟨x, y, hh, m⟩ : Tally)]).length = L.length + 1 := by simp
          rw [e, e2]
          exact own_gr HO5.out hset hbw
end Go.Proofs.YthlhomcgjgfdhaaGreatDoor
