/- Smooth, the program's way. -/
import Derived.Test.YtjkpikhgknnbeaaSmo
namespace Go.Proofs.Ytjkpikhgknnbeaa
open Go.RowKit Go.Sort Go.Shelf Go.Maps

theorem w_Smooth_no (lo : Nat) (A : Option Addr) (c : Nat) (a : List Tally) (self side : Int) (w : World) (hA : Rd w lo A 4 encTally a) (hl : a.length ≤ 100) (hf : talliesF a ≠ 0) :
    Calls Try.prog 40 #[.slice A a.length c, .int .i64 self, .int .i64 side] w (TalsNo (talliesF a) w) := by
  have hf' : (talliesF a != 0) = true := by simpa using hf
  clear hf
  go_enter Try.func40, Try.ntmps40
  go_wp2_with (go_at_call 37; refine (w_CheckTallies _ _ _ _ _ hA (by omega)).mono ?_; rintro e w1 ⟨rfl, hn1⟩)
  go_ret2
  exact ⟨rfl, hn1⟩
theorem w_Smooth_arg (lo : Nat) (A : Option Addr) (c : Nat) (a : List Tally) (self side : Int) (w : World) (hA : Rd w lo A 4 encTally a) (hl : a.length ≤ 100) (hf : talliesF a = 0) (hz : (outB self 0 1000 || outB side 0 1000) = true) :
    Calls Try.prog 40 #[.slice A a.length c, .int .i64 self, .int .i64 side] w (TalsNo 1 w) := by
  have hf' : (talliesF a != 0) = false := by simpa using hf
  clear hf
  cases h1 : outB self 0 1000 <;> cases h2 : outB side 0 1000
  · rw [h1, h2] at hz; cases hz
  all_goals
    clear hz
    go_enter Try.func40, Try.ntmps40
    go_wp2_with (first | (go_at_call 37; refine (w_CheckTallies _ _ _ _ _ hA (by omega)).mono ?_; rintro e w1 ⟨rfl, hn1⟩) | (go_at_call 52; refine (w_Out _ _ _ _).mono ?_; rintro e w' ⟨rfl, rfl⟩))
    go_ret2
    exact ⟨rfl, hn1⟩

set_option maxRecDepth 100000 in
set_option maxHeartbeats 4000000 in
theorem w_Smooth (lo : Nat) (A : Option Addr) (c : Nat) (a : List Tally) (self side : Int) (w : World) (hA : Rd w lo A 4 encTally a) (hl : a.length ≤ 50) (hf : talliesF a = 0) (h1 : outB self 0 1000 = false) (h2 : outB side 0 1000 = false) :
    Calls Try.prog 40 #[.slice A a.length c, .int .i64 self, .int .i64 side] w (Bnd (accF (a.flatMap (conP self side))) w) := by
  have hc1 := w_CheckTallies _ A c a w hA (by omega)
  rw [hf] at hc1
  have HC1 := hide hc1
  have HOK := hide (talliesF_ok hf).1
  have g1 := outB_false.1 h1
  have g2 := outB_false.1 h2
  have HA := hide hA
  generalize hnn : a.length = n at *
  have HN := hide hnn
  clear hA hc1 hf hnn
  have hmm := @run_makeMap Try.prog
  go_enter Try.func40, Try.ntmps40
  go_wp2_with (first | (go_at_call 37; refine HC1.out.mono ?_; rintro e w1 ⟨rfl, hn1⟩) | (go_at_call 52; refine (w_Out _ _ _ _).mono ?_; rintro e w' ⟨rfl, rfl⟩))
  obtain ⟨w2, hw2⟩ : ∃ w2, w2 = (w1.alloc (.map #[] 0)).alloc (.cells #[.map (some w1.heap.size)] 90) := ⟨_, rfl⟩
  have hM0 : MpP w2 w1.heap.size 0 (fun _ => 0) := by rw [hw2]; exact (MpI.made w1).nx ((Nx.refl _).alloc _)
  have hN2 : Nx w w2 := by rw [hw2]; exact (hn1.alloc _).alloc _
  have hbx : w2.cell? ⟨w1.heap.size + 1, 0, none⟩ = some (.map (some w1.heap.size)) := by rw [hw2]; go_simp
  have hs2 : w2.heap.size = w1.heap.size + 1 + 1 := by rw [hw2]; simp
  have hs1 := hn1.sz
  rw [← hw2]
  have HS2 := hide hs2
  have HM0 := hide hM0
  have HBX := hide hbx
  have hnb : some (w1.heap.size + 1) ≠ some w1.heap.size := by intro e; injection e with e; omega
  clear hw2 hs2 hM0 hbx
  go_loopw [12, 13, 14, 30] (fun _ _ _ i wr => ∃ k : Nat, k ≤ n ∧ i = .int .i64 k ∧ MpP wr w1.heap.size (5 * k) (accF ((a.take k).flatMap (conP self side))) ∧ Gr w1.heap.size w2 wr) (fun _ _ _ i _ => n - (intOf i).toNat)
  case atStart => exact ⟨0, Nat.zero_le _, rfl, HM0.out, Gr.refl _ _⟩
  case round =>
    obtain ⟨k, hk, rfl, hM, hbw⟩ := hrel
    have hNr : Nx w wr := Nx.of_gr ((Gr.of_nx hN2).trans hbw) hs1
    by_cases hlt : k < n
    · have hlt' : k < a.length := by have := HN.out; omega
      obtain ⟨b', off, rfl, _, hb, hbr, hc⟩ := HA.out.open_ hNr (by omega)
      have c0 : wr.cell? ⟨b', off + k * 4, none⟩ = some (.int .i64 a[k].x) := hc k hlt' 0 _ rfl
      have c1 : wr.cell? ⟨b', off + k * 4 + 1, none⟩ = some (.int .i64 a[k].y) := hc k hlt' 1 _ rfl
      have c2 : wr.cell? ⟨b', off + k * 4 + 2, none⟩ = some (.int .i64 a[k].hour) := hc k hlt' 2 _ rfl
      have c3 : wr.cell? ⟨b', off + k * 4 + 3, none⟩ = some (.int .i64 a[k].many) := hc k hlt' 3 _ rfl
      clear hc
      have hok := HOK.out a[k] (List.getElem_mem hlt')
      have HF := hide (flat_take self side a k hlt')
      have HPS := hide (cons_ok g1 g2 (l := a.take k) (fun t ht => HOK.out t (List.mem_of_mem_take ht)))
      have hpl : ((a.take k).flatMap (conP self side)).length ≤ 250 := by
        have h3 := HPS.out.2
        have h4 := List.length_take_le k a
        omega
      have HCP : conP self side a[k] = _ := rfl
      have HCO := hide (con_ok g1 g2 hok)
      generalize a[k] = t at *
      obtain ⟨⟨o1, o2⟩, o3, o4⟩ := hok
      have b1 : 0 ≤ self * t.many ∧ self * t.many ≤ 1000000000000 := ⟨Int.mul_nonneg g1.1 (by omega), Int.le_trans (Int.mul_le_mul g1.2 o4.2 (by omega) (by omega)) (by omega)⟩
      have b2 : 0 ≤ side * t.many ∧ side * t.many ≤ 1000000000000 := ⟨Int.mul_nonneg g2.1 (by omega), Int.le_trans (Int.mul_le_mul g2.2 o4.2 (by omega) (by omega)) (by omega)⟩
      obtain ⟨b11, b12⟩ := b1
      obtain ⟨b21, b22⟩ := b2
      clear HCP
      generalize (a.take k).flatMap (conP self side) = ps0 at *
      have hbxr : wr.cell? ⟨w1.heap.size + 1, 0, none⟩ = some (.map (some w1.heap.size)) := World.grownBy.cell hbw HBX.out hnb
      go_wp2_with fail
      go_quiet (fail)
      have hne : some wr.heap.size ≠ some w1.heap.size := by intro e; injection e with e; have := hM.lt; omega
      have hMl := hM.lt
      have hG0 : Gr w1.heap.size w2 ((wr.alloc (.cells #[.int .i64 t.x, .int .i64 t.y, .int .i64 t.hour, .int .i64 t.many] 47)).drewN nq) := (hbw.alloc _).drewN _
      have hM0' := hM.nx (((Nx.refl wr).alloc (.cells #[.int .i64 t.x, .int .i64 t.y, .int .i64 t.hour, .int .i64 t.many] 47)).drewN nq)
      have p2 : ((wr.alloc (.cells #[.int .i64 t.x, .int .i64 t.y, .int .i64 t.hour, .int .i64 t.many] 47)).drewN nq).cell? ⟨wr.heap.size, 2, none⟩ = some (.int .i64 t.hour) := by go_simp
      have p3 : ((wr.alloc (.cells #[.int .i64 t.x, .int .i64 t.y, .int .i64 t.hour, .int .i64 t.many] 47)).drewN nq).cell? ⟨wr.heap.size, 3, none⟩ = some (.int .i64 t.many) := by go_simp
      have pb : ((wr.alloc (.cells #[.int .i64 t.x, .int .i64 t.y, .int .i64 t.hour, .int .i64 t.many] 47)).drewN nq).cell? ⟨w1.heap.size + 1, 0, none⟩ = some (.map (some w1.heap.size)) := World.grownBy.cell hG0 HBX.out hnb
      have HG0 := hide hG0
      clear hM hG0
      go_wp2_with fail
      refine (w_add t.x t.y t.hour (self * t.many) (w1.heap.size + 1) w1.heap.size _ (ps0) _ pb (by omega) hM0' (by omega) (HPS.out.1) (by (try simp only [List.length_append]); have := cp_len t.x t.y t.hour (self * t.many); have := cp_len (t.x - 1) t.y t.hour (side * t.many); have := cp_len (t.x + 1) t.y t.hour (side * t.many); have := cp_len t.x (t.y - 1) t.hour (side * t.many); omega) o3 ⟨b11, b12⟩).mono ?_
      rintro e x1 ⟨rfl, hM1, hg1⟩
      replace p2 := World.grownBy.cell hg1 p2 hne
      replace p3 := World.grownBy.cell hg1 p3 hne
      replace pb := World.grownBy.cell hg1 pb hnb
      go_wp2_with fail
      refine (w_add (t.x - 1) t.y t.hour (side * t.many) (w1.heap.size + 1) w1.heap.size _ (ps0 ++ cp t.x t.y t.hour (self * t.many)) _ pb (by omega) hM1 (by omega) ((HPS.out.1).app (okPs.cp o3 ⟨b11, b12⟩)) (by (try simp only [List.length_append]); have := cp_len t.x t.y t.hour (self * t.many); have := cp_len (t.x - 1) t.y t.hour (side * t.many); have := cp_len (t.x + 1) t.y t.hour (side * t.many); have := cp_len t.x (t.y - 1) t.hour (side * t.many); omega) o3 ⟨b21, b22⟩).mono ?_
      rintro e x2 ⟨rfl, hM2, hg2⟩
      replace p2 := World.grownBy.cell hg2 p2 hne
      replace p3 := World.grownBy.cell hg2 p3 hne
      replace pb := World.grownBy.cell hg2 pb hnb
      go_wp2_with fail
      refine (w_add (t.x + 1) t.y t.hour (side * t.many) (w1.heap.size + 1) w1.heap.size _ (ps0 ++ cp t.x t.y t.hour (self * t.many) ++ cp (t.x - 1) t.y t.hour (side * t.many)) _ pb (by omega) hM2 (by omega) (((HPS.out.1).app (okPs.cp o3 ⟨b11, b12⟩)).app (okPs.cp o3 ⟨b21, b22⟩)) (by (try simp only [List.length_append]); have := cp_len t.x t.y t.hour (self * t.many); have := cp_len (t.x - 1) t.y t.hour (side * t.many); have := cp_len (t.x + 1) t.y t.hour (side * t.many); have := cp_len t.x (t.y - 1) t.hour (side * t.many); omega) o3 ⟨b21, b22⟩).mono ?_
      rintro e x3 ⟨rfl, hM3, hg3⟩
      replace p2 := World.grownBy.cell hg3 p2 hne
      replace p3 := World.grownBy.cell hg3 p3 hne
      replace pb := World.grownBy.cell hg3 pb hnb
      go_wp2_with fail
      refine (w_add t.x (t.y - 1) t.hour (side * t.many) (w1.heap.size + 1) w1.heap.size _ (ps0 ++ cp t.x t.y t.hour (self * t.many) ++ cp (t.x - 1) t.y t.hour (side * t.many) ++ cp (t.x + 1) t.y t.hour (side * t.many)) _ pb (by omega) hM3 (by omega) ((((HPS.out.1).app (okPs.cp o3 ⟨b11, b12⟩)).app (okPs.cp o3 ⟨b21, b22⟩)).app (okPs.cp o3 ⟨b21, b22⟩)) (by (try simp only [List.length_append]); have := cp_len t.x t.y t.hour (self * t.many); have := cp_len (t.x - 1) t.y t.hour (side * t.many); have := cp_len (t.x + 1) t.y t.hour (side * t.many); have := cp_len t.x (t.y - 1) t.hour (side * t.many); omega) o3 ⟨b21, b22⟩).mono ?_
      rintro e x4 ⟨rfl, hM4, hg4⟩
      replace p2 := World.grownBy.cell hg4 p2 hne
      replace p3 := World.grownBy.cell hg4 p3 hne
      replace pb := World.grownBy.cell hg4 pb hnb
      go_wp2_with fail
      refine (w_add t.x (t.y + 1) t.hour (side * t.many) (w1.heap.size + 1) w1.heap.size _ (ps0 ++ cp t.x t.y t.hour (self * t.many) ++ cp (t.x - 1) t.y t.hour (side * t.many) ++ cp (t.x + 1) t.y t.hour (side * t.many) ++ cp t.x (t.y - 1) t.hour (side * t.many)) _ pb (by omega) hM4 (by omega) (((((HPS.out.1).app (okPs.cp o3 ⟨b11, b12⟩)).app (okPs.cp o3 ⟨b21, b22⟩)).app (okPs.cp o3 ⟨b21, b22⟩)).app (okPs.cp o3 ⟨b21, b22⟩)) (by (try simp only [List.length_append]); have := cp_len t.x t.y t.hour (self * t.many); have := cp_len (t.x - 1) t.y t.hour (side * t.many); have := cp_len (t.x + 1) t.y t.hour (side * t.many); have := cp_len t.x (t.y - 1) t.hour (side * t.many); omega) o3 ⟨b21, b22⟩).mono ?_
      rintro e x5 ⟨rfl, hM5, hg5⟩
      replace p2 := World.grownBy.cell hg5 p2 hne
      replace p3 := World.grownBy.cell hg5 p3 hne
      replace pb := World.grownBy.cell hg5 pb hnb
      go_wp2
      go_roundw
      case rel => exact ⟨k + 1, by omega, by go_num, by rw [HF.out]; unfold conP; simp only [← List.append_assoc]; exact hM5.mono (by omega), ((((HG0.out.trans hg1).trans hg2).trans hg3).trans hg4).trans hg5⟩
      case measure => simp [intOf]; omega
    · have hk2 : k = a.length := by have := HN.out; omega
      have HPS := hide (cons_ok g1 g2 HOK.out)
      have hM' : MpP wr w1.heap.size (5 * n) (accF (a.flatMap (conP self side))) := by rw [hk2, List.take_length] at hM; exact hM.mono (by have := HN.out; omega)
      have hkeys : ∀ s, 0 < accF (a.flatMap (conP self side)) s → s ∈ (a.flatMap (conP self side)).map (·.1) := fun s hs => by
        obtain ⟨p, hp, rfl⟩ := accF_pos hs
        exact List.mem_map_of_mem hp
      have hpos : ∀ s, 0 < accF (a.flatMap (conP self side)) s → dom64 s := fun s hs => by
        obtain ⟨p, hp, rfl⟩ := List.mem_map.1 (hkeys s hs)
        exact HPS.out.1.2 p hp
      have pb : wr.cell? ⟨w1.heap.size + 1, 0, none⟩ = some (.map (some w1.heap.size)) := World.grownBy.cell hbw HBX.out hnb
      clear hM hk2
      go_wp2_with (go_at_call 77; refine (w_bounded _ _ _ _ hM' (by omega) hpos _ hkeys (by rw [List.length_map]; have := HPS.out.2; have := HN.out; omega)).mono ?_; rintro e w5 ⟨A5, c5, E5, zs, hB5, rfl, hR5, hn5⟩)
      go_ret2
      exact ⟨A5, c5, E5, zs, hB5, rfl, hR5.low hNr.sz, hNr.trans hn5⟩
end Go.Proofs.Ytjkpikhgknnbeaa
