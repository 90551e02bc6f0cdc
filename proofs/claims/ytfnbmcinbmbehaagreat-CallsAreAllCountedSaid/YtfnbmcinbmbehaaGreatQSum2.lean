/- Tallies of two lists added up, both ways. -/
import Derived.Test.YtfnbmcinbmbehaaGreatQBnd
namespace Go.Proofs.YtfnbmcinbmbehaaGreat
open Go.RowKit Go.Sort Go.Shelf Go.Maps

theorem acc_facts {l : List Tally} (h : ∀ t ∈ l, okTally t) (k : Nat) (s : Spot) : 0 ≤ accF ((l.take k).map pairT) s ∧ accF ((l.take k).map pairT) s ≤ l.length * 1000000000 := by
  have h1 := accF_bd 1000000000 ((l.take k).map pairT) (fun p hp => by
    obtain ⟨t, ht, rfl⟩ := List.mem_map.1 hp
    have := (h t (List.mem_of_mem_take ht)).2.2
    show 0 ≤ t.many ∧ t.many ≤ _
    omega) s
  have h2 : (((l.take k).map pairT).length : Int) ≤ l.length := by rw [List.length_map]; have := List.length_take_le' k l; omega
  omega
theorem w_Together_no (lo lo' : Nat) (A B : Option Addr) (c d : Nat) (a b : List Tally) (w : World) (hA : Rd w lo A 4 encTally a) (hB : Rd w lo' B 4 encTally b) (hl : a.length ≤ 100) (hl' : b.length ≤ 100) (hf : orI [talliesF a, talliesF b] ≠ 0) :
    Calls Tryz.prog 13 #[.slice A a.length c, .slice B b.length d] w (TalsNo (orI [talliesF a, talliesF b]) w) := by
  have hf' : (orI [talliesF a, talliesF b] != 0) = true := by simpa using hf
  clear hf
  go_enter Tryz.func13, Tryz.ntmps13
  go_wp2_with fail
  refine (w_CheckTallies _ _ _ _ _ hA (by omega)).mono ?_
  rintro e w1 ⟨rfl, hn1⟩
  go_wp2_with fail
  refine (w_CheckTallies _ _ _ _ _ (hB.nx hn1) (by omega)).mono ?_
  rintro e w2 ⟨rfl, hn2⟩
  go_wp2_with fail
  refine (w_First2 (talliesF a) (talliesF b) _ _ _ (hnew rfl)).mono ?_
  rintro e w3 ⟨rfl, rfl⟩
  go_wp2
  go_ret2
  exact ⟨rfl, (hn1.trans hn2).alloc _⟩

theorem acc_all {l : List Tally} (h : ∀ t ∈ l, okTally t) (s : Spot) : 0 ≤ accF (l.map pairT) s ∧ accF (l.map pairT) s ≤ l.length * 1000000000 := by
  have := acc_facts h l.length s
  rwa [List.take_length] at this

set_option maxRecDepth 100000 in
set_option maxHeartbeats 4000000 in
theorem w_Together (lo lo' : Nat) (A B : Option Addr) (c d : Nat) (a b : List Tally) (w : World) (hA : Rd w lo A 4 encTally a) (hB : Rd w lo' B 4 encTally b) (hl : a.length ≤ 100) (hl' : b.length ≤ 100) (ha : talliesF a = 0) (hb : talliesF b = 0) :
    Calls Tryz.prog 13 #[.slice A a.length c, .slice B b.length d] w (Bnd (accF ((a ++ b).map pairT)) w) := by
  have hc1 := w_CheckTallies _ A c a w hA (by omega)
  have hc2 := fun w1 (hn1 : Nx w w1) => w_CheckTallies _ B d b w1 (hB.nx hn1) (by omega)
  rw [ha] at hc1
  rw [hb] at hc2
  have HC1 := hide hc1
  have HC2 := hide hc2
  have hok : ∀ t ∈ a ++ b, okTally t := fun t ht => by
    rcases List.mem_append.1 ht with h | h
    · exact (talliesF_ok ha).1 t h
    · exact (talliesF_ok hb).1 t h
  have hlen : (a ++ b).length ≤ 200 := by rw [List.length_append]; omega
  have HOK := hide hok
  have HA := hide hA
  have HB := hide hB
  clear hA hB ha hb hc1 hc2 hok
  have hmm := @run_makeMap Tryz.prog
  go_enter Tryz.func13, Tryz.ntmps13
  go_wp2_with fail
  refine HC1.out.mono ?_
  rintro e w1 ⟨rfl, hn1⟩
  go_wp2_with fail
  refine (HC2.out _ hn1).mono ?_
  rintro e w2 ⟨rfl, hn2⟩
  go_wp2_with fail
  refine (w_First2 0 0 _ _ _ (hnew rfl)).mono ?_
  rintro e w3 ⟨rfl, rfl⟩
  have hw2 := hn1.trans hn2
  have E00 := hide (show orI [0, 0] = 0 from rfl)
  have e00 : (orI [0, 0] != 0) = false := by rw [E00.out]; rfl
  go_wp2_with fail
  refine (w_Concat2 _ _ _ _ A B c d a b _ (hnew (by simp)) (HA.out.nx (((hw2.alloc _).alloc (.map #[] 0)).alloc _)) (HB.out.nx (((hw2.alloc _).alloc (.map #[] 0)).alloc _)) (by omega)).mono ?_
  rintro e w4 ⟨A', c', rfl, hR4, hn4⟩
  have hM0 : MpP w4 (w2.heap.size + 1) 0 (fun _ => 0) := by
    have h := MpI.made (P := Tryz.prog) (K := 79) (E := 3) (ek := ekSpot) (dom := dom64) (w2.alloc (.cells #[.int .i64 0, .int .i64 0] 28))
    rw [show (w2.alloc (.cells #[.int .i64 0, .int .i64 0] 28)).heap.size = w2.heap.size + 1 by simp] at h
    exact h.nx (((Nx.refl _).alloc _).trans hn4)
  have hN4 : Nx w w4 := (((hw2.alloc _).alloc (.map #[] 0)).alloc _).trans hn4
  have hbw0 : w.heap.size ≤ (w2.heap.size + 1) := by have := hw2.sz; omega
  have HM0 := hide hM0
  have HR4 := hide (hR4.low (lo' := (w2.heap.size + 1) + 1) (by simp))
  clear hM0 hn4 hR4
  generalize a ++ b = l at *
  generalize hnn : l.length = n at *
  have HN := hide hnn
  clear hnn
  go_wp2_with fail
  go_loopw [9, 25] (fun _ i wr => ∃ k : Nat, k ≤ n ∧ i = .int .i64 k ∧ MpP wr (w2.heap.size + 1) k (accF ((l.take k).map pairT)) ∧ Gr (w2.heap.size + 1) w4 wr) (fun _ i _ => n - (intOf i).toNat)
  case atStart => exact ⟨0, Nat.zero_le _, rfl, HM0.out, Gr.refl _ _⟩
  case round =>
    obtain ⟨k, hk, rfl, hM, hbw⟩ := hrel
    by_cases hlt : k < n
    · have hlt' : k < l.length := by have := HN.out; omega
      obtain ⟨b', off, rfl, _, hb, hbr, hc⟩ := (HR4.out.gr hbw (Nat.lt_succ_self _)).open_ (Nx.refl wr) (by omega)
      have c0 : wr.cell? ⟨b', off + k * 4, none⟩ = some (.int .i64 l[k].x) := hc k hlt' 0 _ rfl
      have c1 : wr.cell? ⟨b', off + k * 4 + 1, none⟩ = some (.int .i64 l[k].y) := hc k hlt' 1 _ rfl
      have c2 : wr.cell? ⟨b', off + k * 4 + 2, none⟩ = some (.int .i64 l[k].hour) := hc k hlt' 2 _ rfl
      have c3 : wr.cell? ⟨b', off + k * 4 + 3, none⟩ = some (.int .i64 l[k].many) := hc k hlt' 3 _ rfl
      clear hc
      have hokk := HOK.out l[k] (List.getElem_mem hlt')
      have hmany := hokk.2.2
      have hdom := dom_tally hokk
      obtain ⟨kl, hkey⟩ := key_place _ _ _ hdom.1 hdom.2.1 hdom.2.2
      have HS := hide (acc_take l k hlt')
      have hv := acc_facts HOK.out k (keyT l[k])
      have hv2 : (l.length : Int) ≤ 200 := by have := HN.out; omega
      clear hokk
      have hM2 := hM.nx (((Nx.refl wr).alloc (.cells #[.int .i64 l[k].x, .int .i64 l[k].y, .int .i64 l[k].hour, .int .i64 l[k].many] 47)).drew)
      have hlk : (Instr.lookup 77 (.map (some (w2.heap.size + 1))) (.agg #[.int .i64 l[k].x, .int .i64 l[k].y, .int .i64 l[k].hour]) false).run Tryz.prog ((wr.alloc (.cells #[.int .i64 l[k].x, .int .i64 l[k].y, .int .i64 l[k].hour, .int .i64 l[k].many] 47)).drew) = .ok (.int .i64 (accF ((l.take k).map pairT) (keyT l[k]))) ((wr.alloc (.cells #[.int .i64 l[k].x, .int .i64 l[k].y, .int .i64 l[k].hour, .int .i64 l[k].many] 47)).drew) := (hM2.look law_place Tryz.underlying77 Tryz.underlying3 (zeroInt _) hdom hkey).1
      obtain ⟨v0, st, x2, hE, hgE, hl2, hst⟩ := hM2.entry klaw_place ekSpot_inj Tryz.underlying77 Tryz.underlying3 zeroInt (by unfold maxLen; omega) hdom hkey
      obtain ⟨x3, hSt, hM3, hg3⟩ := hst (accF ((l.take k).map pairT) (keyT l[k]) + l[k].many) (wf_i64.2 (by omega))
      rw [← HS.out] at hM3
      have hE' : (Instr.mapEntry 77 (.map (some (w2.heap.size + 1))) (.agg #[.int .i64 l[k].x, .int .i64 l[k].y, .int .i64 l[k].hour])).run Tryz.prog ((wr.alloc (.cells #[.int .i64 l[k].x, .int .i64 l[k].y, .int .i64 l[k].hour, .int .i64 l[k].many] 47)).drew) = .ok (.tuple #[v0, .int .i64 st]) x2 := hE
      have hlk2 : (Instr.lookup 77 (.map (some (w2.heap.size + 1))) (.agg #[.int .i64 l[k].x, .int .i64 l[k].y, .int .i64 l[k].hour]) false).run Tryz.prog x2 = .ok (.int .i64 (accF ((l.take k).map pairT) (keyT l[k]))) x2 := hl2
      have hMl := hM.lt
      have h4w := hN4.sz
      clear hl2 hE hst hM
      generalize accF ((l.take k).map pairT) (keyT l[k]) = v at *
      have d0 : ((wr.alloc (.cells #[.int .i64 l[k].x, .int .i64 l[k].y, .int .i64 l[k].hour, .int .i64 l[k].many] 47)).drew).cell? ⟨wr.heap.size, 0, none⟩ = some (.int .i64 l[k].x) := by go_simp
      have d1 : ((wr.alloc (.cells #[.int .i64 l[k].x, .int .i64 l[k].y, .int .i64 l[k].hour, .int .i64 l[k].many] 47)).drew).cell? ⟨wr.heap.size, 1, none⟩ = some (.int .i64 l[k].y) := by go_simp
      have d2 : ((wr.alloc (.cells #[.int .i64 l[k].x, .int .i64 l[k].y, .int .i64 l[k].hour, .int .i64 l[k].many] 47)).drew).cell? ⟨wr.heap.size, 2, none⟩ = some (.int .i64 l[k].hour) := by go_simp
      have d3 : ((wr.alloc (.cells #[.int .i64 l[k].x, .int .i64 l[k].y, .int .i64 l[k].hour, .int .i64 l[k].many] 47)).drew).cell? ⟨wr.heap.size, 3, none⟩ = some (.int .i64 l[k].many) := by go_simp
      have hne : some wr.heap.size ≠ some (w2.heap.size + 1) := by intro e; injection e with e; omega
      have hSt' : (Instr.entryStore 77 (.map (some (w2.heap.size + 1))) (.int .i64 st) (.int .i64 (IntKind.i64.wrap (v + l[k].many)))).run Tryz.prog x2 = .ok () x3 := by rw [IntWalk.i64_in _ (by omega)]; exact hSt
      clear hSt
      have E0 := hide (hgE.cell d0 hne)
      have E1 := hide (hgE.cell d1 hne)
      have E2 := hide (hgE.cell d2 hne)
      have E3 := hide (hgE.cell d3 hne)
      have F0 := hide (hg3.cell d0 hne)
      have F1 := hide (hg3.cell d1 hne)
      have F2 := hide (hg3.cell d2 hne)
      have F3 := hide (hg3.cell d3 hne)
      clear d0 d1 d2 d3
      go_wp2_with fail
      go_region_held3 (fun w' => w'.cell? ⟨wr.heap.size, 0, none⟩ = some (.int .i64 l[k].x) ∧ w'.cell? ⟨wr.heap.size, 1, none⟩ = some (.int .i64 l[k].y) ∧ w'.cell? ⟨wr.heap.size, 2, none⟩ = some (.int .i64 l[k].hour) ∧ w'.cell? ⟨wr.heap.size, 3, none⟩ = some (.int .i64 l[k].many))
        (first | go_keep | exact ⟨E0.out, E1.out, E2.out, E3.out⟩ | exact ⟨F0.out, F1.out, F2.out, F3.out⟩)
        (first | fail)
      all_goals go_wp2
      all_goals exact ⟨⟨k + 1, by omega, by go_num, hM3, ((hbw.alloc _).drew).grown hg3 (fun j hj => by injection hj with hj; exact .inl hj.symm)⟩, by simp [intOf]; omega⟩
    · have hk2 : k = l.length := by have := HN.out; omega
      have hM' : MpP wr (w2.heap.size + 1) n (accF (l.map pairT)) := by rw [hk2, List.take_length] at hM; exact hM.mono (by omega)
      have hkeys : ∀ s, 0 < accF (l.map pairT) s → s ∈ l.map keyT := fun s hs => by
        obtain ⟨p, hp, rfl⟩ := accF_pos hs
        obtain ⟨t, ht, rfl⟩ := List.mem_map.1 hp
        exact List.mem_map_of_mem ht
      have hpos : ∀ s, 0 < accF (l.map pairT) s → dom64 s := fun s hs => by
        obtain ⟨t, ht, rfl⟩ := List.mem_map.1 (hkeys s hs)
        exact dom_tally (HOK.out t ht)
      clear hM hk2
      go_wp2_with (go_at_call 38; refine (w_bounded _ _ _ _ hM' (by omega) hpos (l.map keyT) hkeys (by rw [List.length_map]; have := HN.out; omega)).mono ?_; rintro e w5 ⟨A5, c5, E5, zs, hB5, rfl, hR5, hn5⟩)
      go_ret2
      exact ⟨A5, c5, E5, zs, hB5, rfl, hR5.low (by have := hbw.sz; have := hN4.sz; omega), (Nx.of_gr ((Gr.of_nx hN4).trans hbw) hbw0).trans hn5⟩

end Go.Proofs.YtfnbmcinbmbehaaGreat
