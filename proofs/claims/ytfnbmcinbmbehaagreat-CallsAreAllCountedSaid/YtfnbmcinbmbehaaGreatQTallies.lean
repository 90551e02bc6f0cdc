/- How many calls there were: both ways. -/
import Derived.Test.YtfnbmcinbmbehaaGreatQG5
import Derived.Maps.OwnSet
namespace Go.Proofs.YtfnbmcinbmbehaaGreat
open Go.RowKit Go.Sort Go.Shelf Go.Maps

theorem dom_spot {size zone : Int} {c : Call} (hs : 1 ≤ size) (hc : okCall c) : dom64 (spotOf size zone c) := by
  have h1 := div_bd hs hc.2.1
  have h2 := div_bd hs hc.2.2
  have h3 := hourI_bd c.at_ zone
  exact ⟨wf_i64.2 (by show _ ≤ c.x / size ∧ c.x / size ≤ _; omega), wf_i64.2 (by show _ ≤ c.y / size ∧ c.y / size ≤ _; omega), wf_i64.2 (by show _ ≤ hourI c.at_ zone ∧ hourI c.at_ zone ≤ _; omega)⟩
theorem klaw_place : WideMaps.KeyLaw Tryz.prog 79 := deep_law_laid laidOut (m := 5) (by omega) (k := 79) (by rw [tySize]; decide) (by kernel_rfl) (by kernel_rfl)
attribute [local go_sem ↓] neq_Cell eql_Cell
attribute [local go_sem] gd_Cell

/-- Not more than 400 tallies are not too many cells. -/
def Few (w : World) (e : Ending) (w' : World) : Prop := e = .returned (.bool false) ∧ Nx w w'
set_option maxRecDepth 100000 in
set_option maxHeartbeats 1000000 in
theorem w_manyCells (lo : Nat) (A : Option Addr) (c : Nat) (l : List Tally) (w : World) (hR : Rd w lo A 4 encTally l) (hl : l.length ≤ 400) :
    Calls Tryz.prog 34 #[.slice A l.length c] w (Few w) := by
  generalize hn : l.length = n at *
  have HR := hide hR
  have HN := hide hn
  clear hR hn
  go_enter Tryz.func34, Tryz.ntmps34
  go_wp2
  go_loopw [3, 4, 5, 8] (fun m _ _ i wr => ∃ k j : Nat, k ≤ n ∧ j ≤ k ∧ m = .int .i64 j ∧ i = .int .i64 k ∧ Nx w wr) (fun _ _ _ i _ => n - (intOf i).toNat)
  case atStart => exact ⟨0, 0, Nat.zero_le _, Nat.le_refl _, rfl, rfl, Nx.refl _⟩
  case round =>
    obtain ⟨k, j, hk, hj, rfl, rfl, hbw⟩ := hrel
    by_cases hlt : k < n
    · have hlt' : k < l.length := by have := HN.out; omega
      obtain ⟨b, off, rfl, _, hb, hbr, hc⟩ := HR.out.open_ hbw (by omega)
      have c0 : wr.cell? ⟨b, off + k * 4, none⟩ = some (.int .i64 l[k].x) := hc k hlt' 0 _ rfl
      have c1 : wr.cell? ⟨b, off + k * 4 + 1, none⟩ = some (.int .i64 l[k].y) := hc k hlt' 1 _ rfl
      have c2 : wr.cell? ⟨b, off + k * 4 + 2, none⟩ = some (.int .i64 l[k].hour) := hc k hlt' 2 _ rfl
      have c3 : wr.cell? ⟨b, off + k * 4 + 3, none⟩ = some (.int .i64 l[k].many) := hc k hlt' 3 _ rfl
      by_cases hk0 : 0 < k
      · have c4 : wr.cell? ⟨b, off + (k - 1) * 4, none⟩ = some (.int .i64 (l[k - 1]'(by omega)).x) := hc (k - 1) (by omega) 0 _ rfl
        have c5 : wr.cell? ⟨b, off + (k - 1) * 4 + 1, none⟩ = some (.int .i64 (l[k - 1]'(by omega)).y) := hc (k - 1) (by omega) 1 _ rfl
        generalize (l[k - 1]'(by omega)).x = p0 at *
        generalize (l[k - 1]'(by omega)).y = p1 at *
        clear hc
        have q0 : ((k : Int) == 0) = false := by simp; omega
        have q1 : IntKind.i64.wrap ((k : Int) - 1) = (k : Int) - 1 := IntWalk.i64_in _ (by omega)
        have q2 : (1 : Int) ≤ (k : Int) := by omega
        have q3 : ((k : Int) - 1).toNat = k - 1 := by omega
        have q4 : (k : Int) - 1 < (n : Int) := by omega
        go_wp2_with fail
        go_quiet (fail)
        go_wp2
        all_goals go_roundw
        all_goals first
          | (case rel => exact ⟨k + 1, j, by omega, by omega, rfl, by go_num, (hbw.alloc _).drewN _⟩)
          | (case rel => exact ⟨k + 1, j + 1, by omega, by omega, by go_num, by go_num, (hbw.alloc _).drewN _⟩)
          | (case measure => simp [intOf]; omega)
      · have q0 : ((k : Int) == 0) = true := by simp; omega
        clear hc
        go_wp2_with fail
        go_quiet (fail)
        go_wp2
        go_roundw
        case rel => exact ⟨k + 1, j + 1, by omega, by omega, by go_num, by go_num, (hbw.alloc _).drewN _⟩
        case measure => simp [intOf]; omega
    · go_wp2
      go_ret
      exact ⟨ret_bool (by simp; omega), hbw⟩

/-- How many different cells tallies have: no more than there are tallies. -/
def AtMost (n : Nat) (w : World) (e : Ending) (w' : World) : Prop := ∃ k : Nat, k ≤ n ∧ e = .returned (.int .i64 (k : Int)) ∧ Nx w w'
theorem key_cell (x y : Int) (hx : (Lit.int .i64 x).wf = true) (hy : (Lit.int .i64 y).wf = true) : ∃ l, keyOf Tryz.prog 45 (.agg #[.int .i64 x, .int .i64 y]) = some l := by
  refine ⟨.string (keyBytes [.int .i64 x, .int .i64 y]), ?_⟩
  unfold keyOf
  rw [Tryz.underlying45, kt_cell, tySize]
  have e := lits_cell 247 x y hx hy
  simp [Value.formed, Tryz.underlying45, cells_cell, Value.cells, e]
/-- Tallies of calls, and no fault. -/
def TalsOk (size zone : Int) (l : List Call) (w : World) (e : Ending) (w' : World) : Prop :=
  ∃ (A : Option Addr) (c : Nat) (ys : List Tally), e = .returned (.tuple #[.slice A ys.length c, .int .i64 0]) ∧ Listed (cntF size zone l) ys ∧ Rd w' w.heap.size A 4 encTally ys ∧ Nx w w'
/-- No tallies, and a fault. -/
def TalsNo (f : Int) (w : World) (e : Ending) (w' : World) : Prop := e = .returned (.tuple #[.slice none 0 0, .int .i64 f]) ∧ Nx w w'
theorem listed_len {f : Spot → Int} {ys : List Tally} (h : Listed f ys) (keys : List Spot) (hk : ∀ k, 0 < f k → k ∈ keys) : ys.length ≤ keys.length := by
  have hnd : (ys.map keyT).Nodup := by
    rw [List.nodup_iff_pairwise_ne, List.pairwise_map]
    exact h.sorted.imp fun {a b} hab e => by have := (@tallyC_zero a b).2 e; omega
  have hsub : ys.map keyT ⊆ keys := fun k hk' => by
    obtain ⟨t, ht, rfl⟩ := List.mem_map.1 hk'
    have := (h.mem t).1 ht
    exact hk _ (by omega)
  have := hnd.length_le_of_subset hsub
  simpa using this
theorem w_Tallies_fault (lo : Nat) (A : Option Addr) (c : Nat) (l : List Call) (size zone : Int) (w : World) (hR : Rd w lo A 3 encCall l) (hl : l.length ≤ 65536) (hf : callsF l ≠ 0) :
    Calls Tryz.prog 12 #[.slice A l.length c, .int .i64 size, .int .i64 zone] w (TalsNo (callsF l) w) := by
  have hf' : (callsF l != 0) = true := by simpa using hf
  go_enter Tryz.func12, Tryz.ntmps12
  go_wp2_with (go_at_call 30; refine (w_CheckCalls lo A c l w hR hl).mono ?_; rintro e w1 ⟨rfl, hn1⟩)
  go_ret2
  exact ⟨rfl, hn1⟩
theorem w_Tallies_arg (lo : Nat) (A : Option Addr) (c : Nat) (l : List Call) (size zone : Int) (w : World) (hR : Rd w lo A 3 encCall l) (hl : l.length ≤ 65536) (hf : callsF l = 0) (hz : (outB size 1 10000 || outB zone (-1440) 1440) = true) :
    Calls Tryz.prog 12 #[.slice A l.length c, .int .i64 size, .int .i64 zone] w (TalsNo 1 w) := by
  cases h1 : outB size 1 10000 <;> cases h2 : outB zone (-1440) 1440
  · rw [h1, h2] at hz; cases hz
  all_goals
    clear hz
    go_enter Tryz.func12, Tryz.ntmps12
    go_wp2_with (first | (go_at_call 30; refine (w_CheckCalls lo A c l w hR hl).mono ?_; rintro e w1 ⟨rfl, hn1⟩) | (go_at_call 31; refine (w_Out _ _ _ _).mono ?_; rintro e w' ⟨rfl, rfl⟩))
    go_ret2
    exact ⟨rfl, hn1⟩

set_option maxRecDepth 100000 in
set_option maxHeartbeats 2000000 in
theorem w_Tallies (lo : Nat) (A : Option Addr) (c : Nat) (l : List Call) (size zone : Int) (w : World) (hR : Rd w lo A 3 encCall l) (hl : l.length ≤ 400) (hf : callsF l = 0) (h1 : outB size 1 10000 = false) (h2 : outB zone (-1440) 1440 = false) :
    Calls Tryz.prog 12 #[.slice A l.length c, .int .i64 size, .int .i64 zone] w (TalsOk size zone l w) := by
  have hcc := w_CheckCalls lo A c l w hR (by omega)
  rw [hf] at hcc
  have HCC := hide hcc
  have HOK := hide (callsF_ok hf)
  have g1 := outB_false.1 h1
  have g2 := outB_false.1 h2
  generalize hn : l.length = n at *
  have HR := hide hR
  have HN := hide hn
  clear hR hn hcc hf
  have hmm := @run_makeMap Tryz.prog
  go_enter Tryz.func12, Tryz.ntmps12
  go_wp2_with (first | (go_at_call 30; refine HCC.out.mono ?_; rintro e w1 ⟨rfl, hn1⟩) | (go_at_call 31; refine (w_Out _ _ _ _).mono ?_; rintro e w' ⟨rfl, rfl⟩))
  go_loopw [11, 27] (fun _ i wr => ∃ k : Nat, k ≤ n ∧ i = .int .i64 k ∧ MpP wr w1.heap.size k (cntF size zone (l.take k)) ∧ Nx w wr) (fun _ i _ => n - (intOf i).toNat)
  case atStart => exact ⟨0, Nat.zero_le _, rfl, MpI.made w1, hn1.alloc _⟩
  case round =>
    obtain ⟨k, hk, rfl, hM, hbw⟩ := hrel
    by_cases hlt : k < n
    · have hlt' : k < l.length := by have := HN.out; omega
      obtain ⟨b, off, rfl, _, hb, hbr, hc⟩ := HR.out.open_ hbw (by omega)
      have c0 : wr.cell? ⟨b, off + k * 3, none⟩ = some (.int .i64 l[k].at_) := hc k hlt' 0 _ rfl
      have c1 : wr.cell? ⟨b, off + k * 3 + 1, none⟩ = some (.int .i64 l[k].x) := hc k hlt' 1 _ rfl
      have c2 : wr.cell? ⟨b, off + k * 3 + 2, none⟩ = some (.int .i64 l[k].y) := hc k hlt' 2 _ rfl
      clear hc
      have hok := HOK.out l[k] (List.getElem_mem hlt')
      obtain ⟨o1, o2, o3⟩ := hok
      have hdom := dom_spot (zone := zone) (size := size) (c := l[k]) (by omega) ⟨o1, o2, o3⟩
      obtain ⟨kl, hkey⟩ := key_place _ _ _ hdom.1 hdom.2.1 hdom.2.2
      have HS := hide (cntF_step size zone l k hlt' _ rfl)
      go_wp2_with fail
      have hM2 := hM.nx (((Nx.refl wr).alloc (.cells #[.int .i64 l[k].at_, .int .i64 l[k].x, .int .i64 l[k].y] 71)).drew)
      have hlk : (Instr.lookup 77 (.map (some w1.heap.size)) (.agg #[.int .i64 (l[k].x / size), .int .i64 (l[k].y / size), .int .i64 (hourI l[k].at_ zone)]) false).run Tryz.prog ((wr.alloc (.cells #[.int .i64 l[k].at_, .int .i64 l[k].x, .int .i64 l[k].y] 71)).drew) = .ok (.int .i64 (cntF size zone (l.take k) (spotOf size zone l[k]))) ((wr.alloc (.cells #[.int .i64 l[k].at_, .int .i64 l[k].x, .int .i64 l[k].y] 71)).drew) := (hM2.look law_place Tryz.underlying77 Tryz.underlying3 (zeroInt _) hdom hkey).1
      obtain ⟨v0, st, w2, hE, hgE, hl2, hst⟩ := hM2.entry klaw_place ekSpot_inj Tryz.underlying77 Tryz.underlying3 zeroInt (by unfold maxLen; omega) hdom hkey
      have v1 := cntF_ge size zone (l.take k) (spotOf size zone l[k])
      have v2 := cntF_le size zone (l.take k) (spotOf size zone l[k])
      have v3 := List.length_take_le k l
      obtain ⟨w3, hSt, hM3, hg3⟩ := hst (cntF size zone (l.take k) (spotOf size zone l[k]) + 1) (wf_i64.2 (by omega))
      rw [← HS.out] at hM3
      have hE' : (Instr.mapEntry 77 (.map (some w1.heap.size)) (.agg #[.int .i64 (l[k].x / size), .int .i64 (l[k].y / size), .int .i64 (hourI l[k].at_ zone)])).run Tryz.prog ((wr.alloc (.cells #[.int .i64 l[k].at_, .int .i64 l[k].x, .int .i64 l[k].y] 71)).drew) = .ok (.tuple #[v0, .int .i64 st]) w2 := hE
      have hlk2 : (Instr.lookup 77 (.map (some w1.heap.size)) (.agg #[.int .i64 (l[k].x / size), .int .i64 (l[k].y / size), .int .i64 (hourI l[k].at_ zone)]) false).run Tryz.prog w2 = .ok (.int .i64 (cntF size zone (l.take k) (spotOf size zone l[k]))) w2 := hl2
      clear hl2
      have hMl := hM.lt
      clear hE hst hM
      generalize cntF size zone (l.take k) (spotOf size zone l[k]) = v at *
      have d0 : ((wr.alloc (.cells #[.int .i64 l[k].at_, .int .i64 l[k].x, .int .i64 l[k].y] 71)).drew).cell? ⟨wr.heap.size, 0, none⟩ = some (.int .i64 l[k].at_) := by go_simp
      have d1 : ((wr.alloc (.cells #[.int .i64 l[k].at_, .int .i64 l[k].x, .int .i64 l[k].y] 71)).drew).cell? ⟨wr.heap.size, 1, none⟩ = some (.int .i64 l[k].x) := by go_simp
      have d2 : ((wr.alloc (.cells #[.int .i64 l[k].at_, .int .i64 l[k].x, .int .i64 l[k].y] 71)).drew).cell? ⟨wr.heap.size, 2, none⟩ = some (.int .i64 l[k].y) := by go_simp
      have hne : some wr.heap.size ≠ some w1.heap.size := by intro e; injection e with e; omega
      have hSt' : (Instr.entryStore 77 (.map (some w1.heap.size)) (.int .i64 st) (.int .i64 (IntKind.i64.wrap (v + 1)))).run Tryz.prog w2 = .ok () w3 := by rw [IntWalk.i64_in _ (by omega)]; exact hSt
      clear hSt
      have E0 := hide (hgE.cell d0 hne)
      have E1 := hide (hgE.cell d1 hne)
      have E2 := hide (hgE.cell d2 hne)
      have F0 := hide (hg3.cell d0 hne)
      have F1 := hide (hg3.cell d1 hne)
      have F2 := hide (hg3.cell d2 hne)
      clear d0 d1 d2
      go_region_held3 (fun w' => w'.cell? ⟨wr.heap.size, 0, none⟩ = some (.int .i64 l[k].at_) ∧ w'.cell? ⟨wr.heap.size, 1, none⟩ = some (.int .i64 l[k].x) ∧ w'.cell? ⟨wr.heap.size, 2, none⟩ = some (.int .i64 l[k].y))
        (first | go_keep | exact ⟨E0.out, E1.out, E2.out⟩ | exact ⟨F0.out, F1.out, F2.out⟩)
        (first
          | (go_at_call 16; refine (w_Down _ _ _ (by omega) (by omega)).mono ?_; rintro e w' ⟨rfl, rfl⟩)
          | (go_at_call 32; refine (w_hourOf _ _ _ (by omega) (by omega)).mono ?_; rintro e w' ⟨rfl, rfl⟩))
      all_goals go_wp2
      all_goals exact ⟨⟨k + 1, by omega, by go_num, hM3, ((hbw.alloc _).drew).grown hg3 (fun j hj => by injection hj with hj; have := hn1.sz; omega)⟩, by simp [intOf]; omega⟩
    · have hk2 : k = l.length := by have := HN.out; omega
      have hM' : MpP wr w1.heap.size k (cntF size zone l) := by rw [hk2] at hM; rw [List.take_length] at hM; exact hM.mono (by omega)
      have hpos : ∀ s, 0 < cntF size zone l s → dom64 s := fun s hs => by
        obtain ⟨c, hc, rfl⟩ := cntF_pos hs
        exact dom_spot (by omega) (HOK.out c hc)
      clear hM hk2
      go_wp2_with (go_at_call 33; refine (w_placelisted _ _ _ _ hM' (by omega) hpos).mono ?_; rintro e w2 ⟨A2, c2, ys, rfl, hL, hR2, hn2⟩)
      have hyl : ys.length ≤ 400 := by
        have h3 := listed_len hL (l.map (spotOf size zone)) (fun s hs => by obtain ⟨c, hc, rfl⟩ := cntF_pos hs; exact List.mem_map_of_mem hc)
        have := HN.out
        rw [List.length_map] at h3; omega
      go_wp2_with (go_at_call 34; refine (w_manyCells _ _ _ _ _ hR2 hyl).mono ?_; rintro e w3 ⟨rfl, hn3⟩)
      go_ret2
      exact ⟨A2, c2, ys, rfl, hL, (hR2.nx hn3).low hbw.sz, (hbw.trans hn2).trans hn3⟩
end Go.Proofs.YtfnbmcinbmbehaaGreat
