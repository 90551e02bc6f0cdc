/- demand.Read and the reference's TalliesRead, exactly; what both answer. -/
import Derived.Test.YthlhomcgjgfdhaaGreatDoorQTalY
import Derived.Test.YthlhomcgjgfdhaaGreatDoorQLinF
import Derived.Deep.DeepCutAuto
namespace Go.Proofs.YthlhomcgjgfdhaaGreatDoor
open Go.RowKit

theorem text_len8 (L : List Tally) : 8 * L.length ≤ (tallyText L).length := text_len L
theorem read_okT {ls : List ByteArray} {L : List Tally} (h : dataL ls = L.map tallyLine) (hL : ∀ t ∈ L, Digs t) : ls.all okT = true := by
  rw [List.all_eq_true]
  intro s hs
  have h1 : s.data.toList ∈ dataL ls := List.mem_map.2 ⟨s, hs, rfl⟩
  rw [h] at h1
  obtain ⟨t, ht, e⟩ := List.mem_map.1 h1
  unfold okT
  rw [← e, readT_line (hL t ht)]; rfl
/-- demand.Read, and the reference's TalliesRead, of a string. -/
def ReadTE (text : ByteArray) (w : World) (e : Ending) (w' : World) : Prop :=
  Nx w w' ∧ ∃ (ls : List ByteArray) (ends : Bool), linesL text.data.toList = (dataL ls, ends) ∧
    ((∃ (L : List Tally) (A : Option Addr) (c : Nat), ends = true ∧ dataL ls = L.map tallyLine ∧ (∀ t ∈ L, Digs t) ∧ Rd w' w.heap.size A 4 encTally L ∧ L.length ≤ 400 ∧
        ((talliesF L = 0 ∧ e = .returned (.tuple #[.slice A L.length c, .int .i64 0, .int .i64 0])) ∨ (talliesF L ≠ 0 ∧ e = .returned (.tuple #[.slice none 0 0, .int .i64 0, .int .i64 (talliesF L)])))) ∨
      (∃ j : Nat, BadAt okT ls ends j ∧ e = .returned (.tuple #[.slice none 0 0, .int .i64 j, .int .i64 9])))
theorem eg_readT1 : Enters 64 := enters_of Tryz.func64 (by kernel_rfl) rfl
theorem eg_readT2 : Enters 68 := enters_of Tryz.func68 (by kernel_rfl) rfl
theorem IT.drewN {b : Nat} {w1 W : World} {d : List ByteArray} (h : IT b w1 d W) (n : Nat) : IT b w1 d (W.drewN n) := by
  obtain ⟨L, v, hdl, hdg, hbox, hown, hb⟩ := h
  have hn : Nx W (W.drewN n) := (Nx.refl W).drewN n
  exact ⟨L, v, hdl, hdg, (hn.block b (Array.getElem?_eq_some_iff.1 hbox).1).trans hbox, own_nx hown hn, hb⟩
set_option maxRecDepth 100000 in
set_option maxHeartbeats 4000000 in
theorem w_ReadTX (text : ByteArray) (hs : text.size ≤ 3200) (w : World) (hM : MaxI w) : Calls Tryz.prog 22 #[.string text] w (ReadTE text w) := by
  obtain ⟨b, hb⟩ : ∃ b, b = w.heap.size := ⟨_, rfl⟩
  obtain ⟨w0, hw0⟩ : ∃ w0, w0 = w.alloc (.cells #[.slice none 0 0] 26 (0, 0)) := ⟨_, rfl⟩
  have HB0 := hide (show w0.heap[b]? = some (.cells #[.slice none 0 0] 26 (0, 0)) by rw [hw0, hb]; exact heap_alloc_new w _)
  have HN0 := hide (show Nx w w0 from hw0 ▸ (Nx.refl w).alloc _)
  have hb0 : b < w0.heap.size := (Array.getElem?_eq_some_iff.1 HB0.out).1
  have hbw : w.heap.size ≤ b := by omega
  have HE := hide (w_Each text (by omega) 64 (.pointer (some ⟨b, 0, none⟩)) eg_readT1 b okT (IT b) w0 (hM.nx HN0.out) hb0
    (fun w1 hn => ⟨[], .slice none 0 0, rfl, (fun t ht => by cases ht), (hn.block b hb0).trans HB0.out, World.ownsRow_nil _ _ _ _, Nat.lt_of_lt_of_le hb0 hn.sz⟩)
    (fun w1 hn d line W hg hls hdl h => w_Read1 b w1 d line W (hM.grb hbw (HN0.out.trans hn) hg) (by omega) (by omega) hg h))
  have hsz : ¬ (200000 : Int) < (text.size : Int) := by omega
  have HS := hide hs
  clear hM hs
  go_enter Tryz.func22, Tryz.ntmps22
  go_upto_region 4 with fail
  rw [← hw0, ← hb]
  clear hw0 hb
  go_upto_region 5 with (go_at_call 63; refine HE.out.mono ?_; rintro e w3 ⟨ls, ends, hll, hle, hg3, hcase⟩; rcases hcase with ⟨rfl, hall, rfl, w1, hn1, hg1, hI⟩ | ⟨i, hbad, rfl⟩)
  · obtain ⟨L, v, hdl, hdg, hbox, hown, hbw1⟩ := hI
    have htx : tallyText L = text.data.toList := by unfold tallyText; rw [← hdl]; exact linesL_inv hll
    have hlen : L.length ≤ 400 := by
      have h1 := text_len8 L
      rw [htx, len_data] at h1
      have := HS.out
      omega
    obtain ⟨A1, c1, ev, hR, _⟩ := Rd.of_own encTally_len rfl hown
    obtain rfl := ev
    have c0 : w3.cell? ⟨b, 0, none⟩ = some (.slice A1 L.length c1) := cell_of_row w3 b 0 _ _ _ hbox
    have hbl3 : b < w3.heap.size := (Array.getElem?_eq_some_iff.1 hbox).1
    have HJ := hide hR
    have HDG := hide hdg
    have HTX := hide htx
    have HDL := hide hdl
    have HLL := hide hll
    have HLEN := hide hlen
    have HG3 := hide (Nx.of_gr ((Gr.of_nx HN0.out).trans hg3) hbw)
    have HCT := hide (w_CheckTallies w1.heap.size A1 c1 L w3 hR (by omega))
    have hw1 : w.heap.size ≤ w1.heap.size := Nat.le_trans HN0.out.sz hn1.sz
    obtain ⟨F, hF⟩ : ∃ F, F = talliesF L := ⟨_, rfl⟩
    rw [← hF] at HCT
    have HFE := hide hF
    clear hF hdl hbox hown hdg hR htx hlen hll hall hg1 hg3 hn1 HE
    by_cases h0 : F = 0
    · have t1 : (F != 0) = false := by simp [h0]
      have H0 := hide h0
      clear h0
      go_wp2_with (go_at_call 48; refine HCT.out.mono ?_; rintro e w5 ⟨rfl, hn5⟩; (have c5 := nx_cell hn5 hbl3 c0))
      go_ret3
      exact ⟨HG3.out.trans hn5, ls, true, HLL.out, .inl ⟨L, A1, c1, rfl, HDL.out, HDG.out, (HJ.out.nx hn5).low hw1, HLEN.out, .inl ⟨by rw [← HFE.out]; exact H0.out, rfl⟩⟩⟩
    · have t1 : (F != 0) = true := by simpa using h0
      have H0 := hide h0
      clear h0
      go_wp2_with (go_at_call 48; refine HCT.out.mono ?_; rintro e w5 ⟨rfl, hn5⟩; (have c5 := nx_cell hn5 hbl3 c0))
      go_ret3
      exact ⟨HG3.out.trans hn5, ls, true, HLL.out, .inl ⟨L, A1, c1, rfl, HDL.out, HDG.out, (HJ.out.nx hn5).low hw1, HLEN.out, .inr ⟨by rw [← HFE.out]; exact H0.out, by rw [← HFE.out]; rfl⟩⟩⟩
  · have HG3 := hide (Nx.of_gr ((Gr.of_nx HN0.out).trans hg3) hbw)
    have HLL := hide hll
    have HBAD := hide hbad
    clear hll hbad hg3 HE
    go_wp2_with fail
    go_ret3
    exact ⟨HG3.out, ls, ends, HLL.out, .inr ⟨i, HBAD.out, rfl⟩⟩
set_option maxRecDepth 100000 in
set_option maxHeartbeats 4000000 in
theorem w_ReadTY (text : ByteArray) (hs : text.size ≤ 3200) (w : World) (hM : MaxI w) (hT : PowTab w) : Calls Tryz.prog 23 #[.string text] w (ReadTE text w) := by
  obtain ⟨b, hb⟩ : ∃ b, b = w.heap.size := ⟨_, rfl⟩
  obtain ⟨w0, hw0⟩ : ∃ w0, w0 = w.alloc (.cells #[.slice none 0 0] 26 (0, 0)) := ⟨_, rfl⟩
  have HB0 := hide (show w0.heap[b]? = some (.cells #[.slice none 0 0] 26 (0, 0)) by rw [hw0, hb]; exact heap_alloc_new w _)
  have HN0 := hide (show Nx w w0 from hw0 ▸ (Nx.refl w).alloc _)
  have hb0 : b < w0.heap.size := (Array.getElem?_eq_some_iff.1 HB0.out).1
  have hbw : w.heap.size ≤ b := by omega
  have HNW := hide (fun W (hg : Gr b w0 W) => (show Nx w W from Nx.of_gr ((Gr.of_nx HN0.out).trans hg) hbw))
  have HE := hide (w_LinesX text (by omega) 68 (.pointer (some ⟨b, 0, none⟩)) eg_readT2 b okT (IT b) w0 (fun W hg => hM.nx (HNW.out W hg))
    ⟨[], .slice none 0 0, rfl, (fun t ht => by cases ht), HB0.out, World.ownsRow_nil _ _ _ _, hb0⟩
    (fun d W n h => IT.drewN h n)
    (fun d line W hg hls hdl h => w_Read2 b w0 d line W (hM.nx (HNW.out W hg)) (tab_nx hT (HNW.out W hg)) (by omega) (by omega) hg h))
  have hsz : ¬ (200000 : Int) < (text.size : Int) := by omega
  have HS := hide hs
  clear hM hs hT
  go_enter Tryz.func23, Tryz.ntmps23
  go_upto_region 4 with fail
  rw [← hw0, ← hb]
  clear hw0 hb
  go_upto_region 5 with (go_at_call 67; refine HE.out.mono ?_; rintro e w3 ⟨ls, ends, hll, hle, hg3, hcase⟩; rcases hcase with ⟨rfl, hall, rfl, w1, hn1, hg1, hI⟩ | ⟨i, hbad, rfl⟩)
  · obtain ⟨L, v, hdl, hdg, hbox, hown, hbw1⟩ := hI
    have htx : tallyText L = text.data.toList := by unfold tallyText; rw [← hdl]; exact linesL_inv hll
    have hlen : L.length ≤ 400 := by
      have h1 := text_len8 L
      rw [htx, len_data] at h1
      have := HS.out
      omega
    obtain ⟨A1, c1, ev, hR, _⟩ := Rd.of_own encTally_len rfl hown
    obtain rfl := ev
    have c0 : w3.cell? ⟨b, 0, none⟩ = some (.slice A1 L.length c1) := cell_of_row w3 b 0 _ _ _ hbox
    have hbl3 : b < w3.heap.size := (Array.getElem?_eq_some_iff.1 hbox).1
    have HJ := hide hR
    have HDG := hide hdg
    have HTX := hide htx
    have HDL := hide hdl
    have HLL := hide hll
    have HLEN := hide hlen
    have HG3 := hide (Nx.of_gr ((Gr.of_nx HN0.out).trans hg3) hbw)
    have HCT := hide (w_TalliesFault w1.heap.size A1 c1 L w3 hR (by omega))
    have hw1 : w.heap.size ≤ w1.heap.size := Nat.le_trans HN0.out.sz hn1.sz
    obtain ⟨F, hF⟩ : ∃ F, F = talliesF L := ⟨_, rfl⟩
    rw [← hF] at HCT
    have HFE := hide hF
    clear hF hdl hbox hown hdg hR htx hlen hll hall hg1 hg3 hn1 HE
    by_cases h0 : F = 0
    · have t1 : (F != 0) = false := by simp [h0]
      have H0 := hide h0
      clear h0
      go_wp2_with (go_at_call 8; refine HCT.out.mono ?_; rintro e w5 ⟨rfl, hn5⟩; (have c5 := nx_cell hn5 hbl3 c0))
      go_ret3
      exact ⟨HG3.out.trans hn5, ls, true, HLL.out, .inl ⟨L, A1, c1, rfl, HDL.out, HDG.out, (HJ.out.nx hn5).low hw1, HLEN.out, .inl ⟨by rw [← HFE.out]; exact H0.out, rfl⟩⟩⟩
    · have t1 : (F != 0) = true := by simpa using h0
      have H0 := hide h0
      clear h0
      go_wp2_with (go_at_call 8; refine HCT.out.mono ?_; rintro e w5 ⟨rfl, hn5⟩; (have c5 := nx_cell hn5 hbl3 c0))
      go_ret3
      exact ⟨HG3.out.trans hn5, ls, true, HLL.out, .inl ⟨L, A1, c1, rfl, HDL.out, HDG.out, (HJ.out.nx hn5).low hw1, HLEN.out, .inr ⟨by rw [← HFE.out]; exact H0.out, by rw [← HFE.out]; rfl⟩⟩⟩
  · have HG3 := hide (Nx.of_gr ((Gr.of_nx HN0.out).trans hg3) hbw)
    have HLL := hide hll
    have HBAD := hide hbad
    clear hll hbad hg3 HE
    go_wp2_with fail
    go_ret3
    exact ⟨HG3.out, ls, ends, HLL.out, .inr ⟨i, HBAD.out, rfl⟩⟩
/-- What the two readers answer. -/
inductive TwoT (lo lo' : Nat) (W W' : World) : Ending → Ending → Prop
  | good (L : List Tally) (A B : Option Addr) (c d : Nat) (hA : Rd W lo A 4 encTally L) (hB : Rd W' lo' B 4 encTally L) (hl : L.length ≤ 400) : TwoT lo lo' W W' (.returned (.tuple #[.slice A L.length c, .int .i64 0, .int .i64 0])) (.returned (.tuple #[.slice B L.length d, .int .i64 0, .int .i64 0]))
  | bad (i F : Int) (hF : F ≠ 0) : TwoT lo lo' W W' (.returned (.tuple #[.slice none 0 0, .int .i64 i, .int .i64 F])) (.returned (.tuple #[.slice none 0 0, .int .i64 i, .int .i64 F]))
theorem ba_eqT {a b : ByteArray} (h : a.data.toList = b.data.toList) : a = b := by
  cases a; cases b; simpa using h
theorem bas_eqT : ∀ {l m : List ByteArray}, dataL l = dataL m → l = m
  | [], [], _ => rfl
  | [], _ :: _, h => by cases h
  | _ :: _, [], h => by cases h
  | a :: l, b :: m, h => by
    unfold dataL at h
    simp only [List.map_cons, List.cons.injEq] at h
    rw [ba_eqT h.1, bas_eqT h.2]
theorem two_readT {r : ByteArray} {w w' u u' : World} {e f : Ending} (h : ReadTE r w e w') (k : ReadTE r u f u') : TwoT w.heap.size u.heap.size w' u' e f := by
  obtain ⟨_, ls, ends, hll, hc⟩ := h
  obtain ⟨_, ms, endt, hmm, kc⟩ := k
  rw [hll] at hmm
  injection hmm with h1 h2
  have h3 : ls = ms := bas_eqT h1
  subst h3
  subst h2
  rcases hc with ⟨L, A, c, he, hm, hdg, hJ, hl, hx⟩ | ⟨j, hb, rfl⟩
  · rcases kc with ⟨M, B, d, _, km, kdg, kJ, _, kx⟩ | ⟨j, kb, _⟩
    · have hco : L = M := line_inj hdg kdg (hm.symm.trans km)
      subst hco
      rcases hx with ⟨h0, rfl⟩ | ⟨h0, rfl⟩
      · rcases kx with ⟨_, rfl⟩ | ⟨k0, _⟩
        · exact .good L A B c d hJ kJ hl
        · exact absurd h0 k0
      · rcases kx with ⟨k0, _⟩ | ⟨k0, rfl⟩
        · exact absurd k0 h0
        · exact .bad 0 _ h0
    · rcases kb.bad with h2 | h2
      · rw [he] at h2; cases h2
      · rw [read_okT hm hdg] at h2; cases h2
  · rcases kc with ⟨M, B, d, ke, km, kdg, _⟩ | ⟨j2, kb, rfl⟩
    · rcases hb.bad with h2 | h2
      · rw [ke] at h2; cases h2
      · rw [read_okT km kdg] at h2; cases h2
    · rw [hb.uniq kb]; exact .bad _ 9 (by decide)
theorem ReadTE.ret {r : ByteArray} {w w' : World} {e : Ending} (h : ReadTE r w e w') : Nx w w' ∧ ∃ (A : Option Addr) (n c : Nat) (i F : Int), e = .returned (.tuple #[.slice A n c, .int .i64 i, .int .i64 F]) := by
  obtain ⟨hn, ls, ends, hll, hc⟩ := h
  refine ⟨hn, ?_⟩
  rcases hc with ⟨L, A, c, _, _, _, _, _, ⟨_, rfl⟩ | ⟨_, rfl⟩⟩ | ⟨j, _, rfl⟩
  · exact ⟨_, _, _, _, _, rfl⟩
  · exact ⟨_, _, _, _, _, rfl⟩
  · exact ⟨_, _, _, _, _, rfl⟩
end Go.Proofs.YthlhomcgjgfdhaaGreatDoor
