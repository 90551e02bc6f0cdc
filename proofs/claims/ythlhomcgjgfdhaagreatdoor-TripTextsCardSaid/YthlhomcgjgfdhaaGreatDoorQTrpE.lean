/- The reference's JourneysRead: what it answers. -/
import Derived.Test.YthlhomcgjgfdhaaGreatDoorQTrpD
import Derived.Test.YthlhomcgjgfdhaaGreatDoorQTrpQ
import Derived.Test.YthlhomcgjgfdhaaGreatDoorQLinF
import Derived.Test.YthlhomcgjgfdhaaGreatDoorQJouR
import Derived.Deep.DeepCutAuto
namespace Go.Proofs.YthlhomcgjgfdhaaGreatDoor
open Go.RowKit

theorem eg_readJ2 : Enters 79 := enters_of Tryz.func79 (by kernel_rfl) rfl
theorem IJ.drewN {b : Nat} {w1 W : World} {d : List ByteArray} (h : IJ b w1 d W) (n : Nat) : IJ b w1 d (W.drewN n) := by
  obtain ⟨L, v, hdl, hbox, hown, hrow, hb⟩ := h
  have hn : Nx W (W.drewN n) := (Nx.refl W).drewN n
  exact ⟨L, v, hdl, (hn.block b (Array.getElem?_eq_some_iff.1 hbox).1).trans hbox, own_nx hown hn, fun x hx => (hrow x hx).nx hn, hb⟩
set_option maxRecDepth 100000 in
set_option maxHeartbeats 4000000 in
theorem w_ReadJX (text : ByteArray) (hs : text.size ≤ 1900) (w : World) (hM : MaxI w) (hT : PowTab w) : Calls Tryz.prog 33 #[.string text] w (ReadJR text w) := by
  obtain ⟨b, hb⟩ : ∃ b, b = w.heap.size := ⟨_, rfl⟩
  obtain ⟨w0, hw0⟩ : ∃ w0, w0 = w.alloc (.cells #[.slice none 0 0] 58 (0, 0)) := ⟨_, rfl⟩
  have HB0 := hide (show w0.heap[b]? = some (.cells #[.slice none 0 0] 58 (0, 0)) by rw [hw0, hb]; exact heap_alloc_new w _)
  have HN0 := hide (show Nx w w0 from hw0 ▸ (Nx.refl w).alloc _)
  have hb0 : b < w0.heap.size := (Array.getElem?_eq_some_iff.1 HB0.out).1
  have hbw : w.heap.size ≤ b := by omega
  have HNW := hide (fun W (hg : Gr b w0 W) => (show Nx w W from Nx.of_gr ((Gr.of_nx HN0.out).trans hg) hbw))
  have HE := hide (w_LinesX text (by omega) 79 (.pointer (some ⟨b, 0, none⟩)) eg_readJ2 b okLJ (IJ b) w0 (fun W hg => hM.nx (HNW.out W hg))
    ⟨[], .slice none 0 0, rfl, HB0.out, World.ownsRow_nil _ _ _ _, (fun x hx => by cases hx), hb0⟩
    (fun d W n h => IJ.drewN h n)
    (fun d line W hg hls hdl h => w_ReadJ2 b w0 d line W (hM.nx (HNW.out W hg)) (tab_nx hT (HNW.out W hg)) (by omega) (by omega) hg h))
  have hsz : ¬ (200000 : Int) < (text.size : Int) := by omega
  have HS := hide hs
  clear hM hs hT
  go_enter Tryz.func33, Tryz.ntmps33
  go_upto_region 4 with fail
  rw [← hw0, ← hb]
  clear hw0 hb
  go_upto_region 5 with (go_at_call 67; refine HE.out.mono ?_; rintro e w3 ⟨ls, ends, hll, hle, hg3, hcase⟩; rcases hcase with ⟨rfl, hall, rfl, w1, hn1, hg1, hI⟩ | ⟨i, hbad, rfl⟩)
  · obtain ⟨L, v, hdl, hbox, hown, hrow, hbw1⟩ := hI
    have htx : tripText (L.map coreJ) = text.data.toList := by unfold tripText; rw [← read_text hdl]; exact linesL_inv hll
    have hlen : L.length ≤ 400 := by
      have h1 := trip_len6 (L.map coreJ)
      rw [htx, len_data, List.length_map] at h1
      have := HS.out
      omega
    obtain ⟨A1, c1, ev, hR, _⟩ := Rd.of_own encJ_len rfl hown
    obtain rfl := ev
    have hcl : L.length ≤ c1 := own_cap hown
    have c0 : w3.cell? ⟨b, 0, none⟩ = some (.slice A1 L.length c1) := cell_of_row w3 b 0 _ _ _ hbox
    have hbl3 : b < w3.heap.size := (Array.getElem?_eq_some_iff.1 hbox).1
    have hJ : RdJours w3 w1.heap.size A1 L := ⟨hR, fun x hx => jrd_rd (hrow x hx)⟩
    have HCAP := hide (show ∀ x ∈ L, x.nodes.length ≤ x.cap from fun x hx => own_cap (hrow x hx).row)
    have HJ := hide hJ
    have HTX := hide htx
    have HDL := hide hdl
    have HLL := hide hll
    have HLEN := hide hlen
    have HCL := hide hcl
    have HG3 := hide (Nx.of_gr ((Gr.of_nx HN0.out).trans hg3) hbw)
    have HCT := hide (w_JourneysFault w1.heap.size A1 c1 L w3 hJ (by omega))
    have hw1 : w.heap.size ≤ w1.heap.size := Nat.le_trans HN0.out.sz hn1.sz
    obtain ⟨F, hF⟩ : ∃ F, F = joursF L := ⟨_, rfl⟩
    rw [← hF] at HCT
    have HFE := hide hF
    clear hF hdl hbox hown hrow hR hJ htx hlen hll hall hg1 hg3 hn1 HE hcl
    by_cases h0 : F = 0
    · have t1 : (F != 0) = false := by simp [h0]
      have H0 := hide h0
      clear h0
      go_wp2_with (go_at_call 29; refine HCT.out.mono ?_; rintro e w5 ⟨rfl, hn5⟩; (have c5 := nx_cell hn5 hbl3 c0))
      go_ret3
      exact ⟨HG3.out.trans hn5, ls, true, HLL.out, .inl ⟨L, A1, c1, rfl, HDL.out, (HJ.out.nx hn5).low hw1, HLEN.out, HCL.out, HCAP.out, HTX.out, .inl ⟨by rw [← HFE.out]; exact H0.out, rfl⟩⟩⟩
    · have t1 : (F != 0) = true := by simpa using h0
      have H0 := hide h0
      clear h0
      go_wp2_with (go_at_call 29; refine HCT.out.mono ?_; rintro e w5 ⟨rfl, hn5⟩; (have c5 := nx_cell hn5 hbl3 c0))
      go_ret3
      exact ⟨HG3.out.trans hn5, ls, true, HLL.out, .inl ⟨L, A1, c1, rfl, HDL.out, (HJ.out.nx hn5).low hw1, HLEN.out, HCL.out, HCAP.out, HTX.out, .inr ⟨by rw [← HFE.out]; exact H0.out, by rw [← HFE.out]; rfl⟩⟩⟩
  · have HG3 := hide (Nx.of_gr ((Gr.of_nx HN0.out).trans hg3) hbw)
    have HLL := hide hll
    have HBAD := hide hbad
    clear hll hbad hg3 HE
    go_wp2_with fail
    go_ret3
    exact ⟨HG3.out, ls, ends, HLL.out, .inr ⟨i, HBAD.out, rfl⟩⟩
end Go.Proofs.YthlhomcgjgfdhaaGreatDoor
