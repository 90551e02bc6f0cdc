/- fare.Read: what it answers. -/
import Derived.Test.YthlhomcgjgfdhaaGreatDoorQTrpR
import Derived.Test.YthlhomcgjgfdhaaGreatDoorQG20
import Derived.Deep.DeepCutAuto
namespace Go.Proofs.YthlhomcgjgfdhaaGreatDoor
open Go.RowKit

theorem trip_len6 (L : List TripC) : 6 * L.length ≤ (tripText L).length := by
  induction L with
  | nil => simp
  | cons t L ih =>
    have e : tripText (t :: L) = (tripLine t ++ [10]) ++ tripText L := rfl
    have e1 : tripLine t = t.ride ++ 32 :: (t.rider ++ 32 :: (Lib.itoa t.metres ++ 32 :: (Lib.itoa t.from_ ++ 32 :: (Lib.itoa t.to_ ++ 32 :: joinC 44 t.nodes)))) := rfl
    rw [e, e1]
    simp only [List.length_append, List.length_cons, List.length_nil]
    omega
/-- The lines' trips: the text written again. -/
theorem read_text {ls : List ByteArray} {L : List Jour} (h : ls.map (fun s => readJ s.data.toList) = L.map (fun x => some (coreJ x))) : dataL ls = (L.map coreJ).map tripLine := by
  induction ls generalizing L with
  | nil => cases L with
    | nil => rfl
    | cons _ _ => cases h
  | cons s ls ih => cases L with
    | nil => cases h
    | cons x L =>
      simp only [List.map_cons, List.cons.injEq] at h
      have h2 := ih h.2
      unfold dataL at h2 ⊢
      rw [List.map_cons, List.map_cons, List.map_cons, h2, readJ_inv h.1]
theorem read_all {ls : List ByteArray} {L : List Jour} (h : ls.map (fun s => readJ s.data.toList) = L.map (fun x => some (coreJ x))) : ls.all okLJ = true := by
  rw [List.all_eq_true]
  intro s hs
  have h1 : readJ s.data.toList ∈ ls.map (fun s => readJ s.data.toList) := List.mem_map.2 ⟨s, hs, rfl⟩
  rw [h] at h1
  obtain ⟨x, _, e⟩ := List.mem_map.1 h1
  unfold okLJ
  rw [← e]; rfl
/-- fare.Read, and the reference's JourneysRead, of a string. -/
def ReadJR (text : ByteArray) (w : World) (e : Ending) (w' : World) : Prop :=
  Nx w w' ∧ ∃ (ls : List ByteArray) (ends : Bool), linesL text.data.toList = (dataL ls, ends) ∧
    ((∃ (L : List Jour) (A : Option Addr) (c : Nat), ends = true ∧ ls.map (fun s => readJ s.data.toList) = L.map (fun x => some (coreJ x)) ∧ RdJours w' w.heap.size A L ∧ L.length ≤ 400 ∧ L.length ≤ c ∧ (∀ x ∈ L, x.nodes.length ≤ x.cap) ∧ tripText (L.map coreJ) = text.data.toList ∧
        ((joursF L = 0 ∧ e = .returned (.tuple #[.slice A L.length c, .int .i64 0, .int .i64 0])) ∨ (joursF L ≠ 0 ∧ e = .returned (.tuple #[.slice none 0 0, .int .i64 0, .int .i64 (joursF L)])))) ∨
      (∃ j : Nat, BadAt okLJ ls ends j ∧ e = .returned (.tuple #[.slice none 0 0, .int .i64 j, .int .i64 9])))
theorem eg_readJ1 : Enters 77 := enters_of Tryz.func77 (by kernel_rfl) rfl
theorem jrd_rd {W : World} {base : Nat} {x : Jour} (h : JRd W base x) : Rd W base x.a 1 encS x.nodes ∧ Small x.nodes ∧ x.nodes.length ≤ 2000 ∧ x.ride.size ≤ 1000000 ∧ x.rider.size ≤ 1000000 :=
  ⟨rd_ownv encS_len rfl h.row, h.small, h.few, h.ride, h.rider⟩
set_option maxRecDepth 100000 in
set_option maxHeartbeats 4000000 in
theorem w_ReadJ (text : ByteArray) (hs : text.size ≤ 1900) (w : World) (hM : MaxI w) : Calls Tryz.prog 32 #[.string text] w (ReadJR text w) := by
  obtain ⟨b, hb⟩ : ∃ b, b = w.heap.size := ⟨_, rfl⟩
  obtain ⟨w0, hw0⟩ : ∃ w0, w0 = w.alloc (.cells #[.slice none 0 0] 58 (0, 0)) := ⟨_, rfl⟩
  have HB0 := hide (show w0.heap[b]? = some (.cells #[.slice none 0 0] 58 (0, 0)) by rw [hw0, hb]; exact heap_alloc_new w _)
  have HN0 := hide (show Nx w w0 from hw0 ▸ (Nx.refl w).alloc _)
  have hb0 : b < w0.heap.size := (Array.getElem?_eq_some_iff.1 HB0.out).1
  have hbw : w.heap.size ≤ b := by omega
  have HE := hide (w_Each text (by omega) 77 (.pointer (some ⟨b, 0, none⟩)) eg_readJ1 b okLJ (IJ b) w0 (hM.nx HN0.out) hb0
    (fun w1 hn => ⟨[], .slice none 0 0, rfl, (hn.block b hb0).trans HB0.out, World.ownsRow_nil _ _ _ _, (fun x hx => by cases hx), Nat.lt_of_lt_of_le hb0 hn.sz⟩)
    (fun w1 hn d line W hg hls hdl h => w_ReadJ1 b w1 d line W (hM.grb hbw (HN0.out.trans hn) hg) (by omega) (by omega) hg h))
  have hsz : ¬ (200000 : Int) < (text.size : Int) := by omega
  have HS := hide hs
  clear hM hs
  go_enter Tryz.func32, Tryz.ntmps32
  go_upto_region 4 with fail
  rw [← hw0, ← hb]
  clear hw0 hb
  go_upto_region 5 with (go_at_call 63; refine HE.out.mono ?_; rintro e w3 ⟨ls, ends, hll, hle, hg3, hcase⟩; rcases hcase with ⟨rfl, hall, rfl, w1, hn1, hg1, hI⟩ | ⟨i, hbad, rfl⟩)
  · obtain ⟨L, v, hdl, hbox, hown, hrow, hbw1⟩ := hI
    have htx : tripText (L.map coreJ) = text.data.toList := by unfold tripText; rw [← read_text hdl]; exact linesL_inv hll
    have hlen : L.length ≤ 400 := by
      have h1 := trip_len6 (L.map coreJ)
      rw [htx, len_data, List.length_map] at h1
      have := HS.out
      omega
    obtain ⟨A1, c1, ev, hR, _⟩ := Rd.of_own encJ_len rfl hown
    obtain rfl := ev
    have hcl : L.length ≤ c1 := own_cap hown
    have c0 : w3.cell? ⟨b, 0, none⟩ = some (.slice A1 L.length c1) := cell_of_row w3 b 0 _ _ _ hbox
    have hbl3 : b < w3.heap.size := (Array.getElem?_eq_some_iff.1 hbox).1
    have hJ : RdJours w3 w1.heap.size A1 L := ⟨hR, fun x hx => jrd_rd (hrow x hx)⟩
    have HCAP := hide (show ∀ x ∈ L, x.nodes.length ≤ x.cap from fun x hx => own_cap (hrow x hx).row)
    have HJ := hide hJ
    have HTX := hide htx
    have HDL := hide hdl
    have HLL := hide hll
    have HLEN := hide hlen
    have HCL := hide hcl
    have HG3 := hide (Nx.of_gr ((Gr.of_nx HN0.out).trans hg3) hbw)
    have HCT := hide (w_CheckTrips w1.heap.size A1 c1 L w3 hJ (by omega))
    have hw1 : w.heap.size ≤ w1.heap.size := Nat.le_trans HN0.out.sz hn1.sz
    obtain ⟨F, hF⟩ : ∃ F, F = joursF L := ⟨_, rfl⟩
    rw [← hF] at HCT
    have HFE := hide hF
    clear hF hdl hbox hown hrow hR hJ htx hlen hll hall hg1 hg3 hn1 HE hcl
    by_cases h0 : F = 0
    · have t1 : (F != 0) = false := by simp [h0]
      have H0 := hide h0
      clear h0
      go_wp2_with (go_at_call 73; refine HCT.out.mono ?_; rintro e w5 ⟨rfl, hn5⟩; (have c5 := nx_cell hn5 hbl3 c0))
      go_ret3
      exact ⟨HG3.out.trans hn5, ls, true, HLL.out, .inl ⟨L, A1, c1, rfl, HDL.out, (HJ.out.nx hn5).low hw1, HLEN.out, HCL.out, HCAP.out, HTX.out, .inl ⟨by rw [← HFE.out]; exact H0.out, rfl⟩⟩⟩
    · have t1 : (F != 0) = true := by simpa using h0
      have H0 := hide h0
      clear h0
      go_wp2_with (go_at_call 73; refine HCT.out.mono ?_; rintro e w5 ⟨rfl, hn5⟩; (have c5 := nx_cell hn5 hbl3 c0))
      go_ret3
      exact ⟨HG3.out.trans hn5, ls, true, HLL.out, .inl ⟨L, A1, c1, rfl, HDL.out, (HJ.out.nx hn5).low hw1, HLEN.out, HCL.out, HCAP.out, HTX.out, .inr ⟨by rw [← HFE.out]; exact H0.out, by rw [← HFE.out]; rfl⟩⟩⟩
  · have HG3 := hide (Nx.of_gr ((Gr.of_nx HN0.out).trans hg3) hbw)
    have HLL := hide hll
    have HBAD := hide hbad
    clear hll hbad hg3 HE
    go_wp2_with fail
    go_ret3
    exact ⟨HG3.out, ls, ends, HLL.out, .inr ⟨i, HBAD.out, rfl⟩⟩
end Go.Proofs.YthlhomcgjgfdhaaGreatDoor
