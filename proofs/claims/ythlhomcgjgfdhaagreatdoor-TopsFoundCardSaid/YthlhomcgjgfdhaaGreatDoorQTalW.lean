/- Tallies written: demand.Text, the reference's TallyLines. -/
import Derived.Test.YthlhomcgjgfdhaaGreatDoorQBldW
import Derived.Test.YthlhomcgjgfdhaaGreatDoorQG6
import Derived.Test.YthlhomcgjgfdhaaGreatDoorQCheckT
import Derived.Deep.DeepCutAuto
import Derived.Deep.RegionHeld
import Derived.Deep.RegionHeld3
namespace Go.Proofs.YthlhomcgjgfdhaaGreatDoor
open Go.RowKit

theorem itoa_len {n : Int} (h : Lib.nDigits n.natAbs ≤ 10) : (Lib.itoa n).length ≤ 11 := by
  unfold Lib.itoa
  by_cases hn : n < 0
  · rw [if_pos hn, List.length_cons, Lib.decDigits_length]; omega
  · rw [if_neg hn, Lib.decDigits_length, show n.toNat = n.natAbs by omega]; omega
theorem line_len {t : Tally} (h : Digs t) : (tallyLine t).length ≤ 47 := by
  have h1 : tallyLine t = Lib.itoa t.x ++ 32 :: (Lib.itoa t.y ++ 32 :: (Lib.itoa t.hour ++ 32 :: Lib.itoa t.many)) := rfl
  have p1 := itoa_len (h t.x (by simp [tallyW]))
  have p2 := itoa_len (h t.y (by simp [tallyW]))
  have p3 := itoa_len (h t.hour (by simp [tallyW]))
  have p4 := itoa_len (h t.many (by simp [tallyW]))
  rw [h1]
  simp only [List.length_append, List.length_cons]
  omega
theorem text_take (L : List Tally) (k : Nat) (hk : k < L.length) : tallyText (L.take (k + 1)) = tallyText (L.take k) ++ (tallyLine L[k] ++ [10]) := by
  unfold tallyText textL
  rw [List.take_succ_eq_append_getElem hk, List.map_append, List.flatMap_append]; simp
theorem text_le {L : List Tally} (h : ∀ t ∈ L, Digs t) : (tallyText L).length ≤ 48 * L.length := by
  induction L with
  | nil => simp [tallyText, textL]
  | cons t L ih =>
    have e : tallyText (t :: L) = (tallyLine t ++ [10]) ++ tallyText L := rfl
    have h1 := line_len (h t (by simp))
    have h2 := ih (fun u hu => h u (List.mem_cons_of_mem _ hu))
    rw [e]
    simp only [List.length_append, List.length_cons, List.length_nil]
    omega
theorem itoaS_le {n : Int} (h : -1000000000 ≤ n ∧ n ≤ 1000000000) : (itoaS n).size ≤ 11 := by
  have h1 := itoa_len (small_digits h)
  rw [← len_data]
  simpa [itoaS] using h1
theorem line_bytes (x y h m : Int) : (itoaS x ++ ⟨#[32]⟩ ++ itoaS y ++ ⟨#[32]⟩ ++ itoaS h ++ ⟨#[32]⟩ ++ itoaS m ++ ⟨#[10]⟩).data.toList = tallyLine ⟨x, y, h, m⟩ ++ [10] := by
  show _ = (Lib.itoa x ++ 32 :: (Lib.itoa y ++ 32 :: (Lib.itoa h ++ 32 :: Lib.itoa m))) ++ [10]
  simp [ByteArray.data_append, itoaS]
/-- A tally of numbers that strconv.Itoa writes. -/
def I64T (t : Tally) : Prop := ∀ n ∈ tallyW t, -1000000000 ≤ n ∧ n ≤ 1000000000
theorem I64T.digs {t : Tally} (h : I64T t) : Digs t := fun n hn => small_digits (h n hn)

set_option maxRecDepth 100000 in
set_option maxHeartbeats 4000000 in
theorem w_TextT (lo : Nat) (A : Option Addr) (c : Nat) (L : List Tally) (w : World) (hR : Rd w lo A 4 encTally L) (hl : L.length ≤ 400) (h0 : talliesF L = 0) (hI : ∀ t ∈ L, I64T t) (hT : PowTab w) :
    Calls Tryz.prog 19 #[.slice A L.length c] w fun e w' => e = .returned (.tuple #[.string ⟨(tallyText L).toArray⟩, .int .i64 0]) ∧ Nx w w' := by
  have HCT := hide (w_CheckTallies lo A c L w hR hl)
  rw [h0] at HCT
  have HR := hide hR
  have HI := hide hI
  have HT := hide hT
  have HLE := hide (text_le (L := L) (fun t ht => (hI t ht).digs))
  have HLK := hide (fun (k : Nat) => text_le (L := L.take k) (fun t ht => (hI t (List.mem_of_mem_take ht)).digs))
  obtain ⟨n, hn⟩ : ∃ n, n = L.length := ⟨_, rfl⟩
  rw [← hn] at HCT hl ⊢
  have HN := hide hn
  clear hR h0 hI hT hn
  go_enter Tryz.func19, Tryz.ntmps19
  go_upto_region 4 with (go_at_call 48; refine HCT.out.mono ?_; rintro e w1 ⟨rfl, hn1⟩)
  have HN1 := hide hn1
  clear HCT hn1
  obtain ⟨b5, hb5⟩ : ∃ b5, b5 = w1.heap.size := ⟨_, rfl⟩
  obtain ⟨w2, hw2⟩ : ∃ w2, w2 = w1.alloc (.cells #[.pointer none, .slice none 0 0] 92 (0, 0)) := ⟨_, rfl⟩
  have HB2 := hide (show Bld w2 b5 b5 [] by rw [hw2, hb5]; exact Bld.new w1)
  have HN2 := hide (show Nx w1 w2 from hw2 ▸ (Nx.refl w1).alloc _)
  have HB5 := hide (show w1.heap.size ≤ b5 by omega)
  go_upto_region 6 with fail
  rw [← hw2, ← hb5]
  clear hw2 hb5
  go_loopw [7, 15] (fun _ i wr => ∃ k : Nat, k ≤ n ∧ i = .int .i64 k ∧ Bld wr b5 b5 (tallyText (L.take k)) ∧ Nx w1 wr) (fun _ i _ => n - (intOf i).toNat)
  case atStart => exact ⟨0, Nat.zero_le _, rfl, HB2.out, HN2.out⟩
  case round =>
    obtain ⟨k, hk, rfl, hB, hnr⟩ := hrel
    by_cases hlt : k < n
    · have hkl : k < L.length := by have := HN.out; omega
      have HTK := hide (text_take L k hkl)
      have hlen := HLK.out k
      have hlk : (L.take k).length = k := by rw [List.length_take]; omega
      rw [hlk] at hlen
      have hmem : L[k] ∈ L := List.getElem_mem hkl
      obtain ⟨b, off, rfl, _, hb, hbr, hc⟩ := HR.out.open_ (HN1.out.trans hnr) (by omega)
      have c0 : wr.cell? ⟨b, off + k * 4, none⟩ = some (.int .i64 L[k].x) := hc k hkl 0 _ rfl
      have c1 : wr.cell? ⟨b, off + k * 4 + 1, none⟩ = some (.int .i64 L[k].y) := hc k hkl 1 _ rfl
      have c2 : wr.cell? ⟨b, off + k * 4 + 2, none⟩ = some (.int .i64 L[k].hour) := hc k hkl 2 _ rfl
      have c3 : wr.cell? ⟨b, off + k * 4 + 3, none⟩ = some (.int .i64 L[k].many) := hc k hkl 3 _ rfl
      have hit := HI.out L[k] hmem
      generalize L[k] = t at *
      obtain ⟨x, y, h, m⟩ := t
      dsimp only at c0 c1 c2 c3
      have hx := hit x (by simp [tallyW])
      have hy := hit y (by simp [tallyW])
      have hh := hit h (by simp [tallyW])
      have hm := hit m (by simp [tallyW])
      have HLL := hide (line_len hit.digs)
      have sx := itoaS_le hx
      have sy := itoaS_le hy
      have sh := itoaS_le hh
      have sm := itoaS_le hm
      have z0 : ¬ 9223372036854775807 < (itoaS x).size + 1 := by omega
      have z1 : ¬ 9223372036854775807 < (itoaS x).size + 1 + (itoaS y).size := by omega
      have z2 : ¬ 9223372036854775807 < (itoaS x).size + 1 + (itoaS y).size + 1 := by omega
      have z3 : ¬ 9223372036854775807 < (itoaS x).size + 1 + (itoaS y).size + 1 + (itoaS h).size := by omega
      have z4 : ¬ 9223372036854775807 < (itoaS x).size + 1 + (itoaS y).size + 1 + (itoaS h).size + 1 := by omega
      have z5 : ¬ 9223372036854775807 < (itoaS x).size + 1 + (itoaS y).size + 1 + (itoaS h).size + 1 + (itoaS m).size := by omega
      have z6 : ¬ 9223372036854775807 < (itoaS x).size + 1 + (itoaS y).size + 1 + (itoaS h).size + 1 + (itoaS m).size + 1 := by omega
      have i1 : (0 : Int) ≤ (k : Int) := by omega
      have i2 : (k : Int) < (n : Int) := by omega
      clear hc hmem hlk hit
      obtain ⟨b7, hb7⟩ : ∃ b7, b7 = wr.heap.size := ⟨_, rfl⟩
      obtain ⟨wb, hwb⟩ : ∃ wb, wb = wr.alloc (.cells #[.int .i64 x, .int .i64 y, .int .i64 h, .int .i64 m] 55 (0, 0)) := ⟨_, rfl⟩
      have HBB := hide (show wb.heap[b7]? = some (.cells #[.int .i64 x, .int .i64 y, .int .i64 h, .int .i64 m] 55 (0, 0)) by rw [hwb, hb7]; exact heap_alloc_new wr _)
      have HNB := hide (show Nx wr wb from hwb ▸ (Nx.refl wr).alloc _)
      have hbn : b7 ≠ b5 := by have := hB.lt; omega
      have HBL := hide (hB.nx HNB.out)
      have HPT := hide (fun W (h : Nx wb W) => tab_nx HT.out (HN1.out.trans ((hnr.trans HNB.out).trans h)))
      have hbsz : b5 ≤ wb.heap.size := Nat.le_trans (Nat.le_of_lt hB.lt) HNB.out.sz
      have HNR := hide (hnr.trans HNB.out)
      go_upto_region 8 with fail
      rw [← hwb, ← hb7]
      clear hwb hb7 c0 c1 c2 c3 hB hnr
      have HS : Hid (∀ W, Nx wb W → (W.cell? ⟨b7, 0, none⟩ = some (.int .i64 x) ∧ W.cell? ⟨b7, 1, none⟩ = some (.int .i64 y) ∧ W.cell? ⟨b7, 2, none⟩ = some (.int .i64 h) ∧ W.cell? ⟨b7, 3, none⟩ = some (.int .i64 m))) := hide (fun W hn => by
        have hl := (Array.getElem?_eq_some_iff.1 HBB.out).1
        exact ⟨nx_cell hn hl (cell_of_row wb b7 0 _ _ _ HBB.out), nx_cell hn hl (cell_of_row wb b7 1 _ _ _ HBB.out), nx_cell hn hl (cell_of_row wb b7 2 _ _ _ HBB.out), nx_cell hn hl (cell_of_row wb b7 3 _ _ _ HBB.out)⟩)
      have HSK : Hid (∀ W W', Nx wb W → KpB b5 W W' → (W'.cell? ⟨b7, 0, none⟩ = some (.int .i64 x) ∧ W'.cell? ⟨b7, 1, none⟩ = some (.int .i64 y) ∧ W'.cell? ⟨b7, 2, none⟩ = some (.int .i64 h) ∧ W'.cell? ⟨b7, 3, none⟩ = some (.int .i64 m))) := hide (fun W W' hn hk => by
        have hl := (Array.getElem?_eq_some_iff.1 HBB.out).1
        have h1 := hk.2 b7 _ _ ((hn.block b7 hl).trans HBB.out) hbn (by decide)
        exact ⟨cell_of_row W' b7 0 _ _ _ h1, cell_of_row W' b7 1 _ _ _ h1, cell_of_row W' b7 2 _ _ _ h1, cell_of_row W' b7 3 _ _ _ h1⟩)
      have HX := hide (Nx.refl wb)
      go_region_held3 (fun w' => w'.cell? ⟨b7, 0, none⟩ = some (.int .i64 x) ∧ w'.cell? ⟨b7, 1, none⟩ = some (.int .i64 y) ∧ w'.cell? ⟨b7, 2, none⟩ = some (.int .i64 h) ∧ w'.cell? ⟨b7, 3, none⟩ = some (.int .i64 m))
        (first
          | (refine HS.out _ ?_; (repeat (first | exact HX.out | refine Nx.drew ?_ | refine Nx.trans ?_ (by assumption))); done)
          | (refine HSK.out _ _ ?_ hkz; (repeat (first | exact HX.out | refine Nx.drew ?_ | refine Nx.trans ?_ (by assumption))); done))
        (first
          | (go_at_call 58; refine (w_ItoaN _ (by omega) (by omega) _ (HPT.out _ ?_)).mono ?_; (· (repeat (first | exact HX.out | refine Nx.drew ?_ | refine Nx.trans ?_ (by assumption)))); rintro e wi ⟨rfl, hni⟩)
          | (go_at_call 57; refine (w_WStr b5 b5 (tallyText (L.take k)) _ _ (HBL.out.nx ?_) ?_ ?_).mono ?_; (· (repeat (first | exact HX.out | refine Nx.drew ?_ | refine Nx.trans ?_ (by assumption)))); (· (have e32 : (⟨#[32]⟩ : ByteArray).size = 1 := rfl; have e10 : (⟨#[10]⟩ : ByteArray).size = 1 := rfl; simp only [ByteArray.size_append]; omega)); (· (refine Nat.le_trans hbsz (Nx.sz ?_); (repeat (first | exact HX.out | refine Nx.drew ?_ | refine Nx.trans ?_ (by assumption))))); rintro e wz ⟨rfl, hbz, hkz, hqz⟩))
      all_goals
        (go_wp2_with fail
         go_roundw
         case rel => exact ⟨k + 1, by omega, by go_num, by rw [HTK.out, ← line_bytes]; exact hbz, by refine Nx.below (B := b5) ?_ hqz HB5.out; refine Nx.trans HNR.out ?_; (repeat (first | exact HX.out | refine Nx.drew ?_ | refine Nx.trans ?_ (by assumption)))⟩
         case measure => simp [intOf]; omega)
    · have ek : k = n := by omega
      have htk : L.take k = L := List.take_of_length_le (by have := HN.out; omega)
      rw [htk] at hB
      have HB := hide hB
      have HNR := hide hnr
      have hlen := HLE.out
      have hlz : ¬ (200000 : Int) < ((tallyText L).length : Int) := by have := HN.out; omega
      have hbz := hB.lt
      clear hB hnr htk
      go_wp2_with (first
        | (go_at_call 59; refine (w_BLen b5 b5 _ _ HB.out).mono ?_; rintro e w8 ⟨rfl, rfl⟩)
        | (go_at_call 60; refine (w_BStr b5 b5 _ _ HB.out (by omega)).mono ?_; rintro e w9 ⟨rfl, hq9⟩))
      go_ret2
      exact ⟨rfl, HN1.out.trans (Nx.below HNR.out hq9 HB5.out)⟩
set_option maxRecDepth 100000 in
set_option maxHeartbeats 4000000 in
theorem w_LinesT (lo : Nat) (A : Option Addr) (c : Nat) (L : List Tally) (w : World) (hR : Rd w lo A 4 encTally L) (hl : L.length ≤ 400) (hI : ∀ t ∈ L, I64T t) (hT : PowTab w) :
    Calls Tryz.prog 20 #[.slice A L.length c] w fun e w' => e = .returned (.string ⟨(tallyText L).toArray⟩) ∧ Nx w w' := by
  have HR := hide hR
  have HI := hide hI
  have HT := hide hT
  have HLE := hide (text_le (L := L) (fun t ht => (hI t ht).digs))
  have HLK := hide (fun (k : Nat) => text_le (L := L.take k) (fun t ht => (hI t (List.mem_of_mem_take ht)).digs))
  obtain ⟨n, hn⟩ : ∃ n, n = L.length := ⟨_, rfl⟩
  rw [← hn] at hl ⊢
  have HN := hide hn
  clear hR hI hT hn
  go_enter Tryz.func20, Tryz.ntmps20
  go_upto_region 1 with fail
  obtain ⟨w1, hw1⟩ : ∃ w1, w1 = w := ⟨_, rfl⟩
  have HN1 := hide (show Nx w w1 from hw1 ▸ Nx.refl w)
  rw [← hw1]
  clear hw1
  obtain ⟨b5, hb5⟩ : ∃ b5, b5 = w1.heap.size := ⟨_, rfl⟩
  obtain ⟨w2, hw2⟩ : ∃ w2, w2 = w1.alloc (.cells #[.pointer none, .slice none 0 0] 92 (0, 0)) := ⟨_, rfl⟩
  have HB2 := hide (show Bld w2 b5 b5 [] by rw [hw2, hb5]; exact Bld.new w1)
  have HN2 := hide (show Nx w1 w2 from hw2 ▸ (Nx.refl w1).alloc _)
  have HB5 := hide (show w1.heap.size ≤ b5 by omega)
  go_upto_region 4 with fail
  rw [← hw2, ← hb5]
  clear hw2 hb5
  go_loopw [6, 9] (fun _ i wr => ∃ k : Nat, k ≤ n ∧ i = .int .i64 k ∧ Bld wr b5 b5 (tallyText (L.take k)) ∧ Nx w1 wr) (fun _ i _ => n - (intOf i).toNat)
  case atStart => exact ⟨0, Nat.zero_le _, rfl, HB2.out, HN2.out⟩
  case round =>
    obtain ⟨k, hk, rfl, hB, hnr⟩ := hrel
    by_cases hlt : k < n
    · have hkl : k < L.length := by have := HN.out; omega
      have HTK := hide (text_take L k hkl)
      have hlen := HLK.out k
      have hlk : (L.take k).length = k := by rw [List.length_take]; omega
      rw [hlk] at hlen
      have hmem : L[k] ∈ L := List.getElem_mem hkl
      obtain ⟨b, off, rfl, _, hb, hbr, hc⟩ := HR.out.open_ (HN1.out.trans hnr) (by omega)
      have c0 : wr.cell? ⟨b, off + k * 4, none⟩ = some (.int .i64 L[k].x) := hc k hkl 0 _ rfl
      have c1 : wr.cell? ⟨b, off + k * 4 + 1, none⟩ = some (.int .i64 L[k].y) := hc k hkl 1 _ rfl
      have c2 : wr.cell? ⟨b, off + k * 4 + 2, none⟩ = some (.int .i64 L[k].hour) := hc k hkl 2 _ rfl
      have c3 : wr.cell? ⟨b, off + k * 4 + 3, none⟩ = some (.int .i64 L[k].many) := hc k hkl 3 _ rfl
      have hit := HI.out L[k] hmem
      generalize L[k] = t at *
      obtain ⟨x, y, h, m⟩ := t
      dsimp only at c0 c1 c2 c3
      have hx := hit x (by simp [tallyW])
      have hy := hit y (by simp [tallyW])
      have hh := hit h (by simp [tallyW])
      have hm := hit m (by simp [tallyW])
      have HLL := hide (line_len hit.digs)
      have sx := itoaS_le hx
      have sy := itoaS_le hy
      have sh := itoaS_le hh
      have sm := itoaS_le hm
      have z0 : ¬ 9223372036854775807 < (itoaS x).size + 1 := by omega
      have z1 : ¬ 9223372036854775807 < (itoaS x).size + 1 + (itoaS y).size := by omega
      have z2 : ¬ 9223372036854775807 < (itoaS x).size + 1 + (itoaS y).size + 1 := by omega
      have z3 : ¬ 9223372036854775807 < (itoaS x).size + 1 + (itoaS y).size + 1 + (itoaS h).size := by omega
      have z4 : ¬ 9223372036854775807 < (itoaS x).size + 1 + (itoaS y).size + 1 + (itoaS h).size + 1 := by omega
      have z5 : ¬ 9223372036854775807 < (itoaS x).size + 1 + (itoaS y).size + 1 + (itoaS h).size + 1 + (itoaS m).size := by omega
      have z6 : ¬ 9223372036854775807 < (itoaS x).size + 1 + (itoaS y).size + 1 + (itoaS h).size + 1 + (itoaS m).size + 1 := by omega
      have i1 : (0 : Int) ≤ (k : Int) := by omega
      have i2 : (k : Int) < (n : Int) := by omega
      clear hc hmem hlk hit
      obtain ⟨b7, hb7⟩ : ∃ b7, b7 = wr.heap.size := ⟨_, rfl⟩
      obtain ⟨wb, hwb⟩ : ∃ wb, wb = wr.alloc (.cells #[.int .i64 x, .int .i64 y, .int .i64 h, .int .i64 m] 55 (0, 0)) := ⟨_, rfl⟩
      have HBB := hide (show wb.heap[b7]? = some (.cells #[.int .i64 x, .int .i64 y, .int .i64 h, .int .i64 m] 55 (0, 0)) by rw [hwb, hb7]; exact heap_alloc_new wr _)
      have HNB := hide (show Nx wr wb from hwb ▸ (Nx.refl wr).alloc _)
      have hbn : b7 ≠ b5 := by have := hB.lt; omega
      have HBL := hide (hB.nx HNB.out)
      have HPT := hide (fun W (h : Nx wb W) => tab_nx HT.out (HN1.out.trans ((hnr.trans HNB.out).trans h)))
      have hbsz : b5 ≤ wb.heap.size := Nat.le_trans (Nat.le_of_lt hB.lt) HNB.out.sz
      have HNR := hide (hnr.trans HNB.out)
      go_upto_region 6 with fail
      rw [← hwb, ← hb7]
      clear hwb hb7 c0 c1 c2 c3 hB hnr
      have HS : Hid (∀ W, Nx wb W → (W.cell? ⟨b7, 0, none⟩ = some (.int .i64 x) ∧ W.cell? ⟨b7, 1, none⟩ = some (.int .i64 y) ∧ W.cell? ⟨b7, 2, none⟩ = some (.int .i64 h) ∧ W.cell? ⟨b7, 3, none⟩ = some (.int .i64 m))) := hide (fun W hn => by
        have hl := (Array.getElem?_eq_some_iff.1 HBB.out).1
        exact ⟨nx_cell hn hl (cell_of_row wb b7 0 _ _ _ HBB.out), nx_cell hn hl (cell_of_row wb b7 1 _ _ _ HBB.out), nx_cell hn hl (cell_of_row wb b7 2 _ _ _ HBB.out), nx_cell hn hl (cell_of_row wb b7 3 _ _ _ HBB.out)⟩)
      have HSK : Hid (∀ W W', Nx wb W → KpB b5 W W' → (W'.cell? ⟨b7, 0, none⟩ = some (.int .i64 x) ∧ W'.cell? ⟨b7, 1, none⟩ = some (.int .i64 y) ∧ W'.cell? ⟨b7, 2, none⟩ = some (.int .i64 h) ∧ W'.cell? ⟨b7, 3, none⟩ = some (.int .i64 m))) := hide (fun W W' hn hk => by
        have hl := (Array.getElem?_eq_some_iff.1 HBB.out).1
        have h1 := hk.2 b7 _ _ ((hn.block b7 hl).trans HBB.out) hbn (by decide)
        exact ⟨cell_of_row W' b7 0 _ _ _ h1, cell_of_row W' b7 1 _ _ _ h1, cell_of_row W' b7 2 _ _ _ h1, cell_of_row W' b7 3 _ _ _ h1⟩)
      have HX := hide (Nx.refl wb)
      go_region_held3 (fun w' => w'.cell? ⟨b7, 0, none⟩ = some (.int .i64 x) ∧ w'.cell? ⟨b7, 1, none⟩ = some (.int .i64 y) ∧ w'.cell? ⟨b7, 2, none⟩ = some (.int .i64 h) ∧ w'.cell? ⟨b7, 3, none⟩ = some (.int .i64 m))
        (first
          | (refine HS.out _ ?_; (repeat (first | exact HX.out | refine Nx.drew ?_ | refine Nx.trans ?_ (by assumption))); done)
          | (refine HSK.out _ _ ?_ hkz; (repeat (first | exact HX.out | refine Nx.drew ?_ | refine Nx.trans ?_ (by assumption))); done))
        (first
          | (go_at_call 58; refine (w_ItoaN _ (by omega) (by omega) _ (HPT.out _ ?_)).mono ?_; (· (repeat (first | exact HX.out | refine Nx.drew ?_ | refine Nx.trans ?_ (by assumption)))); rintro e wi ⟨rfl, hni⟩)
          | (go_at_call 57; refine (w_WStr b5 b5 (tallyText (L.take k)) _ _ (HBL.out.nx ?_) ?_ ?_).mono ?_; (· (repeat (first | exact HX.out | refine Nx.drew ?_ | refine Nx.trans ?_ (by assumption)))); (· (have e32 : (⟨#[32]⟩ : ByteArray).size = 1 := rfl; have e10 : (⟨#[10]⟩ : ByteArray).size = 1 := rfl; simp only [ByteArray.size_append]; omega)); (· (refine Nat.le_trans hbsz (Nx.sz ?_); (repeat (first | exact HX.out | refine Nx.drew ?_ | refine Nx.trans ?_ (by assumption))))); rintro e wz ⟨rfl, hbz, hkz, hqz⟩))
      all_goals
        (go_wp2_with fail
         go_roundw
         case rel => exact ⟨k + 1, by omega, by go_num, by rw [HTK.out, ← line_bytes]; exact hbz, by refine Nx.below (B := b5) ?_ hqz HB5.out; refine Nx.trans HNR.out ?_; (repeat (first | exact HX.out | refine Nx.drew ?_ | refine Nx.trans ?_ (by assumption)))⟩
         case measure => simp [intOf]; omega)
    · have ek : k = n := by omega
      have htk : L.take k = L := List.take_of_length_le (by have := HN.out; omega)
      rw [htk] at hB
      have HB := hide hB
      have HNR := hide hnr
      have hlen := HLE.out
      have hlz : ¬ (200000 : Int) < ((tallyText L).length : Int) := by have := HN.out; omega
      have hbz := hB.lt
      clear hB hnr htk
      go_wp2_with (first
        | (go_at_call 60; refine (w_BStr b5 b5 _ _ HB.out (by omega)).mono ?_; rintro e w9 ⟨rfl, hq9⟩))
      go_ret
      exact ⟨rfl, HN1.out.trans (Nx.below HNR.out hq9 HB5.out)⟩
end Go.Proofs.YthlhomcgjgfdhaaGreatDoor
