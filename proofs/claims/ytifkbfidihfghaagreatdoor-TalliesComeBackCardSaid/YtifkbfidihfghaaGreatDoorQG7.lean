/- Sorted keys: the program's check and the reference's. -/
import Derived.Test.YtifkbfidihfghaaGreatDoorQKey
import Derived.Test.YtifkbfidihfghaaGreatDoorQG3
import Derived.Test.YtifkbfidihfghaaGreatDoorQG0
import Derived.Test.YtifkbfidihfghaaGreatDoorQNumW
import Derived.Deep.DeepCutAuto
import Derived.Test.YtifkbfidihfghaaGreatDoorQShelfT
import Derived.StillTailTactics
import Derived.Sort.Grow
import Derived.Deep.RegionHeld3
import Derived.Maps.Own
import Derived.Maps.OwnOps
import Derived.Maps.Views
import Derived.Maps.RangeWalk
import Derived.WideKeyEntry
import Derived.Maps.Keyed
import Derived.DeepKeys4
import Derived.KernelRfl
import Derived.Shelf.SlSortCmp.NoneTotal
import Derived.Shelf.Spec.SlicesGrow
import Derived.Shelf.SlGeneric
import Derived.Shelf.Lay
import Derived.Ground.SlsfProg
import Derived.Ground.Names8Prog
import Derived.Laws.StructEq
import Derived.Maps.OwnSet
import Derived.Test.YtifkbfidihfghaaGreatDoorQStr
namespace Go.Proofs.YtifkbfidihfghaaGreatDoor
open Go.RowKit

def Small (l : List ByteArray) : Prop := ∀ s ∈ l, s.size ≤ 1000000
theorem Small.at {l : List ByteArray} (h : Small l) (k : Nat) (hk : k < l.length) : l[k].size ≤ 1000000 := h _ (List.getElem_mem hk)

end Go.Proofs.YtifkbfidihfghaaGreatDoor
/- slices.ContainsFunc over numbers and dues, slices.EqualFunc of keys and dues: each for every function value that answers plainly. -/
namespace Go.Proofs.YtifkbfidihfghaaGreatDoor
open Go.RowKit

def Enters (g : Nat) : Prop := ∀ args w, (callFunc g args).run Tryz.prog w = .ok (.enter g args) w

end Go.Proofs.YtifkbfidihfghaaGreatDoor
/- Cells behind calls that make memory alone. Of no program. -/
namespace Go.Proofs.YtifkbfidihfghaaGreatDoor
open Go.RowKit

theorem nx_cell {w w' : World} {b o : Nat} {v : Value} (hn : Nx w w') (hb : b < w.heap.size) (h : w.cell? ⟨b, o, none⟩ = some v) : w'.cell? ⟨b, o, none⟩ = some v := (Below.cell hn (p := ⟨b, _, none⟩) hb).trans h
theorem nx_rules {W w1 : World} (hb : Nx W w1) : (∀ b o, b < W.heap.size → w1.cell? ⟨b, o, none⟩ = W.cell? ⟨b, o, none⟩) ∧ (∀ b o, b < W.heap.size → w1.frozen? ⟨b, o, none⟩ = W.frozen? ⟨b, o, none⟩) :=
  ⟨fun b o h => Below.cell hb (p := ⟨b, o, none⟩) h, fun b o h => Below.frozen hb (p := ⟨b, o, none⟩) h⟩
end Go.Proofs.YtifkbfidihfghaaGreatDoor
/- strings.Split; base.Words, base.Lines, base.Each. -/
namespace Go.Proofs.YtifkbfidihfghaaGreatDoor
open Go.RowKit

/-- internal/bytealg.MaxLen holds some int. -/
def MaxI (w : World) : Prop := ∃ m : Int, w.cell? ⟨Tryz.splitStr_ren.g 1, 0, none⟩ = some (.int .i64 m)
theorem MaxI.nx {w w' : World} (h : MaxI w) (hn : Nx w w') : MaxI w' := by
  obtain ⟨m, hm⟩ := h
  exact ⟨m, nx_cell hn (World.block_lt_of_cell? _ _ hm) hm⟩
theorem MaxI.gr {s : Nat} {w w' : World} (h : MaxI w) (hn : Gr s w w') (hs : w.heap.size ≤ s) : MaxI w' := h.nx (Nx.of_gr hn hs)
def dataL (l : List ByteArray) : List (List UInt8) := l.map (fun s => s.data.toList)
theorem dataL_len (l : List ByteArray) : (dataL l).length = l.length := by simp [dataL]
theorem piece_le (c : UInt8) : ∀ (ws : List (List UInt8)), ∀ w ∈ ws, w.length ≤ (joinC c ws).length
  | [], w, h => by cases h
  | [v], w, h => by rw [List.mem_singleton.1 h]; exact Nat.le_refl _
  | v :: u :: ws, w, h => by
    show w.length ≤ (v ++ c :: joinC c (u :: ws)).length
    rw [List.length_append, List.length_cons]
    rcases List.mem_cons.1 h with rfl | h
    · omega
    · have := piece_le c (u :: ws) w h
      omega
theorem split_count (c : UInt8) : ∀ (n : Nat) (s : List UInt8), s.length ≤ n → (Lib.split s [c]).length ≤ s.length + 1 := by
  intro n
  induction n with
  | zero =>
    intro s hs
    have : s = [] := List.eq_nil_of_length_eq_zero (by omega)
    subst this
    rw [split_no (by simp)]; simp
  | succ n ih =>
    intro s hs
    by_cases h : c ∈ s
    · obtain ⟨a, r, rfl, ha⟩ := List.eq_append_cons_of_mem h
      rw [split_at ha]
      have := ih r (by simp at hs; omega)
      simp; omega
    · rw [split_no h]; simp
theorem w_Split (s : ByteArray) (c : UInt8) (hs : s.size ≤ 1000000) (w : World) (hM : MaxI w) :
    Calls Tryz.prog 37 #[.string s, .string ⟨#[c]⟩] w fun e w' => ∃ (ws : List ByteArray) (B : Option Addr), dataL ws = Lib.split s.data.toList [c] ∧ e = .returned (.slice B ws.length ws.length) ∧ Rd w' w.heap.size B 1 encS ws ∧ ws.length ≤ s.size + 1 ∧ (∀ x ∈ ws, x.size ≤ s.size) ∧ Nx w w' := by
  obtain ⟨m, hm⟩ := hM
  have hcon := Any.strings_Split Tryz.splitStr (by kernel_rfl) s ⟨#[c]⟩ m w (by omega) hm (Nat.le_refl 1)
  change Calls Tryz.prog 37 _ _ _ at hcon
  refine hcon.mono ?_
  rintro e w' ⟨rfl, rfl⟩
  obtain ⟨ws, hws⟩ : ∃ ws, ws = Lib.splitB ⟨#[c]⟩ 0 (Lib.countB s ⟨#[c]⟩) s := ⟨_, rfl⟩
  have hd : dataL ws = Lib.split s.data.toList [c] := by
    rw [hws]
    unfold dataL
    rw [Lib.splitB_data]
    rfl
  have hl : ws.length = Lib.countB s ⟨#[c]⟩ + 1 := by rw [hws]; exact Lib.splitB_all ⟨#[c]⟩ (Nat.le_refl 1) 0 _ s rfl
  have hle : ws.length ≤ s.size + 1 := by
    rw [← dataL_len, hd, ← len_data s]; exact split_count c _ _ (Nat.le_refl _)
  rw [← hws, ← hl]
  refine ⟨ws, _, hd, rfl, ?_, hle, fun x hx => ?_, (Nx.refl w).alloc _⟩
  · refine Rd.lit (hnew rfl) (Nat.le_refl _) (fun _ => rfl) ?_
    have e : ∀ l : List ByteArray, l.map Value.string = l.flatMap encS := fun l => by
      induction l with
      | nil => rfl
      | cons x l ih => rw [List.map_cons, List.flatMap_cons, ih]; rfl
    simpa using e ws
  · have h1 := (join_split c _ s.data.toList (Nat.le_refl _)).1
    have h2 := piece_le c (Lib.split s.data.toList [c]) x.data.toList (by rw [← hd]; exact List.mem_map.2 ⟨x, hx, rfl⟩)
    rw [h1, len_data, len_data] at h2
    exact h2

/-- base.Words of a string. -/
def WordsR (many : Nat) (s : ByteArray) (w : World) (e : Ending) (w' : World) : Prop :=
  ((wordsL many s.data.toList = none ∧ e = .returned (.tuple #[.slice none 0 0, .bool false])) ∨ ∃ (ws : List ByteArray) (B : Option Addr), wordsL many s.data.toList = some (dataL ws) ∧ ws.length = many ∧ e = .returned (.tuple #[.slice B many many, .bool true]) ∧ Rd w' w.heap.size B 1 encS ws ∧ (∀ x ∈ ws, x.size ≤ s.size)) ∧ Nx w w'
set_option maxRecDepth 100000 in
set_option maxHeartbeats 2000000 in
theorem w_Words (s : ByteArray) (many : Nat) (hm : many ≤ 1000) (hs : s.size ≤ 1000000) (w : World) (hM : MaxI w) :
    Calls Tryz.prog 19 #[.string s, .int .i64 (many : Int)] w (WordsR many s w) := by
  have HSP := hide (w_Split s 32 hs w hM)
  clear hM
  go_enter Tryz.func19, Tryz.ntmps19
  go_upto_region 2 with (go_at_call 37; refine HSP.out.mono ?_; rintro e w1 ⟨ws, B, hd, rfl, hR, hle, hsz, hn1⟩)
  have HD := hide (show wordsL many s.data.toList = if ws.length = many ∧ [] ∉ dataL ws then some (dataL ws) else none by
    unfold wordsL
    simp only [← hd, dataL_len])
  obtain ⟨n, hn⟩ : ∃ n, n = ws.length := ⟨_, rfl⟩
  rw [← hn] at hle HD ⊢
  have HN := hide hn
  have HR := hide hR
  have HN1 := hide hn1
  have HSZ := hide hsz
  clear hd hR hn1 hn hsz HSP
  by_cases hnm : n = many
  · have t1 : ((n : Int) != (many : Int)) = false := by rw [hnm]; simp
    have HNM := hide hnm
    have hn6 : n ≤ 1000 := by omega
    clear hnm
    go_upto_region 5 with fail
    go_loopw [8, 17] (fun _ i wr => ∃ j : Nat, j ≤ n ∧ i = .int .i64 j ∧ (∀ x ∈ ws.take j, x.data.toList ≠ []) ∧ w1 = wr) (fun _ i _ => n - (intOf i).toNat)
    case atStart => exact ⟨0, Nat.zero_le _, rfl, by simp, rfl⟩
    case round =>
      obtain ⟨j, hj, rfl, hq, rfl⟩ := hrel
      have HQ := hide hq
      clear hq
      by_cases hlt : j < n
      · have hjl : j < ws.length := by have := HN.out; omega
        obtain ⟨b, off, rfl, _, hb, hbr, hc⟩ := HR.out.open_ (Nx.refl w1) (by omega)
        have c0 : w1.cell? ⟨b, off + j, none⟩ = some (.string ws[j]) := by have h := hc j hjl 0 _ rfl; simpa using h
        have HTK := hide (show ws.take (j + 1) = ws.take j ++ [ws[j]] from List.take_succ_eq_append_getElem hjl)
        have HME := hide (show ws[j] ∈ ws from List.getElem_mem hjl)
        generalize ws[j] = x at *
        have i1 : (0 : Int) ≤ (j : Int) := by omega
        have i2 : (j : Int) < (n : Int) := by omega
        clear hc
        by_cases hx : x.data.toList = []
        · have te : x.toList = [] := by rw [Lib.toList_data]; exact hx
          have teb : x.toList.isEmpty = true := by rw [te]; rfl
          have HF := hide (show wordsL many s.data.toList = none by
            rw [HD.out, if_neg]
            rintro ⟨_, h⟩
            exact h (hx ▸ List.mem_map.2 ⟨x, HME.out, rfl⟩))
          clear hx
          go_wp2_with fail
          go_ret2
          exact ⟨.inl ⟨HF.out, rfl⟩, HN1.out⟩
        · have te : ¬ x.toList = [] := by rw [Lib.toList_data]; exact hx
          have teb : x.toList.isEmpty = false := by
            cases h : x.toList with
            | nil => exact absurd h te
            | cons _ _ => rfl
          have HX := hide hx
          clear hx
          go_wp2_with fail
          go_roundw
          case rel => exact ⟨j + 1, by omega, by go_num, (fun y hy => by
            rw [HTK.out] at hy
            rcases List.mem_append.1 hy with hy | hy
            · exact HQ.out y hy
            · rw [List.mem_singleton.1 hy]; exact HX.out), trivial⟩
          case measure => simp [intOf]; omega
      · have HF := hide (show wordsL many s.data.toList = some (dataL ws) by
          rw [HD.out, if_pos]
          refine ⟨HNM.out, fun h => ?_⟩
          obtain ⟨x, hx, he⟩ := List.mem_map.1 h
          refine HQ.out x ?_ he
          rw [List.take_of_length_le (by have := HN.out; omega)]; exact hx)
        go_wp2_with fail
        go_ret2
        exact ⟨.inr ⟨ws, B, HF.out, by have := HN.out; have := HNM.out; omega, by rw [← HNM.out]; rfl, HR.out, HSZ.out⟩, HN1.out⟩
  · have t1 : ((n : Int) != (many : Int)) = true := by simp; omega
    have HF := hide (show wordsL many s.data.toList = none by rw [HD.out, if_neg (fun h => hnm h.1)])
    clear hnm
    go_wp2_with fail
    go_ret2
    exact ⟨.inl ⟨HF.out, rfl⟩, HN1.out⟩
end Go.Proofs.YtifkbfidihfghaaGreatDoor
/- Plain functions: tallies checked and summed. -/
namespace Go.Proofs.YtifkbfidihfghaaGreatDoor

def maxCents : Int := 1000000000
def tallyV (t : Tally) : Bool := isPtB t.x t.y && !outB t.hour 0 167 && !outB t.many 1 maxCents
def tallyF (p : Option Tally) (t : Tally) : Int :=
  if tallyV t then (match p with | some q => if tallyC t q ≤ 0 then 7 else 0 | none => 0) else 1
/-- demand.CheckTallies of at most 400. -/
def talliesF (l : List Tally) : Int := chk tallyF none l
end Go.Proofs.YtifkbfidihfghaaGreatDoor
/- Plain: tallies as text. -/
namespace Go.Proofs.YtifkbfidihfghaaGreatDoor
open Go.Lib

theorem digit_not {c : UInt8} {d : Nat} (h : digitVal c = some d) : c ≠ 10 ∧ c ≠ 32 ∧ c ≠ 45 := by
  have h1 := digitVal_eq h
  refine ⟨?_, ?_, ?_⟩ <;> (rintro rfl; simp at h1)
theorem dec_mem : ∀ {l : List UInt8} {acc m : Nat}, decFrom acc l = some m → ∀ c ∈ l, ∃ d, digitVal c = some d
  | [], _, _, _, c, hc => by cases hc
  | b :: l, acc, m, h, c, hc => by
    simp only [decFrom] at h
    cases hb : digitVal b with
    | none => rw [hb] at h; cases h
    | some d =>
      rw [hb] at h
      rcases List.mem_cons.1 hc with rfl | hc
      · exact ⟨d, hb⟩
      · exact dec_mem h c hc
theorem itoa_ok (n : Int) : 10 ∉ itoa n ∧ 32 ∉ itoa n ∧ itoa n ≠ [] := by
  have key : ∀ u : Nat, 10 ∉ decDigits u ∧ 32 ∉ decDigits u := fun u => by
    have h := dec_digits u
    refine ⟨fun hc => ?_, fun hc => ?_⟩
    · obtain ⟨d, hd⟩ := dec_mem h _ hc; exact (digit_not hd).1 rfl
    · obtain ⟨d, hd⟩ := dec_mem h _ hc; exact (digit_not hd).2.1 rfl
  unfold itoa
  by_cases hn : n < 0
  · rw [if_pos hn]
    refine ⟨fun hc => ?_, fun hc => ?_, by simp⟩
    · rcases List.mem_cons.1 hc with h | h
      · exact absurd h (by decide)
      · exact (key _).1 h
    · rcases List.mem_cons.1 hc with h | h
      · exact absurd h (by decide)
      · exact (key _).2 h
  · rw [if_neg hn]
    exact ⟨(key _).1, (key _).2, decDigits_ne _⟩
def tallyW (t : Tally) : List Int := [t.x, t.y, t.hour, t.many]
def tallyLine (t : Tally) : List UInt8 := joinC 32 ((tallyW t).map itoa)
def tallyText (L : List Tally) : List UInt8 := textL (L.map tallyLine)
/-- A line that is read. -/
def readT (s : List UInt8) : Option Tally := match wordsL 4 s with
  | some ws => match numsL 10 ws with
    | some [a, b, c, d] => some ⟨a, b, c, d⟩
    | _ => none
  | none => none
def Digs (t : Tally) : Prop := ∀ n ∈ tallyW t, nDigits n.natAbs ≤ 10
theorem readT_line {t : Tally} (h : Digs t) : readT (tallyLine t) = some t := by
  unfold readT tallyLine
  have h1 : wordsL 4 (joinC 32 ((tallyW t).map itoa)) = some ((tallyW t).map itoa) := wordsL_join (ws := (tallyW t).map itoa) (by simp [tallyW]) (fun w hw => by
    obtain ⟨n, _, rfl⟩ := List.mem_map.1 hw
    exact ⟨(itoa_ok n).2.1, (itoa_ok n).2.2⟩)
  rw [h1]
  simp only [numsL_itoa _ h]
  rfl
theorem readT_inv {s : List UInt8} {t : Tally} (h : readT s = some t) : tallyLine t = s ∧ Digs t := by
  unfold readT at h
  cases h1 : wordsL 4 s with
  | none => rw [h1] at h; cases h
  | some ws =>
    rw [h1] at h
    simp only at h
    cases h2 : numsL 10 ws with
    | none => rw [h2] at h; cases h
    | some ns =>
      rw [h2] at h
      obtain ⟨w1, w2⟩ := wordsL_inv h1
      obtain ⟨n1, n2⟩ := numsL_inv h2
      have hl : ns.length = 4 := by rw [← w2, ← n1, List.length_map]
      match ns, hl with
      | [a, b, c, d], _ =>
        simp only [Option.some.injEq] at h
        subst h
        refine ⟨?_, n2⟩
        unfold tallyLine tallyW
        rw [n1]; exact w1
theorem small_digits {n : Int} (h : -1000000000 ≤ n ∧ n ≤ 1000000000) : nDigits n.natAbs ≤ 10 := by
  rcases Nat.lt_or_ge 10 (nDigits n.natAbs) with h1 | h1
  · exfalso
    obtain ⟨k, hk⟩ : ∃ k, nDigits n.natAbs = k + 1 := ⟨nDigits n.natAbs - 1, by omega⟩
    have h2 : 10 ^ 10 ≤ n.natAbs := by
      have h3 : ∀ (k u : Nat), nDigits u = k + 1 → 10 ^ k ≤ u ∨ k = 0 := by
        intro k
        induction k with
        | zero => intro u _; exact .inr rfl
        | succ k ih =>
          intro u hu
          by_cases h : u < 10
          · rw [nDigits_small h] at hu; omega
          · rw [nDigits_big h] at hu
            left
            rcases ih (u / 10) (by omega) with h4 | h4
            · rw [Nat.pow_succ]; omega
            · subst h4; omega
      rcases h3 k _ hk with h4 | h4
      · exact Nat.le_trans (Nat.pow_le_pow_right (by decide) (by omega)) h4
      · omega
    omega
  · exact h1
theorem chkT_all {α : Type} {f : Option α → α → Int} : ∀ {q : Option α} {l : List α}, chk f q l = 0 → ∀ x ∈ l, ∃ q', f q' x = 0
  | _, [], _, x, hx => by cases hx
  | q, y :: l, h, x, hx => by
    unfold chk at h
    split at h
    · rename_i h0
      rcases List.mem_cons.1 hx with rfl | hx
      · exact ⟨q, h0⟩
      · exact chkT_all h x hx
    · rename_i h0; exact absurd h h0
/-- Right tallies have few digits. -/
theorem tallies_digs {L : List Tally} (h : talliesF L = 0) : ∀ t ∈ L, Digs t := by
  intro t ht
  obtain ⟨q, hq⟩ := chkT_all (f := tallyF) h t ht
  have hv : tallyV t = true := by
    unfold tallyF at hq
    split at hq
    · assumption
    · cases hq
  unfold tallyV at hv
  simp only [Bool.and_eq_true, Bool.not_eq_true', outB_false, isPtB_true] at hv
  unfold maxCents at hv
  intro n hn
  simp only [tallyW, List.mem_cons, List.not_mem_nil, or_false] at hn
  refine small_digits ?_
  rcases hn with rfl | rfl | rfl | rfl <;> omega
theorem line_ok (t : Tally) : 10 ∉ tallyLine t := by
  show 10 ∉ itoa t.x ++ 32 :: (itoa t.y ++ 32 :: (itoa t.hour ++ 32 :: itoa t.many))
  have hx := (itoa_ok t.x).1
  have hy := (itoa_ok t.y).1
  have hh := (itoa_ok t.hour).1
  have hm := (itoa_ok t.many).1
  simp only [List.mem_append, List.mem_cons]
  rintro (h | h | h | h | h | h | h)
  · exact hx h
  · exact absurd h (by decide)
  · exact hy h
  · exact absurd h (by decide)
  · exact hh h
  · exact absurd h (by decide)
  · exact hm h
theorem text_lines (L : List Tally) : linesL (tallyText L) = (L.map tallyLine, true) := linesL_text (fun l hl => by
  obtain ⟨t, _, rfl⟩ := List.mem_map.1 hl
  exact line_ok t)
/-- Each line is as long as seven signs. -/
theorem text_len (L : List Tally) : 8 * L.length ≤ (tallyText L).length := by
  induction L with
  | nil => simp
  | cons t L ih =>
    have e : tallyText (t :: L) = (tallyLine t ++ [10]) ++ tallyText L := rfl
    have h1 : tallyLine t = itoa t.x ++ 32 :: (itoa t.y ++ 32 :: (itoa t.hour ++ 32 :: itoa t.many)) := rfl
    have p : ∀ n : Int, 1 ≤ (itoa n).length := fun n => by
      have := (itoa_ok n).2.2
      cases h : itoa n with
      | nil => exact absurd h this
      | cons _ _ => simp
    have := p t.x; have := p t.y; have := p t.hour; have := p t.many
    rw [e, h1]
    simp only [List.length_append, List.length_cons, List.length_nil]
    omega
theorem line_inj {L M : List Tally} (hL : ∀ t ∈ L, Digs t) (hM : ∀ t ∈ M, Digs t) (h : L.map tallyLine = M.map tallyLine) : L = M := by
  have key : ∀ K : List Tally, (∀ t ∈ K, Digs t) → (K.map tallyLine).map readT = K.map some := fun K hK => by
    rw [List.map_map]
    exact List.map_congr_left (fun t ht => readT_line (hK t ht))
  have h1 := key L hL
  rw [h, key M hM] at h1
  exact (List.map_inj_right (fun a b h => Option.some.inj h)).1 h1.symm
end Go.Proofs.YtifkbfidihfghaaGreatDoor
/- strconv.Itoa for every number; the library's table stays. -/
namespace Go.Proofs.YtifkbfidihfghaaGreatDoor
open Go.RowKit

abbrev PowTab (w : World) : Prop := Lib.TabIs Tryz.prog w "internal/strconv.uint64pow10" .u64 Lib.pow10Tab
theorem tab_nx {P : Program} {w w' : World} {name : String} {k : IntKind} {zs : List Int} (h : Lib.TabIs P w name k zs) (hn : Nx w w') : Lib.TabIs P w' name k zs := by
  unfold Lib.TabIs World.var? at h ⊢
  cases hg : P.globalNamed name with
  | none => rw [hg] at h; simp at h
  | some g =>
    rw [hg] at h
    simp only [Option.bind_some] at h ⊢
    cases hb : w.heap[g]? with
    | none => rw [hb] at h; simp at h
    | some o =>
      rw [hn.block g (Array.getElem?_eq_some_iff.1 hb).1]
      exact h
def itoaS (n : Int) : ByteArray := ⟨(Lib.itoa n).toArray⟩
theorem w_ItoaN (n : Int) (h0 : -9223372036854775808 ≤ n) (h1 : n ≤ 9223372036854775807) (w : World) (ht : PowTab w) : Calls Tryz.prog 14 #[.int .i64 n] w fun e w' => e = .returned (.string (itoaS n)) ∧ Nx w w' := by
  refine (Any.strconv_Itoa Tryz.itoaM n h0 h1 w ht).mono ?_
  rintro e w' ⟨rfl, k, os, rfl⟩
  exact ⟨rfl, Lays.nx ⟨k, os, rfl⟩⟩
end Go.Proofs.YtifkbfidihfghaaGreatDoor
/- cmp.Compare of numbers. -/
namespace Go.Proofs.YtifkbfidihfghaaGreatDoor
open Go.RowKit

theorem w_isNaN (a : Int) (w : World) : Calls Tryz.prog 91 #[.int .i64 a] w fun e w' => e = .returned (.bool false) ∧ w = w' := by
  go_enter Tryz.func91, Tryz.ntmps91
  go_wp2
  go_ret
  exact ⟨rfl, rfl⟩

theorem w_Compare (a b : Int) (w : World) : Calls Tryz.prog 58 #[.int .i64 a, .int .i64 b] w fun e w' => e = .returned (.int .i64 (cmpI a b)) ∧ w = w' := by
  by_cases h1 : a < b
  · go_enter Tryz.func58, Tryz.ntmps58
    go_wp2_with (go_at_call 91; refine (w_isNaN _ _).mono ?_; rintro e w' ⟨rfl, rfl⟩)
    go_ret
    exact ⟨ret_int (by unfold cmpI; simp [h1]), rfl⟩
  · by_cases h2 : b < a
    · go_enter Tryz.func58, Tryz.ntmps58
      go_wp2_with (go_at_call 91; refine (w_isNaN _ _).mono ?_; rintro e w' ⟨rfl, rfl⟩)
      go_ret
      exact ⟨ret_int (by unfold cmpI; simp [h1, h2]), rfl⟩
    · go_enter Tryz.func58, Tryz.ntmps58
      go_wp2_with (go_at_call 91; refine (w_isNaN _ _).mono ?_; rintro e w' ⟨rfl, rfl⟩)
      go_ret
      exact ⟨ret_int (by unfold cmpI; rw [if_neg (by omega), if_neg (by omega)]), rfl⟩

end Go.Proofs.YtifkbfidihfghaaGreatDoor
/- Rounding down: the program's and the reference's. -/
namespace Go.Proofs.YtifkbfidihfghaaGreatDoor
open Go.RowKit

theorem w_Down (a b : Int) (w : World) (hb : 1 ≤ b ∧ b ≤ 4611686018427387904) (ha : -4611686018427387904 ≤ a ∧ a ≤ 4611686018427387904) :
    Calls Tryz.prog 54 #[.int .i64 a, .int .i64 b] w fun e w' => e = .returned (.int .i64 (a / b)) ∧ w = w' := by
  have q1 := tdiv_bd a b hb.1
  have q2 : -4611686018427387904 ≤ a.tdiv b ∧ a.tdiv b ≤ 4611686018427387904 := by split at q1 <;> omega
  clear q1
  have b1 : a.tmod b < b := Int.tmod_lt_of_pos a (by omega)
  have b2 : -b < a.tmod b := by have := Int.lt_tmod_of_pos a (b := b) (by omega); omega
  by_cases h : a.tmod b < 0
  · go_enter Tryz.func54, Tryz.ntmps54
    go_wp2
    go_ret
    exact ⟨ret_int (floor_neg a b hb.1 h), rfl⟩
  · go_enter Tryz.func54, Tryz.ntmps54
    go_wp2
    go_ret
    exact ⟨ret_int (floor_pos a b hb.1 (by omega)), rfl⟩

end Go.Proofs.YtifkbfidihfghaaGreatDoor
/- The walks of the smallest functions of numbers. -/
namespace Go.Proofs.YtifkbfidihfghaaGreatDoor
open Go.RowKit

theorem w_Moment (n : Int) (w : World) : Calls Tryz.prog 46 #[.int .i64 n] w fun e w' => e = .returned (.bool (momB n)) ∧ w = w' := by
  have H := hide (show outB n 0 345686399999 = outB n 0 lastMo from rfl)
  go_enter Tryz.func46, Tryz.ntmps46
  go_wp2_with (go_at_call 31; rw [show (345686399999 : Int) = lastMo from rfl]; refine (w_Out _ _ _ _).mono ?_; rintro e w' ⟨rfl, rfl⟩)
  go_ret
  exact ⟨ret_bool (by unfold momB; rfl), rfl⟩

theorem w_isPoint (x y : Int) (w : World) : Calls Tryz.prog 30 #[.int .i64 x, .int .i64 y] w fun e w' => e = .returned (.bool (isPtB x y)) ∧ w = w' := by
  go_enter Tryz.func30, Tryz.ntmps30
  cases h1 : outB x (-10000) 10000 <;> cases h2 : outB y (-10000) 10000
  all_goals
    go_wp2_with (go_at_call 31; refine (w_Out _ _ _ _).mono ?_; rintro e w' ⟨rfl, rfl⟩)
    go_ret
    exact ⟨ret_bool (by unfold isPtB; simp [h1, h2]), rfl⟩

end Go.Proofs.YtifkbfidihfghaaGreatDoor
/- Structs by value, small loops over lists. -/
namespace Go.Proofs.YtifkbfidihfghaaGreatDoor
open Go.RowKit

def encTally (c : Tally) : List Value := [.int .i64 c.x, .int .i64 c.y, .int .i64 c.hour, .int .i64 c.many]

theorem w_CellOf_yes (x y size : Int) (w : World) (h1 : isPtB x y = true) (h2 : outB size 1 10000 = false) :
    Calls Tryz.prog 27 #[.int .i64 x, .int .i64 y, .int .i64 size] w fun e w' => e = .returned (.tuple #[.agg #[.int .i64 (x / size), .int .i64 (y / size)], .int .i64 0]) ∧ Nx w w' := by
  have g1 := isPtB_true.1 h1
  have g2 := outB_false.1 h2
  go_enter Tryz.func27, Tryz.ntmps27
  go_wp2_with (first | (go_at_call 30; refine (w_isPoint _ _ _).mono ?_; rintro e w' ⟨rfl, rfl⟩) | (go_at_call 31; refine (w_Out _ _ _ _).mono ?_; rintro e w' ⟨rfl, rfl⟩) | (go_at_call 54; refine (w_Down _ _ _ (by omega) (by omega)).mono ?_; rintro e w' ⟨rfl, rfl⟩))
  exact bodyPost_ret (v := .tuple #[.agg #[.int .i64 (x / size), .int .i64 (y / size)], .int .i64 0]) (by simp [results, Tryz.results27, go_sem]) rfl ⟨rfl, (Nx.refl _).alloc _⟩

set_option maxHeartbeats 400000 in
theorem w_OrQ (lo : Nat) (A : Option Addr) (c : Nat) (zs : List Int) (w : World) (hR : Rd w lo A 1 encI zs) (hl : zs.length ≤ 65536) :
    Calls Tryz.prog 56 #[.slice A zs.length c] w fun e w' => e = .returned (.int .i64 (orI zs)) ∧ w = w' := by
  generalize hn : zs.length = n at *
  have HR := hide hR
  have HN := hide hn
  clear hR hn
  go_enter Tryz.func56, Tryz.ntmps56
  go_wp2
  go_loop [2, 5, 8] (fun _ _ i => ∃ k : Nat, k ≤ n ∧ i = .int .i64 k ∧ orI zs = orI (zs.drop k)) (fun _ _ i => n - (intOf i).toNat)
  case atStart => exact ⟨0, Nat.zero_le _, rfl, rfl⟩
  case round =>
    obtain ⟨k, hk, rfl, hq⟩ := hrel
    have HQ := hide hq
    clear hq
    by_cases hlt : k < n
    · have hlt' : k < zs.length := by have := HN.out; omega
      obtain ⟨b, off, rfl, _, hb, _, hc⟩ := HR.out.open_ (Nx.refl w) (by omega)
      have c0 : w.cell? ⟨b, off + k, none⟩ = some (.int .i64 zs[k]) := by have := hc k hlt' 0 _ rfl; simpa using this
      clear hc
      have HD := hide (orI_drop zs k hlt')
      by_cases hz : zs[k] = 0
      · have hz' : (zs[k] != 0) = false := by simpa using hz
        generalize zs[k] = z at *
        go_wp2
        go_round
        case rel => exact ⟨k + 1, by omega, by go_num, by rw [HQ.out, HD.out, if_pos hz]⟩
        case measure => simp [intOf]; omega
      · have hz' : (zs[k] != 0) = true := by simpa using hz
        generalize zs[k] = z at *
        go_wp2
        go_ret
        exact ⟨ret_int (by rw [HQ.out, HD.out, if_neg hz]), rfl⟩
    · go_wp2
      go_ret
      exact ⟨ret_int (by rw [HQ.out, List.drop_of_length_le (by have := HN.out; omega)]; rfl), rfl⟩


end Go.Proofs.YtifkbfidihfghaaGreatDoor
/- The comparisons. -/
namespace Go.Proofs.YtifkbfidihfghaaGreatDoor
open Go.RowKit Go.Sort

set_option maxHeartbeats 1000000 in
theorem w_OrI2 (a b : Int) (g c : Nat) (w : World) (hg : w.heap[g]? = some (.cells #[.int .i64 a, .int .i64 b] 3 (0, 0))) :
    Calls Tryz.prog 56 #[.slice (some ⟨g, 0, none⟩) 2 c] w fun e w' => e = .returned (.int .i64 (orI [a, b])) ∧ w = w' := by
  have hR : Rd w 0 (some ⟨g, 0, none⟩) 1 encI [a, b] := Rd.lit hg (Nat.zero_le _) (fun _ => rfl) rfl
  exact w_OrQ 0 _ c [a, b] w hR (by simp)

set_option maxRecDepth 100000 in
set_option maxHeartbeats 1000000 in
theorem w_byCell (a b : Cell) (w : World) :
    Calls Tryz.prog 57 #[.agg #[.int .i64 a.x, .int .i64 a.y], .agg #[.int .i64 b.x, .int .i64 b.y]] w fun e w' => e = .returned (.int .i64 (cellC a b)) ∧ Lays w w' := by
  go_enter Tryz.func57, Tryz.ntmps57
  go_wp2_with fail
  refine region_still_tail 10 (by kernel_rfl) (by kernel_rfl) ?_
  simp only [List.take_succ_cons, List.take_zero, List.drop_succ_cons, List.drop_zero]
  still_step; still_step; still_step; still_step
  still_call (flipc (w_Compare _ _ _))
  still_step; still_step; still_step; still_step
  still_call (flipc (w_Compare _ _ _))
  refine wpStill_nil ?_
  go_wp2_with (go_at_call 56; refine (w_OrI2 (cmpI a.x b.x) (cmpI a.y b.y) _ _ _ (hnew_drew (by simp))).mono ?_; rintro e w' ⟨rfl, rfl⟩)
  go_ret
  exact ⟨rfl, (((Lays.refl _).alloc _).alloc _).alloc _ |>.drew⟩

set_option maxRecDepth 100000 in
set_option maxHeartbeats 1000000 in
theorem w_byTally (a b : Tally) (w : World) :
    Calls Tryz.prog 32 #[.agg (encTally a).toArray, .agg (encTally b).toArray] w fun e w' => e = .returned (.int .i64 (tallyC a b)) ∧ Lays w w' := by
  unfold encTally
  go_enter Tryz.func32, Tryz.ntmps32
  go_wp2_with fail
  go_region_held3 (fun w' => w'.cell? ⟨w.heap.size, 0, none⟩ = some (.int .i64 a.x) ∧ w'.cell? ⟨w.heap.size, 1, none⟩ = some (.int .i64 a.y) ∧ w'.cell? ⟨w.heap.size, 2, none⟩ = some (.int .i64 a.hour) ∧ w'.cell? ⟨w.heap.size + 1, 0, none⟩ = some (.int .i64 b.x) ∧ w'.cell? ⟨w.heap.size + 1, 1, none⟩ = some (.int .i64 b.y) ∧ w'.cell? ⟨w.heap.size + 1, 2, none⟩ = some (.int .i64 b.hour))
    (first | go_keep | (go_split_ands; exact ⟨hL.cell ‹_›, hL.cell ‹_›, hL.cell ‹_›, hL.cell ‹_›, hL.cell ‹_›, hL.cell ‹_›⟩))
    (first
      | (go_at_call 57; refine (w_byCell ⟨a.x, a.y⟩ ⟨b.x, b.y⟩ _).mono ?_; rintro e w1 ⟨rfl, hL⟩)
      | (go_at_call 58; refine (w_Compare _ _ _).mono ?_; rintro e w' ⟨rfl, rfl⟩)
      | (go_at_call 56; refine (w_OrI2 (cellC ⟨a.x, a.y⟩ ⟨b.x, b.y⟩) (cmpI a.hour b.hour) _ _ _ (hnew (by simp))).mono ?_; rintro e w' ⟨rfl, rfl⟩)
      | (go_at_call 56; refine (w_OrI2 (cellC ⟨a.x, a.y⟩ ⟨b.x, b.y⟩) (cmpI a.hour b.hour) _ _ _ (hnew_drew (by simp))).mono ?_; rintro e w' ⟨rfl, rfl⟩))
  go_wp2
  go_ret
  exact ⟨rfl, by repeat (first | exact Lays.refl _ | refine Lays.trans ?_ hL | refine Lays.drew ?_ | refine Lays.drewN ?_ _ | refine Lays.alloc ?_ _)⟩
end Go.Proofs.YtifkbfidihfghaaGreatDoor
/- A map of integers, said of a plain function: what it holds at each key. Of no program. -/
namespace Go.Proofs.YtifkbfidihfghaaGreatDoor
open Go.RowKit Go.Maps

section
variable {κ : Type} {P : Program} {K E : TypeId} {ek : κ → Value} {dom : κ → Prop}

/-- The map's datum D holds f k at key k (0 where it has none); its keys lie in dom. -/
structure MpD (P : Program) (K : TypeId) (ek : κ → Value) (dom : κ → Prop) (D : DataW Unit) (f : κ → Int) : Prop where
  isMap : IsMap D
  at_ : ∀ k l, dom k → keyOf P K (ek k) = some l → D.atKey l (.lit (.int .i64 0)) = .lit (.int .i64 (f k))
  keys : ∀ l, has D l = true → ∃ k, dom k ∧ keyOf P K (ek k) = some l

/-- Block b is such a map. -/
def MpI (P : Program) (K E : TypeId) (ek : κ → Value) (dom : κ → Prop) (w : World) (b n : Nat) (f : κ → Int) : Prop :=
  ∃ D : DataW Unit, w.ownsMap P K (plainElem P E) b n D ∧ MpD P K ek dom D f

theorem MpI.lt {w : World} {b n : Nat} {f : κ → Int} (h : MpI P K E ek dom w b n f) : b < w.heap.size := by
  obtain ⟨D, h1, _⟩ := h; exact h1.lt
theorem MpI.nx {w w' : World} {b n : Nat} {f : κ → Int} (h : MpI P K E ek dom w b n f) (hn : Nx w w') : MpI P K E ek dom w' b n f := by
  obtain ⟨D, h1, h2⟩ := h
  exact ⟨D, h1.kept (hn.gr none) (by simp), h2⟩
theorem MpI.mono {w : World} {b n n' : Nat} {f : κ → Int} (h : MpI P K E ek dom w b n f) (hn : n ≤ n') : MpI P K E ek dom w b n' f := by
  obtain ⟨D, h1, h2⟩ := h; exact ⟨D, h1.mono hn, h2⟩
theorem MpI.made (w : World) : MpI P K E ek dom (w.alloc (.map #[] 0)) w.heap.size 0 (fun _ => 0) :=
  ⟨.map [], World.ownsMap_made w P K _, isMap_empty, fun _ _ _ _ => rfl, fun l h => by simp [has_eq] at h⟩
theorem wf_i64 {n : Int} : (Lit.int .i64 n).wf = true ↔ -9223372036854775808 ≤ n ∧ n ≤ 9223372036854775807 := by
  simp [Lit.wf, IntKind.min, IntKind.max, IntKind.signed, IntKind.bits]

theorem MpI.look {w : World} {b n : Nat} {f : κ → Int} {t : TypeId} (h : MpI P K E ek dom w b n f) (KL : Keyed P K) (ht : P.underlying t = some (.map K E)) (he : P.underlying E = some (.int .i64)) (hz : (zeroValue E).run P w = .ok (.int .i64 0) w)
    {k : κ} (hd : dom k) {l : Lit} (hkey : keyOf P K (ek k) = some l) : (Instr.lookup t (.map (some b)) (ek k) false).run P w = .ok (.int .i64 (f k)) w ∧ (Lit.int .i64 (f k)).wf = true := by
  obtain ⟨D, h1, h2⟩ := h
  obtain ⟨c, hrun, hat, hwf⟩ := h1.lookup_int KL ht he hz hkey
  have e := h2.at_ k l hd hkey
  rw [hat] at e
  have e' : c = f k := by injection e with e; injection e
  subst e'
  exact ⟨hrun, hwf⟩

theorem MpD.put {D : DataW Unit} {f : κ → Int} [DecidableEq κ] (h : MpD P K ek dom D f) (KL : Keyed P K) (hinj : ∀ a b : κ, ek a = ek b → a = b) {k : κ} (hd : dom k) {l : Lit} (hkey : keyOf P K (ek k) = some l) (v : Int) :
    MpD P K ek dom (D.put l (.lit (.int .i64 v))) (fun k' => if k' = k then v else f k') where
  isMap := h.isMap.put _ _
  at_ k' l' hd' hk' := by
    by_cases e : k' = k
    · subst e
      rw [hkey] at hk'; injection hk' with hk'; subst hk'
      rw [if_pos rfl]
      exact atKey_put_same h.isMap (KL.key hkey) _ _
    · rw [if_neg e]
      have hne : l' ≠ l := fun e1 => by subst e1; exact e (hinj _ _ (KL.inj hk' hkey))
      rw [atKey_put_other hne]
      exact h.at_ k' l' hd' hk'
  keys l' hl' := by
    by_cases e : l' = l
    · subst e; exact ⟨k, hd, hkey⟩
    · rw [has_put_other e] at hl'; exact h.keys l' hl'

set_option maxRecDepth 100000 in
/-- 'm[k] op= v', as the model runs it: first the entry, then the store. -/
theorem MpI.entry {w : World} {b n : Nat} {f : κ → Int} [DecidableEq κ] {t : TypeId} (h : MpI P K E ek dom w b n f) (KL : WideMaps.KeyLaw P K) (hinj : ∀ a b : κ, ek a = ek b → a = b) (ht : P.underlying t = some (.map K E)) (he : P.underlying E = some (.int .i64))
    (hz : ∀ u, (zeroValue E).run P u = .ok (.int .i64 0) u) (hn : n < maxLen) {k : κ} (hd : dom k) {l : Lit} (hkey : keyOf P K (ek k) = some l) :
    ∃ (v0 : Value) (st : Int) (w1 : World), (Instr.mapEntry t (.map (some b)) (ek k)).run P w = .ok (.tuple #[v0, .int .i64 st]) w1 ∧ w.grownBy w1 (some b) ∧ (Instr.lookup t (.map (some b)) (ek k) false).run P w1 = .ok (.int .i64 (f k)) w1 ∧
      ∀ v : Int, (Lit.int .i64 v).wf = true → ∃ w2, (Instr.entryStore t (.map (some b)) (.int .i64 st) (.int .i64 v)).run P w1 = .ok () w2 ∧ MpI P K E ek dom w2 b (n + 1) (fun k' => if k' = k then v else f k') ∧ w.grownBy w2 (some b) := by
  obtain ⟨D, h1, h2⟩ := h
  have h1' := h1
  obtain ⟨es, clock, hb, F, _, _⟩ := h1
  obtain ⟨v0, st, es1, clock1, hr1, _, hr2⟩ := WideElems.entry_then_store KL ht hz hb F hkey
  refine ⟨v0, st, _, hr1, ⟨rfl, rfl, rfl, by simp [ChangeMaps.setBlock], fun k hk hne => by
    have : b ≠ k := fun e => hne (by rw [e])
    simp [ChangeMaps.setBlock, this]⟩, ?_, fun v hv => ?_⟩
  · have hlt : b < w.heap.size := h1'.lt
    rcases KL.find w hkey es.toList F.keys with ⟨e1, e2⟩ | ⟨j, e0, e1, e2, e3⟩
    · have hrun : (Instr.mapEntry t (.map (some b)) (ek k)).run P w = .ok (.tuple #[.int .i64 0, goInt clock]) (ChangeMaps.setBlock w b (.map (es.push ⟨ek k, .int .i64 0, clock⟩) (clock + 1))) := by
        simp [Instr.mapEntry, run_underlying ht, MapKept.run_getObj_map hb, KL.check w false hkey, e1, hz, MapKept.run_setObj_map _ hb, Result.andThen, ChangeMaps.setBlock]
      have hup : (Instr.mapUpdate t (.map (some b)) (ek k) (.int .i64 0)).run P w = .ok () (ChangeMaps.setBlock w b (.map (es.push ⟨ek k, .int .i64 0, clock⟩) (clock + 1))) := by
        simp [Instr.mapUpdate, run_underlying ht, MapKept.run_getObj_map hb, KL.check w false hkey, e1, MapKept.run_setObj_map _ hb, Result.andThen, ChangeMaps.setBlock]
      rw [hr1] at hrun
      rw [Result.ok.injEq] at hrun
      have ew := hrun.2
      clear hrun
      rw [ew]
      obtain ⟨w2, hu2, ho2, _⟩ := h1'.update (Keyed.of_law KL) ht hn hkey (plainElem_int (H := Unit) he (wf_i64.2 (by omega) : (Lit.int .i64 0).wf = true))
      rw [hup] at hu2
      rw [Result.ok.injEq] at hu2
      have eu := hu2.2
      clear hu2
      have hM : MpI P K E ek dom w2 b (n + 1) (fun k' => if k' = k then 0 else f k') := ⟨_, ho2, h2.put (Keyed.of_law KL) hinj hd hkey 0⟩
      have hl := (hM.look (Keyed.of_law KL) ht he (hz _) hd hkey).1
      rw [if_pos rfl] at hl
      have hf : f k = 0 := by
        have e4 := (MpI.look ⟨D, h1', h2⟩ (Keyed.of_law KL) ht he (hz _) hd hkey).1
        have e5 : (Instr.lookup t (.map (some b)) (ek k) false).run P w = .ok (.int .i64 0) w := by
          simp [Instr.lookup, run_underlying ht, MapKept.run_getObj_map hb, KL.check w _ hkey, e1, hz, Result.andThen]
        rw [e5] at e4
        injection e4 with e4 _; injection e4 with _ e4; exact e4.symm
      rw [eu, hf]
      exact hl
    · have hj : es[j]? = some e0 := by simpa using e2
      have hrun : (Instr.mapEntry t (.map (some b)) (ek k)).run P w = .ok (.tuple #[e0.val, goInt e0.born]) w := by
        have hsame : es.modify j (fun e => { e with key := ek k }) = es := by
          apply Array.ext'
          rw [Array.toList_modify]
          have h6 : ({ e0 with key := ek k } : MapEntry) = e0 := by rw [← e3]
          apply List.ext_getElem?
          intro i
          rw [List.getElem?_modify]
          by_cases hi : j = i
          · subst hi; rw [e2]; simp [h6]
          · simp [hi]
        simp [Instr.mapEntry, run_underlying ht, MapKept.run_getObj_map hb, KL.check w false hkey, e1, hj, e3, KL.stays w hkey, hsame, MapKept.run_setObj_map _ hb, Result.andThen]
        have hs : w.heap.setIfInBounds b (.map es clock) = w.heap := by
          apply Array.ext'
          rw [Array.toList_setIfInBounds]
          apply List.ext_getElem?
          intro i
          rw [List.getElem?_set]
          by_cases hi : b = i
          · subst hi; rw [if_pos rfl, if_pos (by simpa using hlt), Array.getElem?_toList, hb]
          · rw [if_neg hi]
        rw [hs]
      rw [hr1] at hrun
      rw [Result.ok.injEq] at hrun
      have ew := hrun.2
      clear hrun
      rw [ew]
      exact (MpI.look ⟨D, h1', h2⟩ (Keyed.of_law KL) ht he (hz _) hd hkey).1
  obtain ⟨es', clock', hs, hu⟩ := hr2 (ChangeMaps.setBlock w b (.map es1 clock1)) (.int .i64 v) (by
    have hlt : b < w.heap.size := h1'.lt
    simp [ChangeMaps.setBlock, hlt])
  obtain ⟨w2, hu2, ho2, hg2⟩ := h1'.update (Keyed.of_law KL) ht hn hkey (plainElem_int (H := Unit) he hv)
  rw [hu] at hu2
  injection hu2 with _ e2
  have e3 : ChangeMaps.setBlock (ChangeMaps.setBlock w b (.map es1 clock1)) b (.map es' clock') = ChangeMaps.setBlock w b (.map es' clock') := by
    simp [ChangeMaps.setBlock]
  rw [e3, e2] at hs
  exact ⟨w2, hs, ⟨_, ho2, h2.put (Keyed.of_law KL) hinj hd hkey v⟩, hg2⟩
end
end Go.Proofs.YtifkbfidihfghaaGreatDoor
/- Maps: the keys. -/
namespace Go.Proofs.YtifkbfidihfghaaGreatDoor
open Go.RowKit Go.Maps

theorem tySize : Tryz.prog.types.size = 265 := by kernel_rfl
theorem laidOut : laidOutB Tryz.prog = true := by kernel_rfl
theorem cells_int : Tryz.prog.cellsOf 3 = 1 := by kernel_rfl

theorem lits_int (d : Nat) (x : Int) (hx : (Lit.int .i64 x).wf = true) : Tryz.prog.keyLits (d + 1) 3 [.int .i64 x] = some [.int .i64 x] := by
  unfold Program.keyLits; rw [Tryz.underlying3]; simp [hx]
end Go.Proofs.YtifkbfidihfghaaGreatDoor
/- The tallies of a map, sorted. -/
namespace Go.Proofs.YtifkbfidihfghaaGreatDoor
open Go.RowKit Go.Sort Go.Shelf Go.Maps

theorem el_Tally : ElemOf Tryz.prog 26 37 4 32 := ElemOf.mk' (z := .agg #[.int .i64 0, .int .i64 0, .int .i64 0, .int .i64 0]) Tryz.underlying26 (by kernel_rfl) rfl
theorem encTally_len (x : Tally) : (encTally x).length = 4 := rfl
theorem encTally_one (x : Tally) : ∀ v ∈ encTally x, v.oneCell' = true := by
  intro v hv; simp [encTally] at hv; rcases hv with rfl | rfl | rfl | rfl <;> rfl
end Go.Proofs.YtifkbfidihfghaaGreatDoor
/- '==' and '!=' on structs. -/
namespace Go.Proofs.YtifkbfidihfghaaGreatDoor
open Go.RowKit

theorem gd_Cell : Tryz.prog.eqGuardType Tryz.prog.depth 35 = false := by kernel_rfl
theorem gd_Tally : Tryz.prog.eqGuardType Tryz.prog.depth 37 = false := by kernel_rfl
theorem sin_Cell (d : Nat) (x y a b : Int) (w : World) : (Op.equalIn (d + 2) 35 (.agg #[.int .i64 x, .int .i64 y]) (.agg #[.int .i64 a, .int .i64 b])).run Tryz.prog w = .ok (x == a && y == b) w := by
  have u3 := Tryz.underlying3
  have a3 := Tryz.isAgg3
  have z3 := Tryz.sizeOf3
  have hS : Tryz.prog.underlying 35 = some (.struct (Tryz.prog.fieldsOf 35)) := by kernel_rfl
  have hp : Tryz.prog.stoodInHeld 35 = false := by kernel_rfl
  rw [run_equalIn_agg w (d + 1) 35 _ _ hS hp]
  simp only [Program.fieldsOf, Tryz.underlying35]
  go_simp
  by_cases h1 : x = a <;> by_cases h2 : y = b <;> simp [h1, h2]
theorem neq_Cell (x y a b : Int) (w : World) : (binOp .neq 35 (.agg #[.int .i64 x, .int .i64 y]) (.agg #[.int .i64 a, .int .i64 b])).run Tryz.prog w = .ok (.bool (!(x == a && y == b))) w := by
  rw [run_neq_struct, show (10000 : Nat) = 9998 + 2 from rfl, sin_Cell]; rfl
theorem eql_Cell (x y a b : Int) (w : World) : (binOp .eql 35 (.agg #[.int .i64 x, .int .i64 y]) (.agg #[.int .i64 a, .int .i64 b])).run Tryz.prog w = .ok (.bool (x == a && y == b)) w := by
  rw [run_eql_struct, show (10000 : Nat) = 9998 + 2 from rfl, sin_Cell]; rfl
theorem sin_Tally (d : Nat) (x y h m a b c e : Int) (w : World) : (Op.equalIn (d + 3) 37 (.agg #[.int .i64 x, .int .i64 y, .int .i64 h, .int .i64 m]) (.agg #[.int .i64 a, .int .i64 b, .int .i64 c, .int .i64 e])).run Tryz.prog w = .ok ((x == a && y == b) && h == c && m == e) w := by
  have u3 := Tryz.underlying3
  have a3 := Tryz.isAgg3
  have z3 := Tryz.sizeOf3
  have a4 := Tryz.isAgg35
  have z4 := Tryz.sizeOf35
  have hC := fun w => sin_Cell d x y a b w
  have hS : Tryz.prog.underlying 37 = some (.struct (Tryz.prog.fieldsOf 37)) := by kernel_rfl
  have hp : Tryz.prog.stoodInHeld 37 = false := by kernel_rfl
  rw [run_equalIn_agg w (d + 2) 37 _ _ hS hp]
  simp only [Program.fieldsOf, Tryz.underlying37]
  go_simp
  by_cases h1 : x = a <;> by_cases h2 : y = b <;> by_cases h3 : h = c <;> by_cases h4 : m = e <;> simp [h1, h2, h3, h4]
theorem neq_Tally (x y h m a b c e : Int) (w : World) : (binOp .neq 37 (.agg #[.int .i64 x, .int .i64 y, .int .i64 h, .int .i64 m]) (.agg #[.int .i64 a, .int .i64 b, .int .i64 c, .int .i64 e])).run Tryz.prog w = .ok (.bool (!((x == a && y == b) && h == c && m == e))) w := by
  rw [run_neq_struct, show (10000 : Nat) = 9997 + 3 from rfl, sin_Tally]; rfl
end Go.Proofs.YtifkbfidihfghaaGreatDoor
/- How many calls there were: both ways. -/
namespace Go.Proofs.YtifkbfidihfghaaGreatDoor
open Go.RowKit Go.Sort Go.Shelf Go.Maps

attribute [local go_sem ↓] neq_Cell eql_Cell
attribute [local go_sem] gd_Cell

/-- Not more than 400 tallies are not too many cells. -/
def Few (w : World) (e : Ending) (w' : World) : Prop := e = .returned (.bool false) ∧ Nx w w'
set_option maxRecDepth 100000 in
set_option maxHeartbeats 1000000 in
theorem w_manyCells (lo : Nat) (A : Option Addr) (c : Nat) (l : List Tally) (w : World) (hR : Rd w lo A 4 encTally l) (hl : l.length ≤ 400) :
    Calls Tryz.prog 33 #[.slice A l.length c] w (Few w) := by
  generalize hn : l.length = n at *
  have HR := hide hR
  have HN := hide hn
  clear hR hn
  go_enter Tryz.func33, Tryz.ntmps33
  go_wp2
  go_loopw [3, 4, 5, 8] (fun m _ _ i wr => ∃ k j : Nat, k ≤ n ∧ j ≤ k ∧ m = .int .i64 j ∧ i = .int .i64 k ∧ Nx w wr) (fun _ _ _ i _ => n - (intOf i).toNat)
  case atStart => exact ⟨0, 0, Nat.zero_le _, Nat.le_refl _, rfl, rfl, Nx.refl _⟩
  case round =>
    obtain ⟨k, j, hk, hj, rfl, rfl, hbw⟩ := hrel
    by_cases hlt : k < n
    · have hlt' : k < l.length := by have := HN.out; omega
      obtain ⟨b, off, rfl, _, hb, hbr, hc⟩ := HR.out.open_ hbw (by omega)
      have c0 : wr.cell? ⟨b, off + k * 4, none⟩ = some (.int .i64 l[k].x) := hc k hlt' 0 _ rfl
      have c1 : wr.cell? ⟨b, off + k * 4 + 1, none⟩ = some (.int .i64 l[k].y) := hc k hlt' 1 _ rfl
      have c2 : wr.cell? ⟨b, off + k * 4 + 2, none⟩ = some (.int .i64 l[k].hour) := hc k hlt' 2 _ rfl
      have c3 : wr.cell? ⟨b, off + k * 4 + 3, none⟩ = some (.int .i64 l[k].many) := hc k hlt' 3 _ rfl
      by_cases hk0 : 0 < k
      · have c4 : wr.cell? ⟨b, off + (k - 1) * 4, none⟩ = some (.int .i64 (l[k - 1]'(by omega)).x) := hc (k - 1) (by omega) 0 _ rfl
        have c5 : wr.cell? ⟨b, off + (k - 1) * 4 + 1, none⟩ = some (.int .i64 (l[k - 1]'(by omega)).y) := hc (k - 1) (by omega) 1 _ rfl
        generalize (l[k - 1]'(by omega)).x = p0 at *
        generalize (l[k - 1]'(by omega)).y = p1 at *
        clear hc
        have q0 : ((k : Int) == 0) = false := by simp; omega
        have q1 : IntKind.i64.wrap ((k : Int) - 1) = (k : Int) - 1 := IntWalk.i64_in _ (by omega)
        have q2 : (1 : Int) ≤ (k : Int) := by omega
        have q3 : ((k : Int) - 1).toNat = k - 1 := by omega
        have q4 : (k : Int) - 1 < (n : Int) := by omega
        go_wp2_with fail
        go_quiet (fail)
        go_wp2
        all_goals go_roundw
        all_goals first
          | (case rel => exact ⟨k + 1, j, by omega, by omega, rfl, by go_num, (hbw.alloc _).drewN _⟩)
          | (case rel => exact ⟨k + 1, j + 1, by omega, by omega, by go_num, by go_num, (hbw.alloc _).drewN _⟩)
          | (case measure => simp [intOf]; omega)
      · have q0 : ((k : Int) == 0) = true := by simp; omega
        clear hc
        go_wp2_with fail
        go_quiet (fail)
        go_wp2
        go_roundw
        case rel => exact ⟨k + 1, j + 1, by omega, by omega, by go_num, by go_num, (hbw.alloc _).drewN _⟩
        case measure => simp [intOf]; omega
    · go_wp2
      go_ret
      exact ⟨ret_bool (by simp; omega), hbw⟩

end Go.Proofs.YtifkbfidihfghaaGreatDoor
/- slices.Equal over tallies. -/
namespace Go.Proofs.YtifkbfidihfghaaGreatDoor
open Go.RowKit Go.Sort Go.Shelf Go.Maps
attribute [local go_sem ↓] neq_Cell eql_Cell neq_Tally
attribute [local go_sem] gd_Cell gd_Tally

set_option maxRecDepth 100000 in
set_option maxHeartbeats 1000000 in
theorem w_EqualT (lo lo' : Nat) (A B : Option Addr) (c d : Nat) (l : List Tally) (w : World) (hA : Rd w lo A 4 encTally l) (hB : Rd w lo' B 4 encTally l) (hl : l.length ≤ 65536) :
    Calls Tryz.prog 7 #[.slice A l.length c, .slice B l.length d] w fun e w' => e = .returned (.bool true) ∧ Nx w w' := by
  generalize hn : l.length = n at *
  have HA := hide hA
  have HB := hide hB
  have HN := hide hn
  clear hA hB hn
  go_enter Tryz.func7, Tryz.ntmps7
  go_wp2
  go_loopw [5, 13] (fun _ i wr => ∃ k : Nat, k ≤ n ∧ i = .int .i64 k ∧ Nx w wr) (fun _ i _ => n - (intOf i).toNat)
  case atStart => exact ⟨0, Nat.zero_le _, rfl, Nx.refl _⟩
  case round =>
    obtain ⟨k, hk, rfl, hbw⟩ := hrel
    by_cases hlt : k < n
    · have hlt' : k < l.length := by have := HN.out; omega
      obtain ⟨b, off, rfl, _, hb, hbr, hc⟩ := HA.out.open_ hbw (by omega)
      obtain ⟨b', off', rfl, _, hb', hbr', hc'⟩ := HB.out.open_ hbw (by omega)
      have c0 : wr.cell? ⟨b, off + k * 4, none⟩ = some (.int .i64 l[k].x) := hc k hlt' 0 _ rfl
      have c1 : wr.cell? ⟨b, off + k * 4 + 1, none⟩ = some (.int .i64 l[k].y) := hc k hlt' 1 _ rfl
      have c2 : wr.cell? ⟨b, off + k * 4 + 2, none⟩ = some (.int .i64 l[k].hour) := hc k hlt' 2 _ rfl
      have c3 : wr.cell? ⟨b, off + k * 4 + 3, none⟩ = some (.int .i64 l[k].many) := hc k hlt' 3 _ rfl
      have d0 : wr.cell? ⟨b', off' + k * 4, none⟩ = some (.int .i64 l[k].x) := hc' k hlt' 0 _ rfl
      have d1 : wr.cell? ⟨b', off' + k * 4 + 1, none⟩ = some (.int .i64 l[k].y) := hc' k hlt' 1 _ rfl
      have d2 : wr.cell? ⟨b', off' + k * 4 + 2, none⟩ = some (.int .i64 l[k].hour) := hc' k hlt' 2 _ rfl
      have d3 : wr.cell? ⟨b', off' + k * 4 + 3, none⟩ = some (.int .i64 l[k].many) := hc' k hlt' 3 _ rfl
      clear hc hc'
      have q1 : (0 : Int) ≤ (k : Int) := by omega
      have q2 : (k : Int) < (n : Int) := by omega
      go_wp2_with fail
      go_quiet (fail)
      go_wp2
      go_roundw
      case rel => exact ⟨k + 1, by omega, by go_num, hbw.drewN _⟩
      case measure => simp [intOf]; omega
    · go_wp2
      go_ret
      exact ⟨rfl, hbw⟩

end Go.Proofs.YtifkbfidihfghaaGreatDoor
/- The stream's methods that pick a number. -/
namespace Go.Proofs.YtifkbfidihfghaaGreatDoor
open Go.RowKit

/-- A number of some list. -/
def StrIn (zs : List Int) (s k : Nat) (w : World) (e : Ending) (w' : World) : Prop := ∃ r ∈ zs, e = .returned (.int .i64 r) ∧ Gr s w w' ∧ Str w' s k
/-- 's.Pick(..)' of numbers that lie in a block of their own. -/
theorem w_PickI (g : Nat) (zs : List Int) (cs : Array Value) (s k : Nat) (w : World) (hS : Str w s k) (hk : k < 1000000) (hg : w.heap[g]? = some (.cells cs 3 (0, 0))) (hne : g ≠ s) (hcs : cs.toList = zs.map (Value.int .i64)) (h0 : zs ≠ []) (h1 : zs.length < 1000) :
    Calls Tryz.prog 11 #[.pointer (some ⟨s, 0, none⟩), .slice (some ⟨g, 0, none⟩) zs.length zs.length] w (StrIn zs s (k + 1) w) := by
  refine (w_Pick g zs.length cs s k w hS hk hg hne (by rw [← Array.length_toList, hcs, List.length_map]) (List.length_pos_iff.2 h0) h1).mono ?_
  rintro e w' ⟨v, hv, rfl, hg, hs⟩
  rw [hcs] at hv
  obtain ⟨z, hz, rfl⟩ := List.mem_map.1 hv
  exact ⟨z, hz, rfl, hg, hs⟩

end Go.Proofs.YtifkbfidihfghaaGreatDoor
