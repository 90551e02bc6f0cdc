/- strings.Split; base.Words, base.Lines, base.Each. -/
import Derived.Test.YthlhomcgjgfdhaaGreatDoorQNumW
import Derived.Test.YthlhomcgjgfdhaaGreatDoorQG3
import Derived.Deep.DeepCutAuto
import Derived.Test.YthlhomcgjgfdhaaGreatDoorQG0
import Derived.StillTailTactics
import Derived.Sort.Grow
import Derived.Deep.RegionHeld3
import Derived.Maps.Own
import Derived.Maps.OwnOps
import Derived.Maps.Views
import Derived.Maps.RangeWalk
import Derived.WideKeyEntry
import Derived.Maps.Keyed
import Derived.DeepKeys4
import Derived.KernelRfl
import Derived.Shelf.SlSortCmp.NoneTotal
import Derived.Shelf.Spec.SlicesGrow
import Derived.Shelf.SlGeneric
import Derived.Shelf.Lay
import Derived.Ground.SlsfProg
import Derived.Ground.Names8Prog
import Derived.Laws.StructEq
import Derived.Maps.OwnSet
import Derived.Test.YthlhomcgjgfdhaaGreatDoorQShelfT
import Derived.Test.YthlhomcgjgfdhaaGreatDoorQStr
import Derived.Laws.AppendOwn
import Derived.Test.YthlhomcgjgfdhaaGreatDoorQDivB
import Derived.Laws.OwnMore
import Derived.Below
import Derived.Lib.Bytealg
import Derived.Sort.LotA
import Derived.Shelf.SlSortCmp.Insertion
namespace Go.Proofs.YthlhomcgjgfdhaaGreatDoor
open Go.RowKit

/-- internal/bytealg.MaxLen holds some int. -/
def MaxI (w : World) : Prop := ∃ m : Int, w.cell? ⟨Tryz.splitStr_ren.g 1, 0, none⟩ = some (.int .i64 m)
theorem MaxI.nx {w w' : World} (h : MaxI w) (hn : Nx w w') : MaxI w' := by
  obtain ⟨m, hm⟩ := h
  exact ⟨m, nx_cell hn (World.block_lt_of_cell? _ _ hm) hm⟩
theorem MaxI.gr {s : Nat} {w w' : World} (h : MaxI w) (hn : Gr s w w') (hs : w.heap.size ≤ s) : MaxI w' := h.nx (Nx.of_gr hn hs)
def dataL (l : List ByteArray) : List (List UInt8) := l.map (fun s => s.data.toList)
theorem dataL_len (l : List ByteArray) : (dataL l).length = l.length := by simp [dataL]
theorem piece_le (c : UInt8) : ∀ (ws : List (List UInt8)), ∀ w ∈ ws, w.length ≤ (joinC c ws).length
  | [], w, h => by cases h
  | [v], w, h => by rw [List.mem_singleton.1 h]; exact Nat.le_refl _
  | v :: u :: ws, w, h => by
    show w.length ≤ (v ++ c :: joinC c (u :: ws)).length
    rw [List.length_append, List.length_cons]
    rcases List.mem_cons.1 h with rfl | h
    · omega
    · have := piece_le c (u :: ws) w h
      omega
theorem split_count (c : UInt8) : ∀ (n : Nat) (s : List UInt8), s.length ≤ n → (Lib.split s [c]).length ≤ s.length + 1 := by
  intro n
  induction n with
  | zero =>
    intro s hs
    have : s = [] := List.eq_nil_of_length_eq_zero (by omega)
    subst this
    rw [split_no (by simp)]; simp
  | succ n ih =>
    intro s hs
    by_cases h : c ∈ s
    · obtain ⟨a, r, rfl, ha⟩ := List.eq_append_cons_of_mem h
      rw [split_at ha]
      have := ih r (by simp at hs; omega)
      simp; omega
    · rw [split_no h]; simp
theorem w_Split (s : ByteArray) (c : UInt8) (hs : s.size ≤ 1000000) (w : World) (hM : MaxI w) :
    Calls Tryz.prog 70 #[.string s, .string ⟨#[c]⟩] w fun e w' => ∃ (ws : List ByteArray) (B : Option Addr), dataL ws = Lib.split s.data.toList [c] ∧ e = .returned (.slice B ws.length ws.length) ∧ Rd w' w.heap.size B 1 encS ws ∧ ws.length ≤ s.size + 1 ∧ (∀ x ∈ ws, x.size ≤ s.size) ∧ Nx w w' := by
  obtain ⟨m, hm⟩ := hM
  have hcon := Any.strings_Split Tryz.splitStr (by kernel_rfl) s ⟨#[c]⟩ m w (by omega) hm (Nat.le_refl 1)
  change Calls Tryz.prog 70 _ _ _ at hcon
  refine hcon.mono ?_
  rintro e w' ⟨rfl, rfl⟩
  obtain ⟨ws, hws⟩ : ∃ ws, ws = Lib.splitB ⟨#[c]⟩ 0 (Lib.countB s ⟨#[c]⟩) s := ⟨_, rfl⟩
  have hd : dataL ws = Lib.split s.data.toList [c] := by
    rw [hws]
    unfold dataL
    rw [Lib.splitB_data]
    rfl
  have hl : ws.length = Lib.countB s ⟨#[c]⟩ + 1 := by rw [hws]; exact Lib.splitB_all ⟨#[c]⟩ (Nat.le_refl 1) 0 _ s rfl
  have hle : ws.length ≤ s.size + 1 := by
    rw [← dataL_len, hd, ← len_data s]; exact split_count c _ _ (Nat.le_refl _)
  rw [← hws, ← hl]
  refine ⟨ws, _, hd, rfl, ?_, hle, fun x hx => ?_, (Nx.refl w).alloc _⟩
  · refine Rd.lit (hnew rfl) (Nat.le_refl _) (fun _ => rfl) ?_
    have e : ∀ l : List ByteArray, l.map Value.string = l.flatMap encS := fun l => by
      induction l with
      | nil => rfl
      | cons x l ih => rw [List.map_cons, List.flatMap_cons, ih]; rfl
    simpa using e ws
  · have h1 := (join_split c _ s.data.toList (Nat.le_refl _)).1
    have h2 := piece_le c (Lib.split s.data.toList [c]) x.data.toList (by rw [← hd]; exact List.mem_map.2 ⟨x, hx, rfl⟩)
    rw [h1, len_data, len_data] at h2
    exact h2

/-- base.Words of a string. -/
def WordsR (many : Nat) (s : ByteArray) (w : World) (e : Ending) (w' : World) : Prop :=
  ((wordsL many s.data.toList = none ∧ e = .returned (.tuple #[.slice none 0 0, .bool false])) ∨ ∃ (ws : List ByteArray) (B : Option Addr), wordsL many s.data.toList = some (dataL ws) ∧ ws.length = many ∧ e = .returned (.tuple #[.slice B many many, .bool true]) ∧ Rd w' w.heap.size B 1 encS ws ∧ (∀ x ∈ ws, x.size ≤ s.size)) ∧ Nx w w'
set_option maxRecDepth 100000 in
set_option maxHeartbeats 2000000 in
theorem w_Words (s : ByteArray) (many : Nat) (hm : many ≤ 1000) (hs : s.size ≤ 1000000) (w : World) (hM : MaxI w) :
    Calls Tryz.prog 65 #[.string s, .int .i64 (many : Int)] w (WordsR many s w) := by
  have HSP := hide (w_Split s 32 hs w hM)
  clear hM
  go_enter Tryz.func65, Tryz.ntmps65
  go_upto_region 2 with (go_at_call 70; refine HSP.out.mono ?_; rintro e w1 ⟨ws, B, hd, rfl, hR, hle, hsz, hn1⟩)
  have HD := hide (show wordsL many s.data.toList = if ws.length = many ∧ [] ∉ dataL ws then some (dataL ws) else none by
    unfold wordsL
    simp only [← hd, dataL_len])
  obtain ⟨n, hn⟩ : ∃ n, n = ws.length := ⟨_, rfl⟩
  rw [← hn] at hle HD ⊢
  have HN := hide hn
  have HR := hide hR
  have HN1 := hide hn1
  have HSZ := hide hsz
  clear hd hR hn1 hn hsz HSP
  by_cases hnm : n = many
  · have t1 : ((n : Int) != (many : Int)) = false := by rw [hnm]; simp
    have HNM := hide hnm
    have hn6 : n ≤ 1000 := by omega
    clear hnm
    go_upto_region 5 with fail
    go_loopw [8, 17] (fun _ i wr => ∃ j : Nat, j ≤ n ∧ i = .int .i64 j ∧ (∀ x ∈ ws.take j, x.data.toList ≠ []) ∧ w1 = wr) (fun _ i _ => n - (intOf i).toNat)
    case atStart => exact ⟨0, Nat.zero_le _, rfl, by simp, rfl⟩
    case round =>
      obtain ⟨j, hj, rfl, hq, rfl⟩ := hrel
      have HQ := hide hq
      clear hq
      by_cases hlt : j < n
      · have hjl : j < ws.length := by have := HN.out; omega
        obtain ⟨b, off, rfl, _, hb, hbr, hc⟩ := HR.out.open_ (Nx.refl w1) (by omega)
        have c0 : w1.cell? ⟨b, off + j, none⟩ = some (.string ws[j]) := by have h := hc j hjl 0 _ rfl; simpa using h
        have HTK := hide (show ws.take (j + 1) = ws.take j ++ [ws[j]] from List.take_succ_eq_append_getElem hjl)
        have HME := hide (show ws[j] ∈ ws from List.getElem_mem hjl)
        generalize ws[j] = x at *
        have i1 : (0 : Int) ≤ (j : Int) := by omega
        have i2 : (j : Int) < (n : Int) := by omega
        clear hc
        by_cases hx : x.data.toList = []
        · have te : x.toList = [] := by rw [Lib.toList_data]; exact hx
          have teb : x.toList.isEmpty = true := by rw [te]; rfl
          have HF := hide (show wordsL many s.data.toList = none by
            rw [HD.out, if_neg]
            rintro ⟨_, h⟩
            exact h (hx ▸ List.mem_map.2 ⟨x, HME.out, rfl⟩))
          clear hx
          go_wp2_with fail
          go_ret2
          exact ⟨.inl ⟨HF.out, rfl⟩, HN1.out⟩
        · have te : ¬ x.toList = [] := by rw [Lib.toList_data]; exact hx
          have teb : x.toList.isEmpty = false := by
            cases h : x.toList with
            | nil => exact absurd h te
            | cons _ _ => rfl
          have HX := hide hx
          clear hx
          go_wp2_with fail
          go_roundw
          case rel => exact ⟨j + 1, by omega, by go_num, (fun y hy => by
            rw [HTK.out] at hy
            rcases List.mem_append.1 hy with hy | hy
            · exact HQ.out y hy
            · rw [List.mem_singleton.1 hy]; exact HX.out), trivial⟩
          case measure => simp [intOf]; omega
      · have HF := hide (show wordsL many s.data.toList = some (dataL ws) by
          rw [HD.out, if_pos]
          refine ⟨HNM.out, fun h => ?_⟩
          obtain ⟨x, hx, he⟩ := List.mem_map.1 h
          refine HQ.out x ?_ he
          rw [List.take_of_length_le (by have := HN.out; omega)]; exact hx)
        go_wp2_with fail
        go_ret2
        exact ⟨.inr ⟨ws, B, HF.out, by have := HN.out; have := HNM.out; omega, by rw [← HNM.out]; rfl, HR.out, HSZ.out⟩, HN1.out⟩
  · have t1 : ((n : Int) != (many : Int)) = true := by simp; omega
    have HF := hide (show wordsL many s.data.toList = none by rw [HD.out, if_neg (fun h => hnm h.1)])
    clear hnm
    go_wp2_with fail
    go_ret2
    exact ⟨.inl ⟨HF.out, rfl⟩, HN1.out⟩
end Go.Proofs.YthlhomcgjgfdhaaGreatDoor
/- Plain functions: tallies checked and summed. -/
namespace Go.Proofs.YthlhomcgjgfdhaaGreatDoor

def maxCents : Int := 1000000000
def tallyV (t : Tally) : Bool := isPtB t.x t.y && !outB t.hour 0 167 && !outB t.many 1 maxCents
def tallyF (p : Option Tally) (t : Tally) : Int :=
  if tallyV t then (match p with | some q => if tallyC t q ≤ 0 then 7 else 0 | none => 0) else 1
/-- demand.CheckTallies of at most 400. -/
def talliesF (l : List Tally) : Int := chk tallyF none l
theorem tallyC_sym {a b : Tally} : tallyC a b ≤ 0 ↔ 0 ≤ tallyC b a := by
  have h1 := @tallyC_neg a b
  have h2 := @tallyC_neg b a
  have h3 := @tallyC_zero a b
  have h4 := @tallyC_zero b a
  have e1 : keyT a = keyT b ↔ keyT b = keyT a := ⟨Eq.symm, Eq.symm⟩
  simp only [keyT, Spot.mk.injEq] at h3 h4
  omega
def okTally (t : Tally) : Prop := ((-10000 ≤ t.x ∧ t.x ≤ 10000) ∧ (-10000 ≤ t.y ∧ t.y ≤ 10000)) ∧ (0 ≤ t.hour ∧ t.hour ≤ 167) ∧ (1 ≤ t.many ∧ t.many ≤ 1000000000)
theorem tallyV_ok {t : Tally} (h : tallyV t = true) : okTally t := by
  unfold tallyV maxCents at h
  simp only [Bool.and_eq_true, Bool.not_eq_true', outB_false, isPtB_true] at h
  exact ⟨h.1.1, h.1.2, h.2⟩
theorem chkT_ok : ∀ (l : List Tally) (p : Option Tally), chk tallyF p l = 0 → (∀ c ∈ l, okTally c) ∧ l.Pairwise (fun a b => tallyC a b < 0) ∧ ∀ q, p = some q → ∀ c ∈ l, tallyC q c < 0
  | [], _, _ => ⟨by simp, List.Pairwise.nil, by simp⟩
  | d :: l, p, h => by
    unfold chk at h
    split at h
    · rename_i h0
      have ih := chkT_ok l _ h
      unfold tallyF at h0
      cases h1 : tallyV d
      · rw [h1] at h0; simp at h0
      · rw [h1] at h0
        have hpd : ∀ q, p = some q → tallyC q d < 0 := fun q hq => by
          subst hq
          simp at h0
          have e1 := @tallyC_neg q d
          have e2 := @tallyC_neg d q
          have e3 := @tallyC_zero d q
          simp only [keyT, Spot.mk.injEq] at e3
          omega
        refine ⟨fun c hc => ?_, List.pairwise_cons.2 ⟨fun c hc => ih.2.2 d rfl c hc, ih.2.1⟩, fun q hq c hc => ?_⟩
        · rcases List.mem_cons.1 hc with rfl | hc
          · exact tallyV_ok h1
          · exact ih.1 c hc
        · rcases List.mem_cons.1 hc with rfl | hc
          · exact hpd q hq
          · have a1 := (tallyC_neg).1 (hpd q hq)
            have a2 := (tallyC_neg).1 (ih.2.2 d rfl c hc)
            exact tallyC_neg.2 (by omega)
    · exact absurd h (by assumption)
theorem talliesF_ok {l : List Tally} (h : talliesF l = 0) : (∀ c ∈ l, okTally c) ∧ l.Pairwise (fun a b => tallyC a b < 0) := ⟨(chkT_ok l none h).1, (chkT_ok l none h).2.1⟩

end Go.Proofs.YthlhomcgjgfdhaaGreatDoor
/- Plain: tallies as text. -/
namespace Go.Proofs.YthlhomcgjgfdhaaGreatDoor
open Go.Lib

theorem digit_not {c : UInt8} {d : Nat} (h : digitVal c = some d) : c ≠ 10 ∧ c ≠ 32 ∧ c ≠ 45 := by
  have h1 := digitVal_eq h
  refine ⟨?_, ?_, ?_⟩ <;> (rintro rfl; simp at h1)
theorem dec_mem : ∀ {l : List UInt8} {acc m : Nat}, decFrom acc l = some m → ∀ c ∈ l, ∃ d, digitVal c = some d
  | [], _, _, _, c, hc => by cases hc
  | b :: l, acc, m, h, c, hc => by
    simp only [decFrom] at h
    cases hb : digitVal b with
    | none => rw [hb] at h; cases h
    | some d =>
      rw [hb] at h
      rcases List.mem_cons.1 hc with rfl | hc
      · exact ⟨d, hb⟩
      · exact dec_mem h c hc
theorem itoa_ok (n : Int) : 10 ∉ itoa n ∧ 32 ∉ itoa n ∧ itoa n ≠ [] := by
  have key : ∀ u : Nat, 10 ∉ decDigits u ∧ 32 ∉ decDigits u := fun u => by
    have h := dec_digits u
    refine ⟨fun hc => ?_, fun hc => ?_⟩
    · obtain ⟨d, hd⟩ := dec_mem h _ hc; exact (digit_not hd).1 rfl
    · obtain ⟨d, hd⟩ := dec_mem h _ hc; exact (digit_not hd).2.1 rfl
  unfold itoa
  by_cases hn : n < 0
  · rw [if_pos hn]
    refine ⟨fun hc => ?_, fun hc => ?_, by simp⟩
    · rcases List.mem_cons.1 hc with h | h
      · exact absurd h (by decide)
      · exact (key _).1 h
    · rcases List.mem_cons.1 hc with h | h
      · exact absurd h (by decide)
      · exact (key _).2 h
  · rw [if_neg hn]
    exact ⟨(key _).1, (key _).2, decDigits_ne _⟩
def tallyW (t : Tally) : List Int := [t.x, t.y, t.hour, t.many]
def tallyLine (t : Tally) : List UInt8 := joinC 32 ((tallyW t).map itoa)
def tallyText (L : List Tally) : List UInt8 := textL (L.map tallyLine)
/-- A line that is read. -/
def readT (s : List UInt8) : Option Tally := match wordsL 4 s with
  | some ws => match numsL 10 ws with
    | some [a, b, c, d] => some ⟨a, b, c, d⟩
    | _ => none
  | none => none
def Digs (t : Tally) : Prop := ∀ n ∈ tallyW t, nDigits n.natAbs ≤ 10
theorem readT_line {t : Tally} (h : Digs t) : readT (tallyLine t) = some t := by
  unfold readT tallyLine
  have h1 : wordsL 4 (joinC 32 ((tallyW t).map itoa)) = some ((tallyW t).map itoa) := wordsL_join (ws := (tallyW t).map itoa) (by simp [tallyW]) (fun w hw => by
    obtain ⟨n, _, rfl⟩ := List.mem_map.1 hw
    exact ⟨(itoa_ok n).2.1, (itoa_ok n).2.2⟩)
  rw [h1]
  simp only [numsL_itoa _ h]
  rfl
theorem readT_inv {s : List UInt8} {t : Tally} (h : readT s = some t) : tallyLine t = s ∧ Digs t := by
  unfold readT at h
  cases h1 : wordsL 4 s with
  | none => rw [h1] at h; cases h
  | some ws =>
    rw [h1] at h
    simp only at h
    cases h2 : numsL 10 ws with
    | none => rw [h2] at h; cases h
    | some ns =>
      rw [h2] at h
      obtain ⟨w1, w2⟩ := wordsL_inv h1
      obtain ⟨n1, n2⟩ := numsL_inv h2
      have hl : ns.length = 4 := by rw [← w2, ← n1, List.length_map]
      match ns, hl with
      | [a, b, c, d], _ =>
        simp only [Option.some.injEq] at h
        subst h
        refine ⟨?_, n2⟩
        unfold tallyLine tallyW
        rw [n1]; exact w1
theorem small_digits {n : Int} (h : -1000000000 ≤ n ∧ n ≤ 1000000000) : nDigits n.natAbs ≤ 10 := by
  rcases Nat.lt_or_ge 10 (nDigits n.natAbs) with h1 | h1
  · exfalso
    obtain ⟨k, hk⟩ : ∃ k, nDigits n.natAbs = k + 1 := ⟨nDigits n.natAbs - 1, by omega⟩
    have h2 : 10 ^ 10 ≤ n.natAbs := by
      have h3 : ∀ (k u : Nat), nDigits u = k + 1 → 10 ^ k ≤ u ∨ k = 0 := by
        intro k
        induction k with
        | zero => intro u _; exact .inr rfl
        | succ k ih =>
          intro u hu
          by_cases h : u < 10
          · rw [nDigits_small h] at hu; omega
          · rw [nDigits_big h] at hu
            left
            rcases ih (u / 10) (by omega) with h4 | h4
            · rw [Nat.pow_succ]; omega
            · subst h4; omega
      rcases h3 k _ hk with h4 | h4
      · exact Nat.le_trans (Nat.pow_le_pow_right (by decide) (by omega)) h4
      · omega
    omega
  · exact h1
theorem chkT_all {α : Type} {f : Option α → α → Int} : ∀ {q : Option α} {l : List α}, chk f q l = 0 → ∀ x ∈ l, ∃ q', f q' x = 0
  | _, [], _, x, hx => by cases hx
  | q, y :: l, h, x, hx => by
    unfold chk at h
    split at h
    · rename_i h0
      rcases List.mem_cons.1 hx with rfl | hx
      · exact ⟨q, h0⟩
      · exact chkT_all h x hx
    · rename_i h0; exact absurd h h0
/-- Each line is as long as seven signs. -/
theorem text_len (L : List Tally) : 8 * L.length ≤ (tallyText L).length := by
  induction L with
  | nil => simp
  | cons t L ih =>
    have e : tallyText (t :: L) = (tallyLine t ++ [10]) ++ tallyText L := rfl
    have h1 : tallyLine t = itoa t.x ++ 32 :: (itoa t.y ++ 32 :: (itoa t.hour ++ 32 :: itoa t.many)) := rfl
    have p : ∀ n : Int, 1 ≤ (itoa n).length := fun n => by
      have := (itoa_ok n).2.2
      cases h : itoa n with
      | nil => exact absurd h this
      | cons _ _ => simp
    have := p t.x; have := p t.y; have := p t.hour; have := p t.many
    rw [e, h1]
    simp only [List.length_append, List.length_cons, List.length_nil]
    omega
theorem line_inj {L M : List Tally} (hL : ∀ t ∈ L, Digs t) (hM : ∀ t ∈ M, Digs t) (h : L.map tallyLine = M.map tallyLine) : L = M := by
  have key : ∀ K : List Tally, (∀ t ∈ K, Digs t) → (K.map tallyLine).map readT = K.map some := fun K hK => by
    rw [List.map_map]
    exact List.map_congr_left (fun t ht => readT_line (hK t ht))
  have h1 := key L hL
  rw [h, key M hM] at h1
  exact (List.map_inj_right (fun a b h => Option.some.inj h)).1 h1.symm
end Go.Proofs.YthlhomcgjgfdhaaGreatDoor
/- cmp.Compare of numbers. -/
namespace Go.Proofs.YthlhomcgjgfdhaaGreatDoor
open Go.RowKit

theorem w_isNaN (a : Int) (w : World) : Calls Tryz.prog 86 #[.int .i64 a] w fun e w' => e = .returned (.bool false) ∧ w = w' := by
  go_enter Tryz.func86, Tryz.ntmps86
  go_wp2
  go_ret
  exact ⟨rfl, rfl⟩

theorem w_Compare (a b : Int) (w : World) : Calls Tryz.prog 46 #[.int .i64 a, .int .i64 b] w fun e w' => e = .returned (.int .i64 (cmpI a b)) ∧ w = w' := by
  by_cases h1 : a < b
  · go_enter Tryz.func46, Tryz.ntmps46
    go_wp2_with (go_at_call 86; refine (w_isNaN _ _).mono ?_; rintro e w' ⟨rfl, rfl⟩)
    go_ret
    exact ⟨ret_int (by unfold cmpI; simp [h1]), rfl⟩
  · by_cases h2 : b < a
    · go_enter Tryz.func46, Tryz.ntmps46
      go_wp2_with (go_at_call 86; refine (w_isNaN _ _).mono ?_; rintro e w' ⟨rfl, rfl⟩)
      go_ret
      exact ⟨ret_int (by unfold cmpI; simp [h1, h2]), rfl⟩
    · go_enter Tryz.func46, Tryz.ntmps46
      go_wp2_with (go_at_call 86; refine (w_isNaN _ _).mono ?_; rintro e w' ⟨rfl, rfl⟩)
      go_ret
      exact ⟨ret_int (by unfold cmpI; rw [if_neg (by omega), if_neg (by omega)]), rfl⟩

end Go.Proofs.YthlhomcgjgfdhaaGreatDoor
/- Rounding down: the program's and the reference's. -/
namespace Go.Proofs.YthlhomcgjgfdhaaGreatDoor
open Go.RowKit

theorem w_Down (a b : Int) (w : World) (hb : 1 ≤ b ∧ b ≤ 4611686018427387904) (ha : -4611686018427387904 ≤ a ∧ a ≤ 4611686018427387904) :
    Calls Tryz.prog 103 #[.int .i64 a, .int .i64 b] w fun e w' => e = .returned (.int .i64 (a / b)) ∧ w = w' := by
  have q1 := tdiv_bd a b hb.1
  have q2 : -4611686018427387904 ≤ a.tdiv b ∧ a.tdiv b ≤ 4611686018427387904 := by split at q1 <;> omega
  clear q1
  have b1 : a.tmod b < b := Int.tmod_lt_of_pos a (by omega)
  have b2 : -b < a.tmod b := by have := Int.lt_tmod_of_pos a (b := b) (by omega); omega
  by_cases h : a.tmod b < 0
  · go_enter Tryz.func103, Tryz.ntmps103
    go_wp2
    go_ret
    exact ⟨ret_int (floor_neg a b hb.1 h), rfl⟩
  · go_enter Tryz.func103, Tryz.ntmps103
    go_wp2
    go_ret
    exact ⟨ret_int (floor_pos a b hb.1 (by omega)), rfl⟩

end Go.Proofs.YthlhomcgjgfdhaaGreatDoor
/- The walks of the smallest functions of numbers. -/
namespace Go.Proofs.YthlhomcgjgfdhaaGreatDoor
open Go.RowKit

theorem w_isPoint (x y : Int) (w : World) : Calls Tryz.prog 87 #[.int .i64 x, .int .i64 y] w fun e w' => e = .returned (.bool (isPtB x y)) ∧ w = w' := by
  go_enter Tryz.func87, Tryz.ntmps87
  cases h1 : outB x (-10000) 10000 <;> cases h2 : outB y (-10000) 10000
  all_goals
    go_wp2_with (go_at_call 49; refine (w_Out _ _ _ _).mono ?_; rintro e w' ⟨rfl, rfl⟩)
    go_ret
    exact ⟨ret_bool (by unfold isPtB; simp [h1, h2]), rfl⟩

theorem w_PointFault (x y : Int) (w : World) : Calls Tryz.prog 42 #[.int .i64 x, .int .i64 y] w fun e w' => e = .returned (.int .i64 (ptF x y)) ∧ w = w' := by
  have e1 := inB_out x (-10000) 10000
  have e2 := inB_out y (-10000) 10000
  go_enter Tryz.func42, Tryz.ntmps42
  cases h1 : outB x (-10000) 10000 <;> cases h2 : outB y (-10000) 10000
  all_goals
    rw [h1] at e1; rw [h2] at e2
    go_wp2_with (go_at_call 43; refine (w_in _ _ _ _).mono ?_; rintro e w' ⟨rfl, rfl⟩)
    go_ret
    exact ⟨ret_int (by unfold ptF isPtB; simp [h1, h2, argF]), rfl⟩

end Go.Proofs.YthlhomcgjgfdhaaGreatDoor
/- Structs by value, small loops over lists. -/
namespace Go.Proofs.YthlhomcgjgfdhaaGreatDoor
open Go.RowKit

def encCell (c : Cell) : List Value := [.int .i64 c.x, .int .i64 c.y]
def encTally (c : Tally) : List Value := [.int .i64 c.x, .int .i64 c.y, .int .i64 c.hour, .int .i64 c.many]

set_option maxHeartbeats 400000 in
theorem w_OrQ (lo : Nat) (A : Option Addr) (c : Nat) (zs : List Int) (w : World) (hR : Rd w lo A 1 encI zs) (hl : zs.length ≤ 65536) :
    Calls Tryz.prog 44 #[.slice A zs.length c] w fun e w' => e = .returned (.int .i64 (orI zs)) ∧ w = w' := by
  generalize hn : zs.length = n at *
  have HR := hide hR
  have HN := hide hn
  clear hR hn
  go_enter Tryz.func44, Tryz.ntmps44
  go_wp2
  go_loop [2, 5, 8] (fun _ _ i => ∃ k : Nat, k ≤ n ∧ i = .int .i64 k ∧ orI zs = orI (zs.drop k)) (fun _ _ i => n - (intOf i).toNat)
  case atStart => exact ⟨0, Nat.zero_le _, rfl, rfl⟩
  case round =>
    obtain ⟨k, hk, rfl, hq⟩ := hrel
    have HQ := hide hq
    clear hq
    by_cases hlt : k < n
    · have hlt' : k < zs.length := by have := HN.out; omega
      obtain ⟨b, off, rfl, _, hb, _, hc⟩ := HR.out.open_ (Nx.refl w) (by omega)
      have c0 : w.cell? ⟨b, off + k, none⟩ = some (.int .i64 zs[k]) := by have := hc k hlt' 0 _ rfl; simpa using this
      clear hc
      have HD := hide (orI_drop zs k hlt')
      by_cases hz : zs[k] = 0
      · have hz' : (zs[k] != 0) = false := by simpa using hz
        generalize zs[k] = z at *
        go_wp2
        go_round
        case rel => exact ⟨k + 1, by omega, by go_num, by rw [HQ.out, HD.out, if_pos hz]⟩
        case measure => simp [intOf]; omega
      · have hz' : (zs[k] != 0) = true := by simpa using hz
        generalize zs[k] = z at *
        go_wp2
        go_ret
        exact ⟨ret_int (by rw [HQ.out, HD.out, if_neg hz]), rfl⟩
    · go_wp2
      go_ret
      exact ⟨ret_int (by rw [HQ.out, List.drop_of_length_le (by have := HN.out; omega)]; rfl), rfl⟩


end Go.Proofs.YthlhomcgjgfdhaaGreatDoor
/- The comparisons. -/
namespace Go.Proofs.YthlhomcgjgfdhaaGreatDoor
open Go.RowKit Go.Sort

set_option maxHeartbeats 1000000 in
theorem w_OrI2 (a b : Int) (g c : Nat) (w : World) (hg : w.heap[g]? = some (.cells #[.int .i64 a, .int .i64 b] 3 (0, 0))) :
    Calls Tryz.prog 44 #[.slice (some ⟨g, 0, none⟩) 2 c] w fun e w' => e = .returned (.int .i64 (orI [a, b])) ∧ w = w' := by
  have hR : Rd w 0 (some ⟨g, 0, none⟩) 1 encI [a, b] := Rd.lit hg (Nat.zero_le _) (fun _ => rfl) rfl
  exact w_OrQ 0 _ c [a, b] w hR (by simp)

set_option maxRecDepth 100000 in
set_option maxHeartbeats 1000000 in
theorem w_byCell (a b : Cell) (w : World) :
    Calls Tryz.prog 122 #[.agg #[.int .i64 a.x, .int .i64 a.y], .agg #[.int .i64 b.x, .int .i64 b.y]] w fun e w' => e = .returned (.int .i64 (cellC a b)) ∧ Lays w w' := by
  go_enter Tryz.func122, Tryz.ntmps122
  go_wp2_with fail
  refine region_still_tail 10 (by kernel_rfl) (by kernel_rfl) ?_
  simp only [List.take_succ_cons, List.take_zero, List.drop_succ_cons, List.drop_zero]
  still_step; still_step; still_step; still_step
  still_call (flipc (w_Compare _ _ _))
  still_step; still_step; still_step; still_step
  still_call (flipc (w_Compare _ _ _))
  refine wpStill_nil ?_
  go_wp2_with (go_at_call 44; refine (w_OrI2 (cmpI a.x b.x) (cmpI a.y b.y) _ _ _ (hnew_drew (by simp))).mono ?_; rintro e w' ⟨rfl, rfl⟩)
  go_ret
  exact ⟨rfl, (((Lays.refl _).alloc _).alloc _).alloc _ |>.drew⟩

set_option maxRecDepth 100000 in
set_option maxHeartbeats 1000000 in
theorem w_byTally (a b : Tally) (w : World) :
    Calls Tryz.prog 88 #[.agg (encTally a).toArray, .agg (encTally b).toArray] w fun e w' => e = .returned (.int .i64 (tallyC a b)) ∧ Lays w w' := by
  unfold encTally
  go_enter Tryz.func88, Tryz.ntmps88
  go_wp2_with fail
  go_region_held3 (fun w' => w'.cell? ⟨w.heap.size, 0, none⟩ = some (.int .i64 a.x) ∧ w'.cell? ⟨w.heap.size, 1, none⟩ = some (.int .i64 a.y) ∧ w'.cell? ⟨w.heap.size, 2, none⟩ = some (.int .i64 a.hour) ∧ w'.cell? ⟨w.heap.size + 1, 0, none⟩ = some (.int .i64 b.x) ∧ w'.cell? ⟨w.heap.size + 1, 1, none⟩ = some (.int .i64 b.y) ∧ w'.cell? ⟨w.heap.size + 1, 2, none⟩ = some (.int .i64 b.hour))
    (first | go_keep | (go_split_ands; exact ⟨hL.cell ‹_›, hL.cell ‹_›, hL.cell ‹_›, hL.cell ‹_›, hL.cell ‹_›, hL.cell ‹_›⟩))
    (first
      | (go_at_call 122; refine (w_byCell ⟨a.x, a.y⟩ ⟨b.x, b.y⟩ _).mono ?_; rintro e w1 ⟨rfl, hL⟩)
      | (go_at_call 46; refine (w_Compare _ _ _).mono ?_; rintro e w' ⟨rfl, rfl⟩)
      | (go_at_call 44; refine (w_OrI2 (cellC ⟨a.x, a.y⟩ ⟨b.x, b.y⟩) (cmpI a.hour b.hour) _ _ _ (hnew (by simp))).mono ?_; rintro e w' ⟨rfl, rfl⟩)
      | (go_at_call 44; refine (w_OrI2 (cellC ⟨a.x, a.y⟩ ⟨b.x, b.y⟩) (cmpI a.hour b.hour) _ _ _ (hnew_drew (by simp))).mono ?_; rintro e w' ⟨rfl, rfl⟩))
  go_wp2
  go_ret
  exact ⟨rfl, by repeat (first | exact Lays.refl _ | refine Lays.trans ?_ hL | refine Lays.drew ?_ | refine Lays.drewN ?_ _ | refine Lays.alloc ?_ _)⟩
set_option maxRecDepth 100000 in
set_option maxHeartbeats 1000000 in
theorem w_CellOrder (a b : Cell) (w : World) :
    Calls Tryz.prog 45 #[.agg #[.int .i64 a.x, .int .i64 a.y], .agg #[.int .i64 b.x, .int .i64 b.y]] w fun e w' => e = .returned (.int .i64 (cellC a b)) ∧ Lays w w' := by
  go_enter Tryz.func45, Tryz.ntmps45
  go_wp2_with fail
  refine region_still_tail 10 (by kernel_rfl) (by kernel_rfl) ?_
  simp only [List.take_succ_cons, List.take_zero, List.drop_succ_cons, List.drop_zero]
  still_step; still_step; still_step; still_step
  still_call (flipc (w_Compare _ _ _))
  still_step; still_step; still_step; still_step
  still_call (flipc (w_Compare _ _ _))
  refine wpStill_nil ?_
  go_wp2_with (go_at_call 44; refine (w_OrI2 (cmpI a.x b.x) (cmpI a.y b.y) _ _ _ (hnew_drew (by simp))).mono ?_; rintro e w' ⟨rfl, rfl⟩)
  go_ret
  exact ⟨rfl, (((Lays.refl _).alloc _).alloc _).alloc _ |>.drew⟩

end Go.Proofs.YthlhomcgjgfdhaaGreatDoor
/- A map of integers, said of a plain function: what it holds at each key. Of no program. -/
namespace Go.Proofs.YthlhomcgjgfdhaaGreatDoor
open Go.RowKit Go.Maps

section
variable {κ : Type} {P : Program} {K E : TypeId} {ek : κ → Value} {dom : κ → Prop}

/-- The map's datum D holds f k at key k (0 where it has none); its keys lie in dom. -/
structure MpD (P : Program) (K : TypeId) (ek : κ → Value) (dom : κ → Prop) (D : DataW Unit) (f : κ → Int) : Prop where
  isMap : IsMap D
  at_ : ∀ k l, dom k → keyOf P K (ek k) = some l → D.atKey l (.lit (.int .i64 0)) = .lit (.int .i64 (f k))
  keys : ∀ l, has D l = true → ∃ k, dom k ∧ keyOf P K (ek k) = some l

/-- Block b is such a map. -/
def MpI (P : Program) (K E : TypeId) (ek : κ → Value) (dom : κ → Prop) (w : World) (b n : Nat) (f : κ → Int) : Prop :=
  ∃ D : DataW Unit, w.ownsMap P K (plainElem P E) b n D ∧ MpD P K ek dom D f

theorem MpI.lt {w : World} {b n : Nat} {f : κ → Int} (h : MpI P K E ek dom w b n f) : b < w.heap.size := by
  obtain ⟨D, h1, _⟩ := h; exact h1.lt
theorem MpI.nx {w w' : World} {b n : Nat} {f : κ → Int} (h : MpI P K E ek dom w b n f) (hn : Nx w w') : MpI P K E ek dom w' b n f := by
  obtain ⟨D, h1, h2⟩ := h
  exact ⟨D, h1.kept (hn.gr none) (by simp), h2⟩
theorem MpI.mono {w : World} {b n n' : Nat} {f : κ → Int} (h : MpI P K E ek dom w b n f) (hn : n ≤ n') : MpI P K E ek dom w b n' f := by
  obtain ⟨D, h1, h2⟩ := h; exact ⟨D, h1.mono hn, h2⟩
theorem wf_i64 {n : Int} : (Lit.int .i64 n).wf = true ↔ -9223372036854775808 ≤ n ∧ n ≤ 9223372036854775807 := by
  simp [Lit.wf, IntKind.min, IntKind.max, IntKind.signed, IntKind.bits]

theorem MpD.put {D : DataW Unit} {f : κ → Int} [DecidableEq κ] (h : MpD P K ek dom D f) (KL : Keyed P K) (hinj : ∀ a b : κ, ek a = ek b → a = b) {k : κ} (hd : dom k) {l : Lit} (hkey : keyOf P K (ek k) = some l) (v : Int) :
    MpD P K ek dom (D.put l (.lit (.int .i64 v))) (fun k' => if k' = k then v else f k') where
  isMap := h.isMap.put _ _
  at_ k' l' hd' hk' := by
    by_cases e : k' = k
    · subst e
      rw [hkey] at hk'; injection hk' with hk'; subst hk'
      rw [if_pos rfl]
      exact atKey_put_same h.isMap (KL.key hkey) _ _
    · rw [if_neg e]
      have hne : l' ≠ l := fun e1 => by subst e1; exact e (hinj _ _ (KL.inj hk' hkey))
      rw [atKey_put_other hne]
      exact h.at_ k' l' hd' hk'
  keys l' hl' := by
    by_cases e : l' = l
    · subst e; exact ⟨k, hd, hkey⟩
    · rw [has_put_other e] at hl'; exact h.keys l' hl'

end
end Go.Proofs.YthlhomcgjgfdhaaGreatDoor
/- Maps: the keys. -/
namespace Go.Proofs.YthlhomcgjgfdhaaGreatDoor
open Go.RowKit Go.Maps

theorem tySize : Tryz.prog.types.size = 330 := by kernel_rfl
theorem laidOut : laidOutB Tryz.prog = true := by kernel_rfl
theorem law_cell : Keyed Tryz.prog 39 := Keyed.of_law (deep_law_laid laidOut (m := 5) (by omega) (k := 39) (by rw [tySize]; decide) (by kernel_rfl) (by kernel_rfl))
theorem kt_cell : Tryz.prog.keyType 39 = true := by kernel_rfl
theorem cells_cell : Tryz.prog.cellsOf 39 = 2 := by kernel_rfl
theorem cells_int : Tryz.prog.cellsOf 3 = 1 := by kernel_rfl

theorem lits_int (d : Nat) (x : Int) (hx : (Lit.int .i64 x).wf = true) : Tryz.prog.keyLits (d + 1) 3 [.int .i64 x] = some [.int .i64 x] := by
  unfold Program.keyLits; rw [Tryz.underlying3]; simp [hx]
theorem lits_cell (d : Nat) (x y : Int) (hx : (Lit.int .i64 x).wf = true) (hy : (Lit.int .i64 y).wf = true) : Tryz.prog.keyLits (d + 2) 39 [.int .i64 x, .int .i64 y] = some [.int .i64 x, .int .i64 y] := by
  unfold Program.keyLits; rw [Tryz.underlying39]; simp [cells_cell, cells_int, lits_int _ _ hx, lits_int _ _ hy]
end Go.Proofs.YthlhomcgjgfdhaaGreatDoor
/- The tallies of a map, sorted. -/
namespace Go.Proofs.YthlhomcgjgfdhaaGreatDoor
open Go.RowKit Go.Sort Go.Shelf Go.Maps

def dom64 (k : Spot) : Prop := (Lit.int .i64 k.x).wf = true ∧ (Lit.int .i64 k.y).wf = true ∧ (Lit.int .i64 k.h).wf = true
theorem el_Tally : ElemOf Tryz.prog 26 55 4 32 := ElemOf.mk' (z := .agg #[.int .i64 0, .int .i64 0, .int .i64 0, .int .i64 0]) Tryz.underlying26 (by kernel_rfl) rfl
theorem encTally_len (x : Tally) : (encTally x).length = 4 := rfl
theorem encTally_one (x : Tally) : ∀ v ∈ encTally x, v.oneCell' = true := by
  intro v hv; simp [encTally] at hv; rcases hv with rfl | rfl | rfl | rfl <;> rfl
end Go.Proofs.YthlhomcgjgfdhaaGreatDoor
/- '==' and '!=' on structs. -/
namespace Go.Proofs.YthlhomcgjgfdhaaGreatDoor
open Go.RowKit

theorem gd_Cell : Tryz.prog.eqGuardType Tryz.prog.depth 39 = false := by kernel_rfl
theorem gd_Tally : Tryz.prog.eqGuardType Tryz.prog.depth 55 = false := by kernel_rfl
theorem sin_Cell (d : Nat) (x y a b : Int) (w : World) : (Op.equalIn (d + 2) 39 (.agg #[.int .i64 x, .int .i64 y]) (.agg #[.int .i64 a, .int .i64 b])).run Tryz.prog w = .ok (x == a && y == b) w := by
  have u3 := Tryz.underlying3
  have a3 := Tryz.isAgg3
  have z3 := Tryz.sizeOf3
  have hS : Tryz.prog.underlying 39 = some (.struct (Tryz.prog.fieldsOf 39)) := by kernel_rfl
  have hp : Tryz.prog.stoodInHeld 39 = false := by kernel_rfl
  rw [run_equalIn_agg w (d + 1) 39 _ _ hS hp]
  simp only [Program.fieldsOf, Tryz.underlying39]
  go_simp
  by_cases h1 : x = a <;> by_cases h2 : y = b <;> simp [h1, h2]
theorem neq_Cell (x y a b : Int) (w : World) : (binOp .neq 39 (.agg #[.int .i64 x, .int .i64 y]) (.agg #[.int .i64 a, .int .i64 b])).run Tryz.prog w = .ok (.bool (!(x == a && y == b))) w := by
  rw [run_neq_struct, show (10000 : Nat) = 9998 + 2 from rfl, sin_Cell]; rfl
theorem eql_Cell (x y a b : Int) (w : World) : (binOp .eql 39 (.agg #[.int .i64 x, .int .i64 y]) (.agg #[.int .i64 a, .int .i64 b])).run Tryz.prog w = .ok (.bool (x == a && y == b)) w := by
  rw [run_eql_struct, show (10000 : Nat) = 9998 + 2 from rfl, sin_Cell]; rfl
theorem sin_Tally (d : Nat) (x y h m a b c e : Int) (w : World) : (Op.equalIn (d + 3) 55 (.agg #[.int .i64 x, .int .i64 y, .int .i64 h, .int .i64 m]) (.agg #[.int .i64 a, .int .i64 b, .int .i64 c, .int .i64 e])).run Tryz.prog w = .ok ((x == a && y == b) && h == c && m == e) w := by
  have u3 := Tryz.underlying3
  have a3 := Tryz.isAgg3
  have z3 := Tryz.sizeOf3
  have a4 := Tryz.isAgg39
  have z4 := Tryz.sizeOf39
  have hC := fun w => sin_Cell d x y a b w
  have hS : Tryz.prog.underlying 55 = some (.struct (Tryz.prog.fieldsOf 55)) := by kernel_rfl
  have hp : Tryz.prog.stoodInHeld 55 = false := by kernel_rfl
  rw [run_equalIn_agg w (d + 2) 55 _ _ hS hp]
  simp only [Program.fieldsOf, Tryz.underlying55]
  go_simp
  by_cases h1 : x = a <;> by_cases h2 : y = b <;> by_cases h3 : h = c <;> by_cases h4 : m = e <;> simp [h1, h2, h3, h4]
theorem neq_Tally (x y h m a b c e : Int) (w : World) : (binOp .neq 55 (.agg #[.int .i64 x, .int .i64 y, .int .i64 h, .int .i64 m]) (.agg #[.int .i64 a, .int .i64 b, .int .i64 c, .int .i64 e])).run Tryz.prog w = .ok (.bool (!((x == a && y == b) && h == c && m == e))) w := by
  rw [run_neq_struct, show (10000 : Nat) = 9997 + 3 from rfl, sin_Tally]; rfl
end Go.Proofs.YthlhomcgjgfdhaaGreatDoor
/- How many calls there were: both ways. -/
namespace Go.Proofs.YthlhomcgjgfdhaaGreatDoor
open Go.RowKit Go.Sort Go.Shelf Go.Maps

attribute [local go_sem ↓] neq_Cell eql_Cell
attribute [local go_sem] gd_Cell

/-- Not more than 400 tallies are not too many cells. -/
def Few (w : World) (e : Ending) (w' : World) : Prop := e = .returned (.bool false) ∧ Nx w w'
set_option maxRecDepth 100000 in
set_option maxHeartbeats 1000000 in
theorem w_manyCells (lo : Nat) (A : Option Addr) (c : Nat) (l : List Tally) (w : World) (hR : Rd w lo A 4 encTally l) (hl : l.length ≤ 400) :
    Calls Tryz.prog 89 #[.slice A l.length c] w (Few w) := by
  generalize hn : l.length = n at *
  have HR := hide hR
  have HN := hide hn
  clear hR hn
  go_enter Tryz.func89, Tryz.ntmps89
  go_wp2
  go_loopw [3, 4, 5, 8] (fun m _ _ i wr => ∃ k j : Nat, k ≤ n ∧ j ≤ k ∧ m = .int .i64 j ∧ i = .int .i64 k ∧ Nx w wr) (fun _ _ _ i _ => n - (intOf i).toNat)
  case atStart => exact ⟨0, 0, Nat.zero_le _, Nat.le_refl _, rfl, rfl, Nx.refl _⟩
  case round =>
    obtain ⟨k, j, hk, hj, rfl, rfl, hbw⟩ := hrel
    by_cases hlt : k < n
    · have hlt' : k < l.length := by have := HN.out; omega
      obtain ⟨b, off, rfl, _, hb, hbr, hc⟩ := HR.out.open_ hbw (by omega)
      have c0 : wr.cell? ⟨b, off + k * 4, none⟩ = some (.int .i64 l[k].x) := hc k hlt' 0 _ rfl
      have c1 : wr.cell? ⟨b, off + k * 4 + 1, none⟩ = some (.int .i64 l[k].y) := hc k hlt' 1 _ rfl
      have c2 : wr.cell? ⟨b, off + k * 4 + 2, none⟩ = some (.int .i64 l[k].hour) := hc k hlt' 2 _ rfl
      have c3 : wr.cell? ⟨b, off + k * 4 + 3, none⟩ = some (.int .i64 l[k].many) := hc k hlt' 3 _ rfl
      by_cases hk0 : 0 < k
      · have c4 : wr.cell? ⟨b, off + (k - 1) * 4, none⟩ = some (.int .i64 (l[k - 1]'(by omega)).x) := hc (k - 1) (by omega) 0 _ rfl
        have c5 : wr.cell? ⟨b, off + (k - 1) * 4 + 1, none⟩ = some (.int .i64 (l[k - 1]'(by omega)).y) := hc (k - 1) (by omega) 1 _ rfl
        generalize (l[k - 1]'(by omega)).x = p0 at *
        generalize (l[k - 1]'(by omega)).y = p1 at *
        clear hc
        have q0 : ((k : Int) == 0) = false := by simp; omega
        have q1 : IntKind.i64.wrap ((k : Int) - 1) = (k : Int) - 1 := IntWalk.i64_in _ (by omega)
        have q2 : (1 : Int) ≤ (k : Int) := by omega
        have q3 : ((k : Int) - 1).toNat = k - 1 := by omega
        have q4 : (k : Int) - 1 < (n : Int) := by omega
        go_wp2_with fail
        go_quiet (fail)
        go_wp2
        all_goals go_roundw
        all_goals first
          | (case rel => exact ⟨k + 1, j, by omega, by omega, rfl, by go_num, (hbw.alloc _).drewN _⟩)
          | (case rel => exact ⟨k + 1, j + 1, by omega, by omega, by go_num, by go_num, (hbw.alloc _).drewN _⟩)
          | (case measure => simp [intOf]; omega)
      · have q0 : ((k : Int) == 0) = true := by simp; omega
        clear hc
        go_wp2_with fail
        go_quiet (fail)
        go_wp2
        go_roundw
        case rel => exact ⟨k + 1, j + 1, by omega, by omega, by go_num, by go_num, (hbw.alloc _).drewN _⟩
        case measure => simp [intOf]; omega
    · go_wp2
      go_ret
      exact ⟨ret_bool (by simp; omega), hbw⟩

/-- How many different cells tallies have: no more than there are tallies. -/
def AtMost (n : Nat) (w : World) (e : Ending) (w' : World) : Prop := ∃ k : Nat, k ≤ n ∧ e = .returned (.int .i64 (k : Int)) ∧ Nx w w'
theorem key_cell (x y : Int) (hx : (Lit.int .i64 x).wf = true) (hy : (Lit.int .i64 y).wf = true) : ∃ l, keyOf Tryz.prog 39 (.agg #[.int .i64 x, .int .i64 y]) = some l := by
  refine ⟨.string (keyBytes [.int .i64 x, .int .i64 y]), ?_⟩
  unfold keyOf
  rw [Tryz.underlying39, kt_cell, tySize]
  have e := lits_cell 329 x y hx hy
  simp [Value.formed, Tryz.underlying39, cells_cell, Value.cells, e]
set_option maxRecDepth 100000 in
set_option maxHeartbeats 1000000 in
theorem w_cellsOf (lo : Nat) (A : Option Addr) (c : Nat) (l : List Tally) (w : World) (hR : Rd w lo A 4 encTally l) (hl : l.length ≤ 65536) (hd : ∀ t ∈ l, dom64 (keyT t)) :
    Calls Tryz.prog 47 #[.slice A l.length c] w (AtMost l.length w) := by
  generalize hn : l.length = n at *
  have HR := hide hR
  have HN := hide hn
  have HD := hide hd
  clear hR hn hd
  have hmm := @run_makeMap Tryz.prog
  go_enter Tryz.func47, Tryz.ntmps47
  go_wp2
  go_loopw [5, 9] (fun _ i wr => ∃ (k : Nat) (D : DataW Unit), k ≤ n ∧ i = .int .i64 k ∧ wr.ownsMap Tryz.prog 39 (plainElem Tryz.prog 4) w.heap.size k D ∧ Nx w wr) (fun _ i _ => n - (intOf i).toNat)
  case atStart => exact ⟨0, _, Nat.zero_le _, rfl, World.ownsMap_made _ _ _ _, (Nx.refl _).alloc _⟩
  case round =>
    obtain ⟨k, D, hk, rfl, hown, hbw⟩ := hrel
    by_cases hlt : k < n
    · have hlt' : k < l.length := by have := HN.out; omega
      obtain ⟨b, off, rfl, _, hb, hbr, hc⟩ := HR.out.open_ hbw (by omega)
      have c0 : wr.cell? ⟨b, off + k * 4, none⟩ = some (.int .i64 l[k].x) := hc k hlt' 0 _ rfl
      have c1 : wr.cell? ⟨b, off + k * 4 + 1, none⟩ = some (.int .i64 l[k].y) := hc k hlt' 1 _ rfl
      have c2 : wr.cell? ⟨b, off + k * 4 + 2, none⟩ = some (.int .i64 l[k].hour) := hc k hlt' 2 _ rfl
      have c3 : wr.cell? ⟨b, off + k * 4 + 3, none⟩ = some (.int .i64 l[k].many) := hc k hlt' 3 _ rfl
      obtain ⟨hx, hy, _⟩ := HD.out l[k] (List.getElem_mem hlt')
      obtain ⟨kl, hkey⟩ := key_cell l[k].x l[k].y hx hy
      clear hc
      go_wp2_with (at_mapUpdate; refine wpList_mapUpdate_own _ rfl _ _ _ _ rfl 39 4 law_cell Tryz.underlying132 _ w.heap.size k _ rfl (hown.alloc _) (by unfold maxLen; omega) _ _ _ rfl rfl hkey _ [] (plainElem_bool (H := Unit) Tryz.underlying4 true) ?_; intro w2 hown2 hg2; go_frame)
      go_roundw
      case rel => exact ⟨k + 1, _, by omega, by go_num, hown2, (hbw.alloc _).grown hg2 (fun j hj => by injection hj with hj; omega)⟩
      case measure => simp [intOf]; omega
    · have hs := hown.size_le
      go_wp2_with (at_len; refine wpList_len_own _ rfl _ _ rfl 39 4 Tryz.underlying132 _ w.heap.size k _ rfl hown ?_)
      go_ret
      exact ⟨_, by omega, rfl, hbw⟩

end Go.Proofs.YthlhomcgjgfdhaaGreatDoor
/- strconv.Itoa for every number; the library's table stays. -/
namespace Go.Proofs.YthlhomcgjgfdhaaGreatDoor
open Go.RowKit

abbrev PowTab (w : World) : Prop := Lib.TabIs Tryz.prog w "internal/strconv.uint64pow10" .u64 Lib.pow10Tab
theorem tab_nx {P : Program} {w w' : World} {name : String} {k : IntKind} {zs : List Int} (h : Lib.TabIs P w name k zs) (hn : Nx w w') : Lib.TabIs P w' name k zs := by
  unfold Lib.TabIs World.var? at h ⊢
  cases hg : P.globalNamed name with
  | none => rw [hg] at h; simp at h
  | some g =>
    rw [hg] at h
    simp only [Option.bind_some] at h ⊢
    cases hb : w.heap[g]? with
    | none => rw [hb] at h; simp at h
    | some o =>
      rw [hn.block g (Array.getElem?_eq_some_iff.1 hb).1]
      exact h
def itoaS (n : Int) : ByteArray := ⟨(Lib.itoa n).toArray⟩
theorem w_ItoaN (n : Int) (h0 : -9223372036854775808 ≤ n) (h1 : n ≤ 9223372036854775807) (w : World) (ht : PowTab w) : Calls Tryz.prog 58 #[.int .i64 n] w fun e w' => e = .returned (.string (itoaS n)) ∧ Nx w w' := by
  refine (Any.strconv_Itoa Tryz.itoaM n h0 h1 w ht).mono ?_
  rintro e w' ⟨rfl, k, os, rfl⟩
  exact ⟨rfl, Lays.nx ⟨k, os, rfl⟩⟩
end Go.Proofs.YthlhomcgjgfdhaaGreatDoor
/- The stream's methods that pick a number. -/
namespace Go.Proofs.YthlhomcgjgfdhaaGreatDoor
open Go.RowKit

/-- A number of some list. -/
def StrIn (zs : List Int) (s k : Nat) (w : World) (e : Ending) (w' : World) : Prop := ∃ r ∈ zs, e = .returned (.int .i64 r) ∧ Gr s w w' ∧ Str w' s k
/-- 's.Pick(..)' of numbers that lie in a block of their own. -/
theorem w_PickI (g : Nat) (zs : List Int) (cs : Array Value) (s k : Nat) (w : World) (hS : Str w s k) (hk : k < 1000000) (hg : w.heap[g]? = some (.cells cs 3 (0, 0))) (hne : g ≠ s) (hcs : cs.toList = zs.map (Value.int .i64)) (h0 : zs ≠ []) (h1 : zs.length < 1000) :
    Calls Tryz.prog 7 #[.pointer (some ⟨s, 0, none⟩), .slice (some ⟨g, 0, none⟩) zs.length zs.length] w (StrIn zs s (k + 1) w) := by
  refine (w_Pick g zs.length cs s k w hS hk hg hne (by rw [← Array.length_toList, hcs, List.length_map]) (List.length_pos_iff.2 h0) h1).mono ?_
  rintro e w' ⟨v, hv, rfl, hg, hs⟩
  rw [hcs] at hv
  obtain ⟨z, hz, rfl⟩ := List.mem_map.1 hv
  exact ⟨z, hz, rfl, hg, hs⟩

set_option maxHeartbeats 1000000 in
theorem w_Odd (l h : Int) (s k : Nat) (w : World) (hS : Str w s k) (hk : k < 900000) (hl : -4294967296 ≤ l ∧ l ≤ h ∧ h < 4294967296) (hn : h - l < 4294967296) :
    Calls Tryz.prog 41 #[.pointer (some ⟨s, 0, none⟩), .int .i64 l, .int .i64 h] w (StrInt (-1099511627776) 1099511627776 s (k + 2) w) := by
  go_enter Tryz.func41, Tryz.ntmps41
  go_wp2_with (first
    | (go_at_call 39; refine (w_Flip _ _ _ _ hS (by omega) (by omega)).mono ?_; rintro e w1 ⟨b, rfl, hg1, hS1⟩)
    | (go_at_call 27; refine (w_Range _ _ _ _ _ hS1 (by omega) hl hn).mono ?_; rintro e w2 ⟨r, hr1, hr2, rfl, hg2, hS2⟩)
    | (go_at_call 7; refine (w_PickI _ [l - 1, h + 1, l, h, -1099511627776, 1099511627776] _ _ _ _ (hS1.nx ((Nx.refl _).alloc _)) (by omega) (hnew rfl) (by have := hS1.lt; omega) rfl (by simp) (by simp)).mono ?_; rintro e w2 ⟨r, hr, rfl, hg2, hS2⟩))
  · go_ret
    have hr' : r = l - 1 ∨ r = h + 1 ∨ r = l ∨ r = h ∨ r = -1099511627776 ∨ r = 1099511627776 := by simpa using hr
    exact ⟨r, by omega, by omega, rfl, (hg1.alloc _).trans hg2, hS2⟩
  · go_ret
    exact ⟨r, by omega, by omega, rfl, hg1.trans hg2, hS2⟩

end Go.Proofs.YthlhomcgjgfdhaaGreatDoor
/- More words for memory, of no program: rows out of literals, prefixes of rows, rows that stay while others turn. -/
namespace Go.Proofs.YthlhomcgjgfdhaaGreatDoor
open Go.RowKit

section
variable {α : Type} {w w' : World} {lo K : Nat} {A : Option Addr} {enc : α → List Value} {xs : List α}
/-- The first ones of a slice. -/
theorem Rd.take (h : Rd w lo A K enc xs) (n : Nat) : Rd w lo A K enc (xs.take n) := fun hp => by
  have hp' : 0 < xs.length := by rw [List.length_take] at hp; omega
  obtain ⟨b, off, e, h1, hb, hc⟩ := h hp'
  refine ⟨b, off, e, h1, hb, fun i x hx j u hu => hc i x ?_ j u hu⟩
  have hi : i < (xs.take n).length := (List.getElem?_eq_some_iff.1 hx).1
  rw [List.length_take] at hi
  rw [← hx, List.getElem?_take_of_lt (by omega)]
/-- A row of the call's own out of a literal: its first n elements. -/
theorem own_lit {e : TypeId} {g n m : Nat} {cs : Array Value} {base : Nat} (hk : ∀ x, (enc x).length = K) (hg : w.heap[g]? = some (.cells cs e (0, 0))) (hb : base ≤ g) (hcs : cs.toList = xs.flatMap enc) (hm : xs.length = m) (hn : n ≤ m) (hmax : m ≤ maxLen) :
    w.ownsRow base e K (.slice (some ⟨g, 0, none⟩) n m) n ((xs.take n).flatMap enc) := by
  have hl : (xs.take n).length = n := by rw [List.length_take]; omega
  refine ⟨by rw [flat_len hk, hl], .inr ⟨g, m, cs, rfl, hb, hg, hn, hmax, ?_, ?_⟩⟩
  · rw [← Array.length_toList, hcs, flat_len hk, hm]
  · rw [hcs]
    have e1 : xs.flatMap enc = (xs.take n).flatMap enc ++ (xs.drop n).flatMap enc := by rw [← List.flatMap_append, List.take_append_drop]
    rw [e1, List.take_append_of_le_length (by rw [flat_len hk, hl]; exact Nat.le_refl _), List.take_of_length_le (by rw [flat_len hk, hl]; exact Nat.le_refl _)]
end
end Go.Proofs.YthlhomcgjgfdhaaGreatDoor
/- 'out = append(out, ys...)' on a row of the call's own. Of no program. -/
namespace Go.Proofs.YthlhomcgjgfdhaaGreatDoor
open Go.RowKit

theorem run_append_nilsrc {P : Program} (w : World) (base : Nat) (t ty e : TypeId) (i : TypeInfo) (size : Nat) (ht : P.underlying t = some (.slice e)) (hi : P.info? e = some i)
    (v : Value) (n : Nat) (xs : List Value) (hown : w.ownsRow base e size v n xs) (c : Nat) : (Builtin.append_ #[t, t] ty #[v, .slice none 0 c]).run P w = .ok v w := by
  rcases hown.2 with ⟨rfl, rfl⟩ | ⟨g, cap, cur, rfl, _, _, hnc, _⟩
  · simp [Builtin.append_, run_underlying ht, sizeOf, typeInfo, hi, Builtin.lenOf, Builtin.firstCells]
  · simp [Builtin.append_, run_underlying ht, sizeOf, typeInfo, hi, Builtin.lenOf, Builtin.firstCells, hnc, storeCells]
/-- 'out = append(out, ys...)'. -/
theorem wpAppL {α : Type} {P : Program} {w : World} {ops : Array Oper} {rest : List Oper} {o : Oper} {a : Act} {Q : Exit → Act → World → Prop} (hgd : o.guard = none) (s x : Operand) (t : TypeId)
    (ho : o.op = .call { callee := .builtin .append, args := #[s, x], argTypes := #[t, t] })
    {e : TypeId} {K bytes : Nat} (E : ElemOf P t e K bytes) (enc : α → List Value) (hk : ∀ x, (enc x).length = K) (h1c : ∀ x, ∀ v ∈ enc x, v.oneCell' = true) (hK : 0 < K) (hB : bytes ≤ 1000)
    (base : Nat) (v : Value) (L : List α) (hs : a.eval s = v) (hown : w.ownsRow base e K v L.length (L.flatMap enc)) (A : Option Addr) (c : Nat) (ys : List α) (hx : a.eval x = .slice A ys.length c)
    {lo : Nat} (hR : Rd w lo A K enc ys) (hlen : L.length + ys.length ≤ 10000000) (hbase : base ≤ w.heap.size)
    (h : ∀ v' w', w'.ownsRow base e K v' (L ++ ys).length ((L ++ ys).flatMap enc) → w.grownBy w' v.ownBlock → wpList P ops Q rest (a.put o.dst v') w') : wpList P ops Q (o :: rest) a w := by
  obtain ⟨i, z, h1, h2, h3, h4, h5⟩ := E.hi
  cases A with
  | none =>
    have hy : ys = [] := by
      rcases ys with _ | ⟨y, ys⟩
      · rfl
      · obtain ⟨b, off, e, _⟩ := hR (by simp); cases e
    subst hy
    refine wpList_plain hgd fun K' hK' => ?_
    have hrun := run_append_nilsrc (P := P) w base t o.type e i K E.ht h1 v L.length _ hown c
    unfold Oper.wp execOp
    simp only [ho, resolve, invoke, builtin, Sem.run_bind, Sem.run_pure, Result.andThen_ok, List.map_toArray, List.map_cons, List.map_nil, hs, hx, List.length_nil, hrun]
    exact hK' _ _ (h v w (by simpa using hown) (World.grownBy.refl _ _))
  | some ad =>
    refine wpList_append_own w hgd s x t ho base e i z K bytes E.ht h1 h2 h3 h4 h5 hK v L.length _ hs hown ad ys.length c (ys.flatMap enc) hx (flat_len hk) ?_ ?_ (by unfold maxLen; omega) ?_ hbase ?_
    · intro j u hu
      have hj : j < ys.length * K := by have := (List.getElem?_eq_some_iff.1 hu).1; rw [flat_len hk] at this; exact this
      have hyl : 0 < ys.length := by
        rcases Nat.eq_zero_or_pos ys.length with h0 | h0
        · rw [h0] at hj; omega
        · exact h0
      obtain ⟨b, off, e, _, _, hc⟩ := hR hyl
      injection e with e; subst e
      have hq : j / K < ys.length := (Nat.div_lt_iff_lt_mul hK).2 hj
      have hr : j % K < K := Nat.mod_lt _ hK
      have e1 : j / K * K + j % K = j := by rw [Nat.mul_comm]; exact Nat.div_add_mod j K
      have hu2 : (enc ys[j / K])[j % K]? = some u := by
        have h6 : (enc ys[j / K])[j % K]? = some ((enc ys[j / K])[j % K]'(by rw [hk]; exact hr)) := List.getElem?_eq_getElem _
        have h7 := flat_get (xs := ys) hk (j / K) _ (List.getElem?_eq_getElem hq) (j % K) _ h6
        rw [e1, hu] at h7
        rw [h6, ← h7]
      have := hc (j / K) _ (List.getElem?_eq_getElem hq) (j % K) u hu2
      have e2 : (⟨b, off, none⟩ : Addr).add j = ⟨b, off + j, none⟩ := by unfold Addr.add; split <;> simp_all
      rw [e2, ← e1, ← Nat.add_assoc]
      exact this
    · intro u hu
      obtain ⟨y, _, hy⟩ := List.mem_flatMap.1 hu
      exact h1c y u hy
    · have : (L.length + ys.length) * bytes ≤ 10000000 * 1000 := Nat.mul_le_mul hlen hB
      omega
    · intro v' w' ho' hg' _
      exact h v' w' (by simpa using ho') hg'

end Go.Proofs.YthlhomcgjgfdhaaGreatDoor
/- slices.Equal over tallies. -/
namespace Go.Proofs.YthlhomcgjgfdhaaGreatDoor
open Go.RowKit Go.Sort Go.Shelf Go.Maps
attribute [local go_sem ↓] neq_Cell eql_Cell neq_Tally
attribute [local go_sem] gd_Cell gd_Tally

set_option maxRecDepth 100000 in
set_option maxHeartbeats 1000000 in
theorem w_EqualT (lo lo' : Nat) (A B : Option Addr) (c d : Nat) (l : List Tally) (w : World) (hA : Rd w lo A 4 encTally l) (hB : Rd w lo' B 4 encTally l) (hl : l.length ≤ 65536) :
    Calls Tryz.prog 24 #[.slice A l.length c, .slice B l.length d] w fun e w' => e = .returned (.bool true) ∧ Nx w w' := by
  generalize hn : l.length = n at *
  have HA := hide hA
  have HB := hide hB
  have HN := hide hn
  clear hA hB hn
  go_enter Tryz.func24, Tryz.ntmps24
  go_wp2
  go_loopw [5, 13] (fun _ i wr => ∃ k : Nat, k ≤ n ∧ i = .int .i64 k ∧ Nx w wr) (fun _ i _ => n - (intOf i).toNat)
  case atStart => exact ⟨0, Nat.zero_le _, rfl, Nx.refl _⟩
  case round =>
    obtain ⟨k, hk, rfl, hbw⟩ := hrel
    by_cases hlt : k < n
    · have hlt' : k < l.length := by have := HN.out; omega
      obtain ⟨b, off, rfl, _, hb, hbr, hc⟩ := HA.out.open_ hbw (by omega)
      obtain ⟨b', off', rfl, _, hb', hbr', hc'⟩ := HB.out.open_ hbw (by omega)
      have c0 : wr.cell? ⟨b, off + k * 4, none⟩ = some (.int .i64 l[k].x) := hc k hlt' 0 _ rfl
      have c1 : wr.cell? ⟨b, off + k * 4 + 1, none⟩ = some (.int .i64 l[k].y) := hc k hlt' 1 _ rfl
      have c2 : wr.cell? ⟨b, off + k * 4 + 2, none⟩ = some (.int .i64 l[k].hour) := hc k hlt' 2 _ rfl
      have c3 : wr.cell? ⟨b, off + k * 4 + 3, none⟩ = some (.int .i64 l[k].many) := hc k hlt' 3 _ rfl
      have d0 : wr.cell? ⟨b', off' + k * 4, none⟩ = some (.int .i64 l[k].x) := hc' k hlt' 0 _ rfl
      have d1 : wr.cell? ⟨b', off' + k * 4 + 1, none⟩ = some (.int .i64 l[k].y) := hc' k hlt' 1 _ rfl
      have d2 : wr.cell? ⟨b', off' + k * 4 + 2, none⟩ = some (.int .i64 l[k].hour) := hc' k hlt' 2 _ rfl
      have d3 : wr.cell? ⟨b', off' + k * 4 + 3, none⟩ = some (.int .i64 l[k].many) := hc' k hlt' 3 _ rfl
      clear hc hc'
      have q1 : (0 : Int) ≤ (k : Int) := by omega
      have q2 : (k : Int) < (n : Int) := by omega
      go_wp2_with fail
      go_quiet (fail)
      go_wp2
      go_roundw
      case rel => exact ⟨k + 1, by omega, by go_num, hbw.drewN _⟩
      case measure => simp [intOf]; omega
    · go_wp2
      go_ret
      exact ⟨rfl, hbw⟩

end Go.Proofs.YthlhomcgjgfdhaaGreatDoor
/- What is handed out: the reference's. -/
namespace Go.Proofs.YthlhomcgjgfdhaaGreatDoor
open Go.RowKit Go.Sort Go.Proofs Go.Shelf

/-- The first of the greatest of the first k. -/
structure FM (cs : List Int) (k b : Nat) : Prop where
  at_ : b < cs.length
  in_ : b < k ∨ (k = 0 ∧ b = 0)
  up : ∀ j, j < k → cs.getD j 0 < cs.getD b 0 ∨ (cs.getD j 0 = cs.getD b 0 ∧ b ≤ j)
theorem FM.start {cs : List Int} (h : 0 < cs.length) : FM cs 0 0 := ⟨h, .inr ⟨rfl, rfl⟩, fun j hj => by omega⟩
theorem FM.more {cs : List Int} {k b : Nat} (h : FM cs k b) (hk : k < cs.length) (hlt : cs.getD b 0 < cs.getD k 0) : FM cs (k + 1) k :=
  ⟨hk, .inl (by omega), fun j hj => by
    rcases Nat.lt_or_ge j k with h1 | h1
    · have := h.up j h1; omega
    · have e : j = k := by omega
      subst e; exact .inr ⟨rfl, Nat.le_refl _⟩⟩
theorem FM.same {cs : List Int} {k b : Nat} (h : FM cs k b) (hlt : ¬ cs.getD b 0 < cs.getD k 0) : FM cs (k + 1) b :=
  ⟨h.at_, .inl (by have := h.in_; omega), fun j hj => by
    rcases Nat.lt_or_ge j k with h1 | h1
    · exact h.up j h1
    · have e : j = k := by omega
      subst e
      have := h.in_
      omega⟩
end Go.Proofs.YthlhomcgjgfdhaaGreatDoor
/- jitlaw1.counted answers true. -/
namespace Go.Proofs.YthlhomcgjgfdhaaGreatDoor
open Go.RowKit

theorem gd_CellC : Tryz.prog.eqGuardType Tryz.prog.depth 39 = false := by kernel_rfl
theorem sin_CellC (d : Nat) (x y a b : Int) (w : World) : (Op.equalIn (d + 2) 39 (.agg #[.int .i64 x, .int .i64 y]) (.agg #[.int .i64 a, .int .i64 b])).run Tryz.prog w = .ok (x == a && y == b) w := by
  have u3 := Tryz.underlying3
  have a3 := Tryz.isAgg3
  have z3 := Tryz.sizeOf3
  have hS : Tryz.prog.underlying 39 = some (.struct (Tryz.prog.fieldsOf 39)) := by kernel_rfl
  have hp : Tryz.prog.stoodInHeld 39 = false := by kernel_rfl
  rw [run_equalIn_agg w (d + 1) 39 _ _ hS hp]
  simp only [Program.fieldsOf, Tryz.underlying39]
  go_simp
  by_cases h1 : x = a <;> by_cases h2 : y = b <;> simp [h1, h2]
theorem neq_CellC (x y a b : Int) (w : World) : (binOp .neq 39 (.agg #[.int .i64 x, .int .i64 y]) (.agg #[.int .i64 a, .int .i64 b])).run Tryz.prog w = .ok (.bool (!(x == a && y == b))) w := by
  rw [run_neq_struct, show (10000 : Nat) = 9998 + 2 from rfl, sin_CellC]; rfl
theorem eql_CellC (x y a b : Int) (w : World) : (binOp .eql 39 (.agg #[.int .i64 x, .int .i64 y]) (.agg #[.int .i64 a, .int .i64 b])).run Tryz.prog w = .ok (.bool (x == a && y == b)) w := by
  rw [run_eql_struct, show (10000 : Nat) = 9998 + 2 from rfl, sin_CellC]; rfl
theorem w_CellOfY (x y size : Int) (w : World) (h1 : isPtB x y = true) (h2 : outB size 1 10000 = false) :
    Calls Tryz.prog 71 #[.int .i64 x, .int .i64 y, .int .i64 size] w fun e w' => e = .returned (.tuple #[.agg #[.int .i64 (x / size), .int .i64 (y / size)], .int .i64 0]) ∧ Nx w w' := by
  have g1 := isPtB_true.1 h1
  have g2 := outB_false.1 h2
  go_enter Tryz.func71, Tryz.ntmps71
  go_wp2_with (first | (go_at_call 87; refine (w_isPoint _ _ _).mono ?_; rintro e w' ⟨rfl, rfl⟩) | (go_at_call 49; refine (w_Out _ _ _ _).mono ?_; rintro e w' ⟨rfl, rfl⟩) | (go_at_call 103; refine (w_Down _ _ _ (by omega) (by omega)).mono ?_; rintro e w' ⟨rfl, rfl⟩))
  exact bodyPost_ret (v := .tuple #[.agg #[.int .i64 (x / size), .int .i64 (y / size)], .int .i64 0]) (by simp [results, Tryz.results71, go_sem]) rfl ⟨rfl, (Nx.refl _).alloc _⟩

attribute [local go_sem ↓] neq_CellC eql_CellC
attribute [local go_sem] gd_CellC
theorem w_counted (w : World) : Calls Tryz.prog 25 #[] w fun e w' => e = .returned (.bool true) ∧ Nx w w' := by
  go_enter Tryz.func25, Tryz.ntmps25
  go_wp2_with (go_at_call 71; refine (w_CellOfY (-1) 250 100 _ (by decide) (by decide)).mono ?_; rintro e w1 ⟨rfl, hn1⟩)
  go_ret
  exact ⟨rfl, hn1.alloc _⟩
end Go.Proofs.YthlhomcgjgfdhaaGreatDoor
/- What the laws share: the end, the stream, cmp.Or of two or three. -/
namespace Go.Proofs.YthlhomcgjgfdhaaGreatDoor
open Go.RowKit

/-- The law's world: what was there stays. -/
def TrueNx (w : World) (e : Ending) (w' : World) : Prop := e = .returned (.bool true) ∧ Nx w w'

theorem str_new (A : Option Addr) (n c : Nat) (w : World) (hn : n ≤ 9223372036854775807)
    (hL : 0 < n → ∃ b off, A = some ⟨b, off, none⟩ ∧ b < w.heap.size ∧ ∀ j, j < n → ∃ z : Int, w.cell? ⟨b, off + j, none⟩ = some (.int .i64 z) ∧ -9223372036854775808 ≤ z ∧ z ≤ 9223372036854775807) :
    Str (w.alloc (.cells #[.slice A n c, .int .i64 0] 25)) w.heap.size 0 := by
  refine ⟨A, n, c, 0, Nat.le_refl _, hn, hnew rfl, fun hp => ?_⟩
  obtain ⟨b, off, e, hb, hz⟩ := hL hp
  refine ⟨b, off, e, hb, fun j hj => ?_⟩
  obtain ⟨z, h1, h2⟩ := hz j hj
  exact ⟨z, (Below.cell ((Nx.refl w).alloc _) (p := ⟨b, _, none⟩) hb).trans h1, h2⟩
end Go.Proofs.YthlhomcgjgfdhaaGreatDoor
/- Plain: the order of strings by their bytes. -/
namespace Go.Proofs.YthlhomcgjgfdhaaGreatDoor
open Go.Proofs

def ltS (a b : ByteArray) : Prop := a.data.toList < b.data.toList
theorem ltS_trans {a b c : ByteArray} (h : ltS a b) (h' : ltS b c) : ltS a c := List.lt_trans h h'
end Go.Proofs.YthlhomcgjgfdhaaGreatDoor
/- Plain: sums by key; the list of them that is sorted by key; legs split by keys. -/
namespace Go.Proofs.YthlhomcgjgfdhaaGreatDoor
open Go.Sort Go.Proofs Go.Shelf

/-- v more at key k. -/
def addK (f : ByteArray → Option Int) (k : ByteArray) (v : Int) : ByteArray → Option Int := fun k' => if k' = k then some ((f k).getD 0 + v) else f k'
/-- Nothing is below 0, nor above B. -/
def BndK (f : ByteArray → Option Int) (B : Int) : Prop := ∀ k, 0 ≤ (f k).getD 0 ∧ (f k).getD 0 ≤ B
theorem BndK.add {f : ByteArray → Option Int} {B v V : Int} (h : BndK f B) (k : ByteArray) (h0 : 0 ≤ v) (h1 : v ≤ V) : BndK (addK f k v) (B + V) := by
  intro k'
  unfold addK
  have h2 := h k
  by_cases e : k' = k
  · subst e; simp; omega
  · have := h k'
    simp [e]; omega
end Go.Proofs.YthlhomcgjgfdhaaGreatDoor
