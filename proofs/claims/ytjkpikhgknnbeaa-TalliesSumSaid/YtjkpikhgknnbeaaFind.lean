/- A tally found: both ways. -/
import Derived.Test.YtjkpikhgknnbeaaLow
namespace Go.Proofs.Ytjkpikhgknnbeaa
open Go.RowKit Go.Sort Go.Shelf Go.Maps

attribute [local go_sem ↓] neq_Cell eql_Cell
attribute [local go_sem] gd_Cell

/-- The Many of a cell in an hour. -/
def isAt (s : Spot) (t : Tally) : Bool := (t.x == s.x && t.y == s.y) && s.h == t.hour
def manyI : List Tally → Spot → Int
  | [], _ => 0
  | t :: l, s => if isAt s t then t.many else manyI l s
theorem isAt_true {s : Spot} {t : Tally} : isAt s t = true ↔ keyT t = s := by
  obtain ⟨x, y, h⟩ := s
  unfold isAt keyT
  simp only [Bool.and_eq_true, beq_iff_eq, Spot.mk.injEq]
  constructor
  · rintro ⟨⟨h1, h2⟩, h3⟩; exact ⟨h1, h2, h3.symm⟩
  · rintro ⟨h1, h2, h3⟩; exact ⟨⟨h1, h2⟩, h3.symm⟩
theorem manyI_none {l : List Tally} {s : Spot} (h : ∀ t ∈ l, keyT t ≠ s) : manyI l s = 0 := by
  induction l with
  | nil => rfl
  | cons t l ih =>
    have h1 : isAt s t = false := by
      cases e : isAt s t
      · rfl
      · exact absurd (isAt_true.1 e) (h t (by simp))
    simp only [manyI, h1]
    exact ih (fun u hu => h u (List.mem_cons_of_mem _ hu))
theorem manyI_drop (l : List Tally) (s : Spot) (k : Nat) (hk : k < l.length) : manyI (l.drop k) s = if isAt s l[k] then l[k].many else manyI (l.drop (k + 1)) s := by
  rw [List.drop_eq_getElem_cons hk]; rfl
theorem manyI_at {l : List Tally} {s : Spot} (hp : l.Pairwise (fun a b => tallyC a b < 0)) (i : Nat) (hi : i < l.length) (h : keyT l[i] = s) : manyI l s = l[i].many := by
  induction l generalizing i with
  | nil => simp at hi
  | cons t l ih =>
    rw [List.pairwise_cons] at hp
    cases i with
    | zero =>
      have : isAt s t = true := isAt_true.2 h
      simp [manyI, this]
    | succ i =>
      have hl : i < l.length := by simpa using hi
      have h' : keyT l[i] = s := by simpa using h
      have hne : isAt s t = false := by
        cases e : isAt s t
        · rfl
        · have e1 := isAt_true.1 e
          have e2 := hp.1 l[i] (List.getElem_mem hl)
          have e4 : keyT t = keyT l[i] := e1.trans h'.symm
          have e3 := tallyC_zero.2 e4
          omega
      simp only [manyI, hne, List.getElem_cons_succ]
      exact ih hp.2 i hl h'

set_option maxRecDepth 100000 in
set_option maxHeartbeats 1000000 in
theorem w_ManyOf (lo : Nat) (A : Option Addr) (c : Nat) (l : List Tally) (x y h : Int) (w : World) (hR : Rd w lo A 4 encTally l) (hl : l.length ≤ 400) :
    Calls Try.prog 48 #[.slice A l.length c, .agg #[.int .i64 x, .int .i64 y], .int .i64 h] w fun e w' => e = .returned (.int .i64 (manyI l ⟨x, y, h⟩)) ∧ Nx w w' := by
  generalize hn : l.length = n at *
  have HR := hide hR
  have HN := hide hn
  clear hR hn
  generalize hM : manyI l ⟨x, y, h⟩ = M
  have HM := hide hM
  clear hM
  go_enter Try.func48, Try.ntmps48
  go_wp2_with fail
  obtain ⟨w2, hw2⟩ : ∃ w2, w2 = w.alloc (.cells #[.int .i64 x, .int .i64 y] 31) := ⟨_, rfl⟩
  have hN2 : Nx w w2 := by rw [hw2]; exact (Nx.refl _).alloc _
  have b0 : w2.cell? ⟨w.heap.size, 0, none⟩ = some (.int .i64 x) := by rw [hw2]; go_simp
  have b1 : w2.cell? ⟨w.heap.size, 1, none⟩ = some (.int .i64 y) := by rw [hw2]; go_simp
  have hs2 : w2.heap.size = w.heap.size + 1 := by rw [hw2]; simp
  have HB := hide (And.intro b0 b1)
  rw [← hw2]
  clear hw2 b0 b1
  go_loopw [8, 11] (fun _ i wr => ∃ k : Nat, k ≤ n ∧ i = .int .i64 k ∧ Nx w2 wr ∧ manyI (l.drop k) ⟨x, y, h⟩ = M) (fun _ i _ => n - (intOf i).toNat)
  case atStart => exact ⟨0, Nat.zero_le _, rfl, Nx.refl _, HM.out⟩
  case round =>
    obtain ⟨k, hk, rfl, hbw, hq⟩ := hrel
    have HQ := hide hq
    clear hq
    have b0 := World.grownBy.cell (hbw.gr none) HB.out.1 (by simp)
    have b1 := World.grownBy.cell (hbw.gr none) HB.out.2 (by simp)
    have hsr := hbw.sz
    have hsr2 : w.heap.size < wr.heap.size := by omega
    by_cases hlt : k < n
    · have hlt' : k < l.length := by have := HN.out; omega
      obtain ⟨b, off, rfl, _, hb, hbr, hc⟩ := HR.out.open_ (hN2.trans hbw) (by omega)
      have c0 : wr.cell? ⟨b, off + k * 4, none⟩ = some (.int .i64 l[k].x) := hc k hlt' 0 _ rfl
      have c1 : wr.cell? ⟨b, off + k * 4 + 1, none⟩ = some (.int .i64 l[k].y) := hc k hlt' 1 _ rfl
      have c2 : wr.cell? ⟨b, off + k * 4 + 2, none⟩ = some (.int .i64 l[k].hour) := hc k hlt' 2 _ rfl
      have c3 : wr.cell? ⟨b, off + k * 4 + 3, none⟩ = some (.int .i64 l[k].many) := hc k hlt' 3 _ rfl
      clear hc
      have HD := hide (manyI_drop l ⟨x, y, h⟩ k hlt')
      generalize l[k] = t at *
      cases t1 : (t.x == x && t.y == y)
      · have e1 : isAt ⟨x, y, h⟩ t = false := by unfold isAt; rw [t1]; rfl
        have HE := hide e1
        clear e1
        go_wp2
        go_roundw
        case rel => exact ⟨k + 1, by omega, by go_num, hbw.alloc _, by have := HQ.out; rw [HD.out, HE.out] at this; exact this⟩
        case measure => simp [intOf]; omega
      · cases t2 : (h == t.hour)
        · have e1 : isAt ⟨x, y, h⟩ t = false := by unfold isAt; rw [t1, t2]; rfl
          have HE := hide e1
          clear e1
          go_wp2
          go_roundw
          case rel => exact ⟨k + 1, by omega, by go_num, hbw.alloc _, by have := HQ.out; rw [HD.out, HE.out] at this; exact this⟩
          case measure => simp [intOf]; omega
        · have e1 : isAt ⟨x, y, h⟩ t = true := by unfold isAt; rw [t1, t2]; rfl
          have HE := hide e1
          clear e1
          go_wp2
          go_ret
          exact ⟨ret_int (by have := HQ.out; rw [HD.out, HE.out] at this; exact this), hN2.trans (hbw.alloc _)⟩
    · go_wp2
      go_ret
      exact ⟨ret_int (by have := HQ.out; rw [List.drop_of_length_le (by have := HN.out; omega)] at this; exact this), hN2.trans hbw⟩
end Go.Proofs.Ytjkpikhgknnbeaa
