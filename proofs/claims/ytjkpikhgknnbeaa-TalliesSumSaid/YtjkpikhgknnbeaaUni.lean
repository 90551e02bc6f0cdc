/- The program's functions over tallies, each in one contract for all arguments. -/
import Derived.Test.YtjkpikhgknnbeaaTal2
namespace Go.Proofs.Ytjkpikhgknnbeaa
open Go.RowKit Go.Sort Go.Shelf Go.Maps

theorem gd_Frac : Try.prog.eqGuardType Try.prog.depth 77 = false := by kernel_rfl
theorem sin_Frac (d : Nat) (x y a b : Int) (w : World) : (Op.equalIn (d + 2) 77 (.agg #[.int .i64 x, .int .i64 y]) (.agg #[.int .i64 a, .int .i64 b])).run Try.prog w = .ok (x == a && y == b) w := by
  have u3 := Try.underlying3
  have a3 := Try.isAgg3
  have z3 := Try.sizeOf3
  have hS : Try.prog.underlying 77 = some (.struct (Try.prog.fieldsOf 77)) := by kernel_rfl
  have hp : Try.prog.stoodInHeld 77 = false := by kernel_rfl
  rw [run_equalIn_agg w (d + 1) 77 _ _ hS hp]
  simp only [Program.fieldsOf, Try.underlying77]
  go_simp
  by_cases h1 : x = a <;> by_cases h2 : y = b <;> simp [h1, h2]
theorem eql_Frac (x y a b : Int) (w : World) : (binOp .eql 77 (.agg #[.int .i64 x, .int .i64 y]) (.agg #[.int .i64 a, .int .i64 b])).run Try.prog w = .ok (.bool (x == a && y == b)) w := by
  rw [run_eql_struct, show (10000 : Nat) = 9998 + 2 from rfl, sin_Frac]; rfl

/-- Tallies, or a fault: F ahead of all, then the sums. -/
def BndU (F : Int) (f : Spot → Int) (w : World) (e : Ending) (w' : World) : Prop :=
  ∃ (A : Option Addr) (c : Nat) (E : Int) (zs : List Tally), ((F ≠ 0 ∧ E = F ∧ zs = []) ∨ (F = 0 ∧ BndR f E zs)) ∧ e = .returned (.tuple #[.slice A zs.length c, .int .i64 E]) ∧ Rd w' w.heap.size A 4 encTally zs ∧ Nx w w'
theorem BndU.no {F : Int} {f : Spot → Int} {w : World} {e : Ending} {w' : World} (h : F ≠ 0) (k : TalsNo F w e w') : BndU F f w e w' := ⟨none, 0, F, [], .inl ⟨h, rfl, rfl⟩, k.1, Rd.nil, k.2⟩
theorem BndU.yes {F : Int} {f : Spot → Int} {w : World} {e : Ending} {w' : World} (h : F = 0) (k : Bnd f w e w') : BndU F f w e w' := by
  obtain ⟨A, c, E, zs, h1, h2, h3, h4⟩ := k
  exact ⟨A, c, E, zs, .inr ⟨h, h1⟩, h2, h3, h4⟩
theorem orI2_zero {a b : Int} : orI [a, b] = 0 ↔ a = 0 ∧ b = 0 := by
  rw [orI_two]; split <;> simp_all
theorem w_TogU (lo lo' : Nat) (A B : Option Addr) (c d : Nat) (a b : List Tally) (w : World) (hA : Rd w lo A 4 encTally a) (hB : Rd w lo' B 4 encTally b) (hl : a.length ≤ 100) (hl' : b.length ≤ 100) :
    Calls Try.prog 38 #[.slice A a.length c, .slice B b.length d] w (BndU (orI [talliesF a, talliesF b]) (accF ((a ++ b).map pairT)) w) := by
  by_cases h : orI [talliesF a, talliesF b] = 0
  · obtain ⟨ha, hb⟩ := orI2_zero.1 h
    exact (w_Together _ _ _ _ _ _ _ _ _ hA hB hl hl' ha hb).mono fun _ _ k => BndU.yes h k
  · exact (w_Together_no _ _ _ _ _ _ _ _ _ hA hB hl hl' h).mono fun _ _ k => BndU.no h k
def smF (a : List Tally) (self side : Int) : Int := orI [talliesF a, argF (!(outB self 0 1000 || outB side 0 1000))]
theorem w_SmoothU (lo : Nat) (A : Option Addr) (c : Nat) (a : List Tally) (self side : Int) (w : World) (hA : Rd w lo A 4 encTally a) (hl : a.length ≤ 50) :
    Calls Try.prog 40 #[.slice A a.length c, .int .i64 self, .int .i64 side] w (BndU (smF a self side) (accF (a.flatMap (conP self side))) w) := by
  unfold smF
  rw [orI_two]
  by_cases h : talliesF a = 0
  · rw [if_pos h]
    cases h2 : (outB self 0 1000 || outB side 0 1000)
    · have h3 := Bool.or_eq_false_iff.1 h2
      exact (w_Smooth _ _ _ _ _ _ _ hA hl h h3.1 h3.2).mono fun _ _ k => BndU.yes rfl k
    · exact (w_Smooth_arg _ _ _ _ _ _ _ hA (by omega) h h2).mono fun _ _ k => BndU.no (by decide) k
  · rw [if_neg h]
    exact (w_Smooth_no _ _ _ _ _ _ _ hA (by omega) h).mono fun _ _ k => BndU.no h k

def wkV (f t z h : Int) : Bool := windowB f t && !outB z (-1440) 1440 && !outB h 0 167
def wkX (f t z h : Int) : Int := if wkV f t z h then weeksI f t z h else 0
theorem wkV_true {f t z h : Int} (hv : wkV f t z h = true) : windowB f t = true ∧ outB z (-1440) 1440 = false ∧ outB h 0 167 = false := by
  unfold wkV at hv; simpa [and_assoc] using hv
theorem w_WeeksU (f t z h : Int) (w : World) :
    Calls Try.prog 42 #[.agg #[.int .i64 f, .int .i64 t], .int .i64 z, .int .i64 h] w fun e w' => e = .returned (.tuple #[.int .i64 (wkX f t z h), .int .i64 (argF (wkV f t z h))]) ∧ Nx w w' := by
  unfold wkX
  cases hv : wkV f t z h
  · exact w_Weeks_no f t z h w hv
  · obtain ⟨h1, h2, h3⟩ := wkV_true hv
    exact w_Weeks f t z h w h1 h2 h3
theorem or_weeks (f t z h : Int) : orI [argF (windowB f t), zoneF z, hourF h] = argF (wkV f t z h) := by
  unfold wkV zoneF hourF
  cases windowB f t <;> cases outB z (-1440) 1440 <;> cases outB h 0 167 <;> rfl

/-- The first fault of Expected. -/
def exF (a : List Tally) (f t z x y h : Int) : Int := orI [talliesF a, argF (windowB f t), zoneF z, ptF x y, hourF h]
theorem exF_zero {a : List Tally} {f t z x y h : Int} : exF a f t z x y h = 0 ↔ talliesF a = 0 ∧ windowB f t = true ∧ outB z (-1440) 1440 = false ∧ isPtB x y = true ∧ outB h 0 167 = false := by
  unfold exF zoneF ptF hourF
  by_cases ha : talliesF a = 0
  · cases windowB f t <;> cases outB z (-1440) 1440 <;> cases isPtB x y <;> cases outB h 0 167 <;> simp [ha, orI, argF]
  · simp [ha, orI]
theorem w_ExpA (lo : Nat) (A : Option Addr) (c : Nat) (a : List Tally) (f t z x y h : Int) (w : World) (hA : Rd w lo A 4 encTally a) (hl : a.length ≤ 100) (hx : exF a f t z x y h ≠ 0 ∨ weeksI f t z h = 0) :
    Calls Try.prog 46 #[.slice A a.length c, .agg #[.int .i64 f, .int .i64 t], .int .i64 z, .agg #[.int .i64 x, .int .i64 y], .int .i64 h] w (ExpNo (exF a f t z x y h) w) := by
  by_cases ha : talliesF a = 0
  · cases h1 : windowB f t
    · have e : exF a f t z x y h = orI [talliesF a, argF (windowB f t && !outB z (-1440) 1440)] := by unfold exF; rw [h1, ha]; rfl
      rw [e]
      exact w_Expected_no _ _ _ _ _ _ _ _ _ _ _ hA hl (by rw [h1, ha]; simp [orI, argF])
    · cases h2 : outB z (-1440) 1440
      · cases h3 : isPtB x y
        · have e : exF a f t z x y h = 1 := by unfold exF zoneF ptF; rw [h1, h2, h3, ha]; rfl
          rw [e]
          exact w_Expected_pt _ _ _ _ _ _ _ _ _ _ _ hA hl ha h1 h2 h3
        · cases h4 : outB h 0 167
          · have e : exF a f t z x y h = 0 := exF_zero.2 ⟨ha, h1, h2, h3, h4⟩
            rw [e] at hx ⊢
            exact w_Expected_none _ _ _ _ _ _ _ _ _ _ _ hA hl ha h1 h2 h3 h4 (hx.resolve_left (by simp))
          · have e : exF a f t z x y h = 1 := by unfold exF zoneF ptF hourF; rw [h1, h2, h3, h4, ha]; rfl
            rw [e]
            exact w_Expected_hour _ _ _ _ _ _ _ _ _ _ _ hA hl ha h1 h2 h3 h4
      · have e : exF a f t z x y h = orI [talliesF a, argF (windowB f t && !outB z (-1440) 1440)] := by unfold exF zoneF; rw [h1, h2, ha]; rfl
        rw [e]
        exact w_Expected_no _ _ _ _ _ _ _ _ _ _ _ hA hl (by rw [h1, h2, ha]; simp [orI, argF])
  · have e : exF a f t z x y h = orI [talliesF a, argF (windowB f t && !outB z (-1440) 1440)] := by unfold exF; simp [orI, ha]
    rw [e]
    exact w_Expected_no _ _ _ _ _ _ _ _ _ _ _ hA hl (by simp [orI, ha])
theorem w_ExpB (lo : Nat) (A : Option Addr) (c : Nat) (a : List Tally) (f t z x y h : Int) (w : World) (hA : Rd w lo A 4 encTally a) (hl : a.length ≤ 100) (hx : exF a f t z x y h = 0) (hn : weeksI f t z h ≠ 0) :
    Calls Try.prog 46 #[.slice A a.length c, .agg #[.int .i64 f, .int .i64 t], .int .i64 z, .agg #[.int .i64 x, .int .i64 y], .int .i64 h] w (ExpYes (lowV (manyI a ⟨x, y, h⟩) (weeksI f t z h)) w) := by
  obtain ⟨ha, h1, h2, h3, h4⟩ := exF_zero.1 hx
  exact w_Expected _ _ _ _ _ _ _ _ _ _ _ hA hl ha h1 h2 h3 h4 hn
theorem w_Or5 (a b d x y : Int) (g c : Nat) (w : World) (hg : w.heap[g]? = some (.cells #[.int .i64 a, .int .i64 b, .int .i64 d, .int .i64 x, .int .i64 y] 32 (0, 0))) :
    Calls Try.prog 11 #[.slice (some ⟨g, 0, none⟩) 5 c] w fun e w' => e = .returned (.int .i64 (orI [a, b, d, x, y])) ∧ w = w' := by
  have hR : Rd w 0 (some ⟨g, 0, none⟩) 1 encI [a, b, d, x, y] := Rd.lit hg (Nat.zero_le _) (fun _ => rfl) rfl
  exact w_OrE 0 _ c [a, b, d, x, y] w hR (by simp)
theorem BndU.len {F : Int} {f : Spot → Int} {E : Int} {zs : List Tally} (h : (F ≠ 0 ∧ E = F ∧ zs = []) ∨ (F = 0 ∧ BndR f E zs)) (keys : List Spot) (hk : ∀ k, 0 < f k → k ∈ keys) (hl : keys.length ≤ 400) : zs.length ≤ 65536 := by
  rcases h with ⟨_, _, rfl⟩ | ⟨_, ⟨_, _, rfl⟩ | ⟨_, ys, hL, _, rfl⟩⟩
  · simp
  · simp
  · have := listed_len hL keys hk
    split
    · omega
    · simp
theorem accF_keys {l : List (Spot × Int)} (k : Spot) (h : 0 < accF l k) : k ∈ l.map (·.1) := by
  obtain ⟨p, hp, e⟩ := accF_pos h
  exact List.mem_map.2 ⟨p, hp, e⟩
theorem conP_len (self side : Int) (a : List Tally) : (a.flatMap (conP self side)).length ≤ 5 * a.length := by
  induction a with
  | nil => simp
  | cons t a ih =>
    rw [List.flatMap_cons, List.length_append, List.length_cons]
    have hc : ∀ x y h v : Int, (cp x y h v).length ≤ 1 := fun x y h v => by unfold cp; split <;> simp
    have : (conP self side t).length ≤ 5 := by
      unfold conP
      have h1 := hc t.x t.y t.hour (self * t.many)
      have h2 := hc (t.x - 1) t.y t.hour (side * t.many)
      have h3 := hc (t.x + 1) t.y t.hour (side * t.many)
      have h4 := hc t.x (t.y - 1) t.hour (side * t.many)
      have h5 := hc t.x (t.y + 1) t.hour (side * t.many)
      simp only [List.length_append]
      omega
    omega
theorem manyI_bd {l : List Tally} (h : ∀ t ∈ l, okTally t) (s : Spot) : 0 ≤ manyI l s ∧ manyI l s ≤ 1000000000 := by
  induction l with
  | nil => simp [manyI]
  | cons t l ih =>
    have h1 := (h t (by simp)).2.2
    have h2 := ih (fun x hx => h x (List.mem_cons_of_mem _ hx))
    unfold manyI
    split <;> omega
theorem w_Lowest2 (n d : Int) (w : World) (hn : 0 ≤ n ∧ n ≤ 4611686018427387904) (hd : 1 ≤ d ∧ d ≤ 4611686018427387904) :
    Calls Try.prog 47 #[.int .i64 n, .int .i64 d] w fun e w' => e = .returned (lowV n d) ∧ Nx w w' := by
  obtain ⟨m, rfl⟩ := Int.eq_ofNat_of_zero_le hn.1
  obtain ⟨q, rfl⟩ := Int.eq_ofNat_of_zero_le (show 0 ≤ d by omega)
  have h := w_Lowest m q w (by omega) (by omega)
  unfold lowV
  simp only [Int.toNat_natCast]
  exact h
theorem sm_cases (self side : Int) :
    (decide (self < 0) = true ∧ argF (!(outB self 0 1000 || outB side 0 1000)) = 1) ∨
    (decide (self < 0) = false ∧ decide (1000 < self) = true ∧ argF (!(outB self 0 1000 || outB side 0 1000)) = 1) ∨
    (decide (self < 0) = false ∧ decide (1000 < self) = false ∧ decide (side < 0) = true ∧ argF (!(outB self 0 1000 || outB side 0 1000)) = 1) ∨
    (decide (self < 0) = false ∧ decide (1000 < self) = false ∧ decide (side < 0) = false ∧ decide (1000 < side) = true ∧ argF (!(outB self 0 1000 || outB side 0 1000)) = 1) ∨
    (decide (self < 0) = false ∧ decide (1000 < self) = false ∧ decide (side < 0) = false ∧ decide (1000 < side) = false ∧ argF (!(outB self 0 1000 || outB side 0 1000)) = 0) := by
  unfold outB argF
  by_cases h1 : self < 0 <;> by_cases h2 : 1000 < self <;> by_cases h3 : side < 0 <;> by_cases h4 : 1000 < side <;> simp [h1, h2, h3, h4] <;> omega
theorem smF_zero {a : List Tally} {self side : Int} (h : smF a self side = 0) : talliesF a = 0 ∧ outB self 0 1000 = false ∧ outB side 0 1000 = false := by
  unfold smF at h
  have h1 := orI2_zero.1 h
  refine ⟨h1.1, ?_⟩
  have h2 : ∀ b, argF b = 0 → b = true := fun b hb => by cases b <;> simp [argF] at hb ⊢
  have h3 := h2 _ h1.2
  simpa using h3
end Go.Proofs.Ytjkpikhgknnbeaa
