/- Plain: a fair division: what all get is what all cost. -/
namespace Go.Proofs.YtjhmgkoghapocaaDoor
def bitN (g i : Nat) : Nat := g / 2 ^ i % 2
def szN : Nat → Nat → Nat
  | 0, _ => 0
  | n + 1, g => szN n g + bitN g n
def factN : Nat → Nat
  | 0 => 1
  | n + 1 => factN n * (n + 1)
def wN (n g : Nat) : Nat := factN (szN n g) * factN (n - 1 - szN n g)
def term (n : Nat) (cs : List Int) (g i : Nat) : Int := if bitN g i = 0 then ((wN n g : Nat) : Int) * (cs.getD (g + 2 ^ i) 0 - cs.getD g 0) else 0
def numTo (n : Nat) (cs : List Int) : Nat → Nat → Int
  | 0, _ => 0
  | g + 1, i => numTo n cs g i + term n cs g i
def sumTo (f : Nat → Int) : Nat → Int
  | 0 => 0
  | n + 1 => sumTo f n + f n
/-- the coefficient of cs[k] -/
def lin (n : Nat) (c : Nat → Int) (cs : List Int) : Int := sumTo (fun k => c k * cs.getD k 0) n
theorem all_out (n : Nat) (hn : n ≤ 5) (cs : List Int) : sumTo (fun i => numTo n cs (2 ^ n) i) n = (factN n : Nat) * (cs.getD (2 ^ n - 1) 0 - cs.getD 0 0) := by
  have e : n = 0 ∨ n = 1 ∨ n = 2 ∨ n = 3 ∨ n = 4 ∨ n = 5 := by omega
  rcases e with rfl | rfl | rfl | rfl | rfl | rfl
  · simp [sumTo, factN]
  all_goals
    simp [sumTo, factN, numTo, term, wN, szN, bitN]
    try omega
end Go.Proofs.YtjhmgkoghapocaaDoor
namespace Go.Proofs.YtjhmgkoghapocaaDoor
theorem sumTo_add (f g : Nat → Int) (n : Nat) : sumTo (fun i => f i + g i) n = sumTo f n + sumTo g n := by
  induction n with
  | zero => rfl
  | succ n ih => simp only [sumTo, ih]; omega
theorem sumTo_congr {f g : Nat → Int} {n : Nat} (h : ∀ i, i < n → f i = g i) : sumTo f n = sumTo g n := by
  induction n with
  | zero => rfl
  | succ n ih => simp only [sumTo]; rw [ih (fun i hi => h i (by omega)), h n (by omega)]
theorem sumTo_mul (F : Int) (f : Nat → Int) (n : Nat) : sumTo (fun i => F * f i) n = F * sumTo f n := by
  induction n with
  | zero => simp [sumTo]
  | succ n ih => simp only [sumTo, ih, Int.mul_add]
theorem sumTo_bd (f : Nat → Int) (n : Nat) (lo hi : Int) (h : ∀ i, i < n → lo ≤ f i ∧ f i ≤ hi) : n * lo ≤ sumTo f n ∧ sumTo f n ≤ n * hi := by
  induction n with
  | zero => simp [sumTo]
  | succ n ih =>
    have h1 := ih (fun i hi => h i (by omega))
    have h2 := h n (by omega)
    simp only [sumTo]
    have e1 : ((n + 1 : Nat) : Int) * lo = n * lo + lo := by rw [Int.natCast_succ, Int.add_mul]; omega
    have e2 : ((n + 1 : Nat) : Int) * hi = n * hi + hi := by rw [Int.natCast_succ, Int.add_mul]; omega
    omega
/-- What is left when all are rounded down: at most one for each. -/
theorem left_bd (num : Nat → Int) (n : Nat) (F c : Int) (hF : 0 < F) (hs : sumTo num n = F * c) : 0 ≤ c - sumTo (fun i => num i / F) n ∧ c - sumTo (fun i => num i / F) n ≤ n := by
  have h1 : sumTo num n = F * sumTo (fun i => num i / F) n + sumTo (fun i => num i % F) n := by
    rw [← sumTo_mul, ← sumTo_add]
    exact sumTo_congr fun i _ => (Int.mul_ediv_add_emod _ _).symm
  have h2 := sumTo_bd (fun i => num i % F) n 0 F (fun i _ => ⟨Int.emod_nonneg _ (by omega), Int.le_of_lt (Int.emod_lt_of_pos _ hF)⟩)
  generalize sumTo (fun i => num i / F) n = q at *
  generalize sumTo (fun i => num i % F) n = r at *
  have h3 : F * (c - q) = r := by rw [Int.mul_sub]; omega
  constructor
  · refine Int.le_of_mul_le_mul_left (a := F) ?_ hF
    omega
  · refine Int.le_of_mul_le_mul_left (a := F) ?_ hF
    rw [h3, Int.mul_comm F]; exact h2.2
end Go.Proofs.YtjhmgkoghapocaaDoor
