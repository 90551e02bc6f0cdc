/- Lists of names: the program's check and the reference's. -/
import Derived.Test.YtjhmgkoghapocaaDoorAny
import Derived.Test.YtjhmgkoghapocaaDoorZoneS
namespace Go.Proofs.YtjhmgkoghapocaaDoor
open Go.RowKit

set_option maxHeartbeats 1000000 in
theorem w_IndexFS (g : Nat) (p : ByteArray → Bool) (eg : Enters g) (hcl : ∀ (s : ByteArray) W, s.size ≤ 1000000 → Calls Tryd.prog g #[.string s] W fun e w' => e = .returned (.bool (p s)) ∧ Nx W w')
    (lo : Nat) (A : Option Addr) (c : Nat) (l : List ByteArray) (w : World) (hR : Rd w lo A 1 encS l) (hS : Small l) (hl : l.length ≤ 65536) :
    Calls Tryd.prog 91 #[.slice A l.length c, .func (.func g) #[] #[]] w fun e w' => ∃ r : Int, e = .returned (.int .i64 r) ∧ decide (0 ≤ r) = l.any p ∧ Nx w w' := by
  generalize hn : l.length = n at *
  have HR := hide hR
  have HN := hide hn
  have HC0 := hide hcl
  have HS := hide hS
  clear hR hn hcl hS
  unfold Enters at eg
  go_enter Tryd.func91, Tryd.ntmps91
  go_wp2
  go_loopw [5, 8] (fun _ i wr => ∃ k : Nat, k ≤ n ∧ i = .int .i64 k ∧ Nx w wr ∧ (l.take k).any p = false) (fun _ i _ => n - (intOf i).toNat)
  case atStart => exact ⟨0, Nat.zero_le _, rfl, Nx.refl _, rfl⟩
  case round =>
    obtain ⟨k, hk, rfl, hbw, hq⟩ := hrel
    have HQ := hide hq
    clear hq
    by_cases hlt : k < n
    · have hlt' : k < l.length := by have := HN.out; omega
      obtain ⟨b, off, rfl, _, hb, hbr, hc⟩ := HR.out.open_ hbw (by omega)
      have c0 : wr.cell? ⟨b, off + k, none⟩ = some (.string l[k]) := by have := hc k hlt' 0 _ rfl; simpa using this
      have hsz := HS.out.at k hlt'
      clear hc
      cases hbig : p l[k]
      · have HB := hide hbig
        have hcl := fun W => HC0.out l[k] W hsz
        rw [hbig] at hcl
        have HCL := hide hcl
        clear hbig hcl
        go_wp2_with (go_at_fn g; refine (HCL.out _).mono ?_; rintro e w2 ⟨rfl, hn2⟩)
        go_roundw
        case rel => exact ⟨k + 1, by omega, by go_num, hbw.trans hn2, by rw [List.take_succ_eq_append_getElem hlt', List.any_append, HQ.out]; simp [HB.out]⟩
        case measure => simp [intOf]; omega
      · have HB := hide hbig
        have hcl := fun W => HC0.out l[k] W hsz
        rw [hbig] at hcl
        have HCL := hide hcl
        clear hbig hcl
        go_wp2_with (go_at_fn g; refine (HCL.out _).mono ?_; rintro e w2 ⟨rfl, hn2⟩)
        go_ret
        refine ⟨_, rfl, ?_, hbw.trans hn2⟩
        rw [show l.any p = true from List.any_eq_true.2 ⟨l[k], List.getElem_mem hlt', HB.out⟩]
        simp
    · go_wp2
      go_ret
      refine ⟨_, rfl, ?_, hbw⟩
      have := HQ.out
      rw [List.take_of_length_le (by have := HN.out; omega)] at this
      rw [this]; rfl
theorem w_ContFS (g : Nat) (p : ByteArray → Bool) (eg : Enters g) (hcl : ∀ (s : ByteArray) W, s.size ≤ 1000000 → Calls Tryd.prog g #[.string s] W fun e w' => e = .returned (.bool (p s)) ∧ Nx W w')
    (lo : Nat) (A : Option Addr) (c : Nat) (l : List ByteArray) (w : World) (hR : Rd w lo A 1 encS l) (hS : Small l) (hl : l.length ≤ 65536) :
    Calls Tryd.prog 71 #[.slice A l.length c, .func (.func g) #[] #[]] w fun e w' => e = .returned (.bool (l.any p)) ∧ Nx w w' := by
  have hcon := fun W => w_IndexFS g p eg hcl lo A c l W
  clear hcl eg
  go_enter Tryd.func71, Tryd.ntmps71
  go_wp2_with (go_at_call 91; refine (hcon _ hR hS hl).mono ?_; rintro e w2 ⟨r, rfl, hr, hn2⟩)
  go_ret
  exact ⟨rfl, hn2⟩
def notKey (s : ByteArray) : Bool := !keyB s
theorem w_nodesF1 (s : ByteArray) (w : World) (hs : s.size ≤ 1000000) : Calls Tryd.prog 90 #[.string s] w fun e w' => e = .returned (.bool (notKey s)) ∧ Nx w w' := by
  unfold notKey
  go_enter Tryd.func90, Tryd.ntmps90
  go_wp2_with (go_at_call 65; refine (w_Key _ _ hs).mono ?_; rintro e w' ⟨rfl, rfl⟩)
  go_ret
  exact ⟨rfl, Nx.refl _⟩
theorem w_NamesF1 (s : ByteArray) (w : World) (hs : s.size ≤ 1000000) : Calls Tryd.prog 72 #[.string s] w fun e w' => e = .returned (.bool (notKey s)) ∧ Nx w w' := by
  unfold notKey
  go_enter Tryd.func72, Tryd.ntmps72
  go_wp2_with (go_at_call 64; refine (w_KeyR _ _ hs).mono ?_; rintro e w1 ⟨rfl, hn1⟩)
  go_ret
  exact ⟨rfl, hn1⟩
theorem w_KeyFault (s : ByteArray) (w : World) (hs : s.size ≤ 1000000) : Calls Tryd.prog 29 #[.string s] w fun e w' => e = .returned (.int .i64 (namF s)) ∧ Nx w w' := by
  unfold namF
  cases hk : keyB s
  all_goals
    go_enter Tryd.func29, Tryd.ntmps29
    go_wp2_with (go_at_call 64; refine (w_KeyR _ _ hs).mono ?_; rintro e w1 ⟨rfl, hn1⟩)
    go_ret
    exact ⟨rfl, hn1⟩
theorem any_notKey (l : List ByteArray) : l.any notKey = !l.all keyB := by
  induction l with
  | nil => rfl
  | cons x l ih => rw [List.any_cons, List.all_cons, ih]; unfold notKey; cases keyB x <;> simp
theorem w_nodesFault (lo : Nat) (A : Option Addr) (c : Nat) (l : List ByteArray) (w : World) (hR : Rd w lo A 1 encS l) (hS : Small l) (hl : l.length ≤ 65536) :
    Calls Tryd.prog 69 #[.slice A l.length c] w fun e w' => e = .returned (.int .i64 (namesF l 2000)) ∧ Nx w w' := by
  have hcon := w_ContFS 90 notKey (enters_of Tryd.func90 (by kernel_rfl) rfl) (fun s W hs => w_nodesF1 s W hs) lo A c l w hR hS hl
  rw [any_notKey] at hcon
  unfold namesF
  by_cases hb : 2000 < l.length
  · rw [if_pos hb]
    clear hcon
    go_enter Tryd.func69, Tryd.ntmps69
    go_wp2
    go_ret
    exact ⟨rfl, Nx.refl _⟩
  · rw [if_neg hb]
    cases hk : l.all keyB
    all_goals
      rw [hk] at hcon
      go_enter Tryd.func69, Tryd.ntmps69
      go_wp2_with (go_at_call 71; refine hcon.mono ?_; rintro e w2 ⟨rfl, hn2⟩)
      go_ret
      exact ⟨rfl, hn2⟩
theorem w_NamesFault (lo : Nat) (A : Option Addr) (c most : Nat) (l : List ByteArray) (w : World) (hR : Rd w lo A 1 encS l) (hS : Small l) (hl : l.length ≤ 65536) :
    Calls Tryd.prog 32 #[.slice A l.length c, .int .i64 (most : Int)] w fun e w' => e = .returned (.int .i64 (namesF l most)) ∧ Nx w w' := by
  have hcon := w_ContFS 72 notKey (enters_of Tryd.func72 (by kernel_rfl) rfl) (fun s W hs => w_NamesF1 s W hs) lo A c l w hR hS hl
  rw [any_notKey] at hcon
  unfold namesF
  by_cases hb : most < l.length
  · rw [if_pos hb]
    have t1 : decide ((l.length : Int) > (most : Int)) = true := decide_eq_true (by omega)
    clear hcon
    go_enter Tryd.func32, Tryd.ntmps32
    go_wp2
    go_ret
    exact ⟨rfl, Nx.refl _⟩
  · rw [if_neg hb]
    have t1 : decide ((l.length : Int) > (most : Int)) = false := decide_eq_false (by omega)
    cases hk : l.all keyB
    all_goals
      rw [hk] at hcon
      go_enter Tryd.func32, Tryd.ntmps32
      go_wp2_with (go_at_call 71; refine hcon.mono ?_; rintro e w2 ⟨rfl, hn2⟩)
      go_ret
      exact ⟨rfl, hn2⟩
end Go.Proofs.YtjhmgkoghapocaaDoor
