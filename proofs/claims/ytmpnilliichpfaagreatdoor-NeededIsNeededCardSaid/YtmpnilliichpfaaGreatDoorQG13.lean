/- Are all that are asked for nodes? The program and the reference. -/
import Derived.Test.YtmpnilliichpfaaGreatDoorQG6
import Derived.Test.YtmpnilliichpfaaGreatDoorQNodeK
import Derived.Test.YtmpnilliichpfaaGreatDoorQG11
import Derived.Test.YtmpnilliichpfaaGreatDoorQG1
import Derived.Deep.AppendLies
namespace Go.Proofs.YtmpnilliichpfaaGreatDoor
open Go.RowKit

theorem idxP_any {α : Type} (p : α → Bool) : ∀ (l : List α) (k : Nat), decide (0 ≤ idxP p l k) = l.any p
  | [], _ => rfl
  | n :: l, k => by
    unfold idxP
    cases h : p n with
    | true => rw [if_pos rfl, List.any_cons, h]; exact decide_eq_true (by omega)
    | false => rw [if_neg (by simp), List.any_cons, h, Bool.false_or]; exact idxP_any p l (k + 1)
set_option maxRecDepth 100000 in
set_option maxHeartbeats 1000000 in
theorem w_IndexFS (g : Nat) (p : ByteArray → Bool) (cap : Value) (eg : Enters g) (lo : Nat) (A : Option Addr) (c : Nat) (l : List ByteArray) (w : World) (hcl : ∀ (y : ByteArray) W, Nx w W → Calls Tryz.prog g #[.string y, cap] W fun e w' => e = .returned (.bool (p y)) ∧ Nx W w')
    (hR : Rd w lo A 1 encS l) (hl : l.length ≤ 65536) :
    Calls Tryz.prog 139 #[.slice A l.length c, .func (.func g) #[] #[cap]] w fun e w' => e = .returned (.int .i64 (findI p l)) ∧ Nx w w' := by
  generalize hn : l.length = n at *
  have HR := hide hR
  have HN := hide hn
  have HC0 := hide hcl
  clear hR hn hcl
  unfold Enters at eg
  go_enter Tryz.func139, Tryz.ntmps139
  go_wp2
  go_loopw [5, 8] (fun _ i wr => ∃ k : Nat, k ≤ n ∧ i = .int .i64 k ∧ Nx w wr ∧ findI p l = idxP p (l.drop k) k) (fun _ i _ => n - (intOf i).toNat)
  case atStart => exact ⟨0, Nat.zero_le _, rfl, Nx.refl _, rfl⟩
  case round =>
    obtain ⟨k, hk, rfl, hbw, hq⟩ := hrel
    have HQ := hide hq
    clear hq
    by_cases hlt : k < n
    · have hlt' : k < l.length := by have := HN.out; omega
      obtain ⟨b, off, rfl, _, hb, hbr, hc⟩ := HR.out.open_ hbw (by omega)
      have c0 : wr.cell? ⟨b, off + k, none⟩ = some (.string l[k]) := by have := hc k hlt' 0 _ rfl; simpa using this
      clear hc
      have HD := hide (idxP_drop p l k hlt')
      have hcl := fun W (h : Nx w W) => HC0.out l[k] W h
      generalize l[k] = y at *
      cases hbig : p y
      all_goals
        have HB := hide hbig
        rw [hbig] at hcl
        have HCL := hide hcl
        clear hbig hcl
        go_wp2_with (go_at_fn g; refine (HCL.out _ hbw).mono ?_; rintro e w2 ⟨rfl, hn2⟩)
      · go_roundw
        case rel => exact ⟨k + 1, by omega, by go_num, hbw.trans hn2, by rw [HQ.out, HD.out, HB.out, if_neg (by simp)]⟩
        case measure => simp [intOf]; omega
      · go_ret
        exact ⟨ret_int (by rw [HQ.out, HD.out, HB.out, if_pos rfl]), hbw.trans hn2⟩
    · go_wp2
      go_ret
      exact ⟨ret_int (by rw [HQ.out, List.drop_of_length_le (by have := HN.out; omega)]; rfl), hbw⟩
set_option maxRecDepth 100000 in
set_option maxHeartbeats 1000000 in
theorem w_ContFS (g : Nat) (p : ByteArray → Bool) (cap : Value) (eg : Enters g) (lo : Nat) (A : Option Addr) (c : Nat) (l : List ByteArray) (w : World) (hcl : ∀ (y : ByteArray) W, Nx w W → Calls Tryz.prog g #[.string y, cap] W fun e w' => e = .returned (.bool (p y)) ∧ Nx W w')
    (hR : Rd w lo A 1 encS l) (hl : l.length ≤ 65536) :
    Calls Tryz.prog 68 #[.slice A l.length c, .func (.func g) #[] #[cap]] w fun e w' => e = .returned (.bool (l.any p)) ∧ Nx w w' := by
  have HC := hide (w_IndexFS g p cap eg lo A c l w hcl hR hl)
  have HA := hide (idxP_any p l 0)
  rw [show idxP p l 0 = findI p l from rfl] at HA
  generalize findI p l = r at *
  generalize l.any p = z at *
  clear hcl eg hR hl
  generalize l.length = n at *
  have h1 := HA.out
  have h2 : decide (r ≥ 0) = z := h1
  go_enter Tryz.func68, Tryz.ntmps68
  go_wp2_with (go_at_call 139; refine HC.out.mono ?_; rintro e w2 ⟨rfl, hn2⟩)
  go_ret
  exact ⟨rfl, hn2⟩
/-- Is one no node? -/
def missB (ns : List Node) (l : List ByteArray) : Bool := l.any fun s => decide (nodeI ns s < 0)
def askF (ns : List Node) (l : List ByteArray) (most : Int) : Int := if most < (l.length : Int) then 2 else if missB ns l then 8 else 0
section
variable (g0 lo : Nat) (A : Option Addr) (c : Nat) (ns : List Node)
end
set_option maxRecDepth 100000 in
set_option maxHeartbeats 1000000 in
theorem w_nodesF1 (g0 lo : Nat) (A B C : Option Addr) (n1 n2 c1 c2 c3 : Nat) (ns : List Node) (y : ByteArray) (w : World) (h0 : w.cell? ⟨g0, 0, none⟩ = some (.slice A ns.length c1)) (h1 : w.cell? ⟨g0, 1, none⟩ = some (.slice B n1 c2)) (h2 : w.cell? ⟨g0, 2, none⟩ = some (.slice C n2 c3)) (hR : Rd w lo A 3 encNode ns) (hl : ns.length ≤ 65536) :
    Calls Tryz.prog 85 #[.string y, .pointer (some ⟨g0, 0, none⟩)] w fun e w' => e = .returned (.bool (decide (nodeI ns y < 0))) ∧ Nx w w' := by
  have HC := hide (w_NodeAt lo A B C n1 n2 c1 c2 c3 ns y w hR hl)
  clear hR
  generalize nodeI ns y = r at *
  generalize ns.length = n at *
  go_enter Tryz.func85, Tryz.ntmps85
  go_wp2_with (go_at_call 81; refine HC.out.mono ?_; rintro e w2 ⟨rfl, hn2⟩)
  go_ret
  exact ⟨rfl, hn2⟩
theorem eg_nodesF1 : Enters 85 := enters_of Tryz.func85 (by kernel_rfl) rfl
set_option maxRecDepth 100000 in
set_option maxHeartbeats 1000000 in
theorem w_NodesFault (lo : Nat) (A B C : Option Addr) (n1 n2 c1 c2 c3 : Nat) (ns : List Node) (lo2 : Nat) (D : Option Addr) (cd : Nat) (l : List ByteArray) (most : Int) (w : World) (hR : Rd w lo A 3 encNode ns) (hl : ns.length ≤ 65536) (hD : Rd w lo2 D 1 encS l) (hdl : l.length ≤ 65536) :
    Calls Tryz.prog 26 #[.agg #[.slice A ns.length c1, .slice B n1 c2, .slice C n2 c3], .slice D l.length cd, .int .i64 most] w fun e w' => e = .returned (.int .i64 (askF ns l most)) ∧ Nx w w' := by
  obtain ⟨wa, hwa⟩ : ∃ wa, wa = w.alloc (.cells #[.slice A ns.length c1, .slice B n1 c2, .slice C n2 c3] 30) := ⟨_, rfl⟩
  have hna : Nx w wa := hwa ▸ (Nx.refl w).alloc _
  have hgw : w.heap.size < wa.heap.size := by rw [hwa]; simp
  have b0 : wa.cell? ⟨w.heap.size, 0, none⟩ = some (.slice A ns.length c1) := by rw [hwa]; go_simp
  have b1 : wa.cell? ⟨w.heap.size, 1, none⟩ = some (.slice B n1 c2) := by rw [hwa]; go_simp
  have b2 : wa.cell? ⟨w.heap.size, 2, none⟩ = some (.slice C n2 c3) := by rw [hwa]; go_simp
  have HC := hide (w_ContFS 85 (fun s => decide (nodeI ns s < 0)) (.pointer (some ⟨w.heap.size, 0, none⟩)) eg_nodesF1 lo2 D cd l wa (fun y W hx => w_nodesF1 w.heap.size lo A B C n1 n2 c1 c2 c3 ns y W (nx_cell hx hgw b0) (nx_cell hx hgw b1) (nx_cell hx hgw b2) (hR.nx (hna.trans hx)) hl) (hD.nx hna) hdl)
  rw [show (l.any fun s => decide (nodeI ns s < 0)) = missB ns l from rfl] at HC
  have HF := hide (show askF ns l most = if most < (l.length : Int) then 2 else if missB ns l then 8 else 0 from rfl)
  generalize askF ns l most = F at *
  generalize missB ns l = z at *
  have HWA := hide hwa
  have HNA := hide hna
  clear hwa hna b0 b1 b2 hR hD hgw
  generalize l.length = n at *
  generalize ns.length = nn at *
  by_cases hm : most < (n : Int)
  · have tm : decide ((n : Int) > most) = true := decide_eq_true hm
    have hF := HF.out.trans (if_pos hm)
    subst hF
    clear hm
    go_enter Tryz.func26, Tryz.ntmps26
    go_wp2_with fail
    go_ret
    exact ⟨rfl, (Nx.refl _).alloc _⟩
  · have tm : decide ((n : Int) > most) = false := decide_eq_false hm
    have hF := HF.out.trans (if_neg hm)
    clear hm
    go_enter Tryz.func26, Tryz.ntmps26
    go_upto_region 3 with fail
    rw [← HWA.out]
    generalize w.heap.size = k at *
    go_wp2_with fail
    refine HC.out.mono ?_
    rintro e w2 ⟨rfl, hn2⟩
    cases z
    · rw [if_neg (by simp)] at hF
      subst hF
      go_wp2_with fail
      go_ret
      exact ⟨rfl, HNA.out.trans hn2⟩
    · rw [if_pos rfl] at hF
      subst hF
      go_wp2_with fail
      go_ret
      exact ⟨rfl, HNA.out.trans hn2⟩
end Go.Proofs.YtmpnilliichpfaaGreatDoor
/- 'out = append(out, y)' at a step of a region that draws. Of no program. -/
namespace Go.Proofs.YtmpnilliichpfaaGreatDoor
open Go.RowKit
theorem step_app {α : Type} {P : Program} {w : World} {ops : Array Oper} {o : Oper} {a : Act} {K' : Act → World → Prop} {Q : Exit → Act → World → Prop} {E' : Prop} (hgd : o.guard = none) (s x : Operand) (t : TypeId)
    (ho : o.op = .call { callee := .builtin .append, args := #[s, x], argTypes := #[t, t] })
    {e : TypeId} {K bytes : Nat} (E : ElemOf P t e K bytes) (enc : α → List Value) (hk : ∀ x, (enc x).length = K) (h1c : ∀ x, ∀ v ∈ enc x, v.oneCell' = true) (hK : 0 < K) (hB : bytes ≤ 1000)
    (base : Nat) (v : Value) (L : List α) (hs : a.eval s = v) (hown : w.ownsRow base e K v L.length (L.flatMap enc)) (g : Nat) (y : α) (cs : Array Value) (hx : a.eval x = .slice (some ⟨g, 0, none⟩) 1 1)
    (hblk : w.heap[g]? = some (.cells cs e (0, 0))) (hcs : cs.toList = enc y) (hlen : L.length ≤ 10000000) (hbase : base ≤ w.heap.size)
    (h : ∀ v' w', w'.ownsRow base e K v' (L ++ [y]).length ((L ++ [y]).flatMap enc) → w.grownBy w' v.ownBlock → (∀ b, v'.ownBlock = some b → v.ownBlock = some b ∨ b = w.heap.size) → K' (a.put o.dst v') w') :
    if Region.wanted o (yielded ops a.tmps) = true then Oper.wp P o a w K' Q else E' := by
  obtain ⟨i, z, h1, h2, h3, h4, h5⟩ := E.hi
  refine step_append_lies w hgd s x t ho base e i z K bytes E.ht h1 h2 h3 h4 h5 hK v L.length _ hs hown ⟨g, 0, none⟩ 1 1 (enc y) hx (by rw [hk]; omega) (news_of hblk hcs) (h1c y) (by omega) (by unfold maxLen; omega) ?_ hbase _ rfl ?_
  · have : (L.length + 1) * bytes ≤ 10000001 * 1000 := Nat.mul_le_mul (by omega) hB
    omega
  · intro g' cap w' ho' hg' hat _
    have e1 : (L ++ [y]).length = L.length + 1 := by simp
    refine h _ w' (by rw [e1, List.flatMap_append]; simpa using ho') hg' (fun b hb => ?_)
    have : g' = b := by simpa [Value.ownBlock] using hb
    subst this
    exact hat
/-- .. at an operation of a region that does not draw. -/
theorem wpApp2 {α : Type} {P : Program} {w : World} {ops : Array Oper} {rest : List Oper} {o : Oper} {a : Act} {Q : Exit → Act → World → Prop} (hgd : o.guard = none) (s x : Operand) (t : TypeId)
    (ho : o.op = .call { callee := .builtin .append, args := #[s, x], argTypes := #[t, t] })
    {e : TypeId} {K bytes : Nat} (E : ElemOf P t e K bytes) (enc : α → List Value) (hk : ∀ x, (enc x).length = K) (h1c : ∀ x, ∀ v ∈ enc x, v.oneCell' = true) (hK : 0 < K) (hB : bytes ≤ 1000)
    (base : Nat) (v : Value) (L : List α) (hs : a.eval s = v) (hown : w.ownsRow base e K v L.length (L.flatMap enc)) (g : Nat) (y : α) (cs : Array Value) (hx : a.eval x = .slice (some ⟨g, 0, none⟩) 1 1)
    (hblk : w.heap[g]? = some (.cells cs e (0, 0))) (hcs : cs.toList = enc y) (hlen : L.length ≤ 10000000) (hbase : base ≤ w.heap.size)
    (h : ∀ v' w', w'.ownsRow base e K v' (L ++ [y]).length ((L ++ [y]).flatMap enc) → w.grownBy w' v.ownBlock → (∀ b, v'.ownBlock = some b → v.ownBlock = some b ∨ b = w.heap.size) → wpList P ops Q rest (a.put o.dst v') w') : wpList P ops Q (o :: rest) a w := by
  obtain ⟨i, z, h1, h2, h3, h4, h5⟩ := E.hi
  refine wpList_append_lies w hgd s x t ho base e i z K bytes E.ht h1 h2 h3 h4 h5 hK v L.length _ hs hown ⟨g, 0, none⟩ 1 1 (enc y) hx (by rw [hk]; omega) (news_of hblk hcs) (h1c y) (by omega) (by unfold maxLen; omega) ?_ hbase _ rfl ?_
  · have : (L.length + 1) * bytes ≤ 10000001 * 1000 := Nat.mul_le_mul (by omega) hB
    omega
  · intro g' cap w' ho' hg' hat _
    have e1 : (L ++ [y]).length = L.length + 1 := by simp
    refine h _ w' (by rw [e1, List.flatMap_append]; simpa using ho') hg' (fun b hb => ?_)
    have : g' = b := by simpa [Value.ownBlock] using hb
    subst this
    exact hat
end Go.Proofs.YtmpnilliichpfaaGreatDoor
