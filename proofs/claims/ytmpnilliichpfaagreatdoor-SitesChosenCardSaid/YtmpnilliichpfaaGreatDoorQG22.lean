/- When one is at a node, remembered. -/
import Derived.Test.YtmpnilliichpfaaGreatDoorQG14
import Derived.Test.YtmpnilliichpfaaGreatDoorQG0
import Derived.Deep.DeepCutAuto
import Derived.Test.YtmpnilliichpfaaGreatDoorQG21
import Derived.Test.YtmpnilliichpfaaGreatDoorQG13
import Derived.Test.YtmpnilliichpfaaGreatDoorQG15
import Derived.Deep.Onto
import Derived.Test.YtmpnilliichpfaaGreatDoorQG8
import Derived.Test.YtmpnilliichpfaaGreatDoorQNodeK
import Derived.Test.YtmpnilliichpfaaGreatDoorQG1
import Derived.Test.YtmpnilliichpfaaGreatDoorQG6
import Derived.Test.YtmpnilliichpfaaGreatDoorQG17
import Derived.Test.YtmpnilliichpfaaGreatDoorQArcT
import Derived.Test.YtmpnilliichpfaaGreatDoorQBanQ
import Derived.Deep.LoopGhost
namespace Go.Proofs.YtmpnilliichpfaaGreatDoor
open Go.RowKit Go.Maps

def ArrOut (w0 w : World) (bt b n bm nn m : Nat) (G : Gph) (Ex : Nat → Prop) (v : Int) (e : Ending) (w' : World) : Prop := ∃ (n' : Nat) (f' : Int × Int → Option (Option Nat)), e = .returned (.int .i64 v) ∧ TripsR w0 w' bt b n' f' bm nn m G Ex ∧ n' ≤ n + 1 ∧ Gr b w w'
set_option maxRecDepth 100000 in
set_option maxHeartbeats 4000000 in
theorem w_Arrive (w0 w : World) (bt b n : Nat) (f : Int × Int → Option (Option Nat)) (bm g0 lo : Nat) (A B C : Option Addr) (ca cb cc : Nat) (M : MapA) (ns : List Node) (rs : List Arc) (bs : List Ban) (fr to_ : ByteArray) (ad : Int) (Ex : Nat → Prop)
    (hM : MapR w0 bm g0 lo A B C ca cb cc M ns rs bs) (hC : chk (arcF ns) none rs = 0) (hSN : SortN ns) (hds : ∀ s, 0 ≤ nodeI ns s → domS s) (hT : TripsR w0 w bt b n f bm ns.length rs.length (gphOf ns rs bs) Ex) (hEx : ∀ x, Ex x → x < w.heap.size) (hf : 0 ≤ nodeI ns fr) (ht : 0 ≤ nodeI ns to_) (hnl : ns.length ≤ 400) (ha : 0 ≤ ad ∧ ad ≤ 345686399999) (hn : n < 1000000) :
    Calls Tryz.prog 142 #[.pointer (some ⟨bt, 0, none⟩), .string fr, .string to_, .int .i64 ad] w (ArrOut w0 w bt b n bm ns.length rs.length (gphOf ns rs bs) Ex (gi (searchG (gphOf ns rs bs) (nodeN ns fr) ad).first (nodeN ns to_))) := by
  have hi : nodeN ns fr < ns.length := nodeN_lt hf
  have hj : nodeN ns to_ < ns.length := nodeN_lt ht
  have e1 : nodeI ns fr = ((nodeN ns fr : Nat) : Int) := by unfold nodeN; omega
  have e2 : nodeI ns to_ = ((nodeN ns to_ : Nat) : Int) := by unfold nodeN; omega
  have hF := search_found (gph_ok (bs := bs) hC) ha.1 (show nodeN ns fr < (gphOf ns rs bs).nn from hi)
  have HLKf := hide (fun W (hx : Nx w0 W) => look_run (hM.m1.nx hx) (hds fr hf) ((mapN_get hSN hf).trans (congrArg some e1)))
  have HLKt := hide (fun W (hx : Nx w0 W) => look_run (hM.m1.nx hx) (hds to_ ht) ((mapN_get hSN ht).trans (congrArg some e2)))
  have HTR := hide (fun W (hx : Nx w W) => w_Tree w0 W bt b n f bm g0 lo A B C ca cb cc M ns rs bs (nodeN ns fr) ad Ex hM hC (hT.step hx) (fun x hx2 => Nat.lt_of_lt_of_le (hEx x hx2) hx.sz) hi hnl ha hn)
  have HT := hide hT
  have HS := hide (fun W (hx : Nx w W) => (⟨nx_cell hx hT.lt ((cell_of_row w _ 0 _ _ _ hT.blk).trans rfl), nx_cell (hT.nx.trans hx) hM.lt hM.c1⟩ : W.cell? ⟨bt, 0, none⟩ = some (.pointer (some ⟨bm, 0, none⟩)) ∧ W.cell? ⟨bm, 1, none⟩ = some (.map (some M.b1))))
  have HFA := hide (hF.f0.1)
  have te : decide (ad ≥ 345686400000) = false := decide_eq_false (by omega)
  have te2 : decide (345686400000 ≤ ad) = false := decide_eq_false (by omega)
  clear hM hC hSN hds hT hEx hF e1 e2 hf ht
  generalize nodeN ns fr = i at *
  generalize nodeN ns to_ = j at *
  generalize gphOf ns rs bs = G at *
  generalize ns.length = nn at *
  generalize rs.length = m at *
  go_enter Tryz.func142, Tryz.ntmps142
  go_upto_region 3 with fail
  go_cut [9, 10] (fun u v wx => u = .int .i64 (i : Int) ∧ v = .int .i64 (j : Int) ∧ Nx w wx ∧ wx = w.drew)
  case first =>
    refine wp_region_held_drew (S := fun w' => (w'.cell? ⟨bt, 0, none⟩ = some (.pointer (some ⟨bm, 0, none⟩)) ∧ w'.cell? ⟨bm, 1, none⟩ = some (.map (some M.b1))) ∧ (Instr.lookup 210 (.map (some M.b1)) (.string fr) false).run Tryz.prog w' = .ok (.int .i64 (i : Int)) w' ∧ (Instr.lookup 210 (.map (some M.b1)) (.string to_) false).run Tryz.prog w' = .ok (.int .i64 (j : Int)) w') (by kernel_rfl) ?_ (fun hHeld => ?_)
    · exact ⟨HS.out _ (Nx.refl _).drew, HLKf.out _ (HT.out.nx.drew), HLKt.out _ (HT.out.nx.drew)⟩
    refine wpAnyH_take (i := 0) (oi := ⟨some 13, _, _, _, _, _⟩) (v := ?_) rfl (by kernel_rfl) (by kernel_rfl) (by kernel_rfl) (fun _ _ _ h => h) (Or.inl ⟨by rfl, ?_⟩) (by assumption) ?_
    rotate_left 1
    · intro w hSw
      (try dsimp only at hSw)
      go_simp
      try with_reducible rfl
    try simp only [Act.put, List.setIfInBounds_toArray, List.set_cons_zero, List.set_cons_succ]
    refine wpAnyH_take (i := 1) (oi := ⟨some 14, _, _, _, _, _⟩) (v := ?_) rfl (by kernel_rfl) (by kernel_rfl) (by kernel_rfl) (fun _ _ _ h => h) (Or.inl ⟨by rfl, ?_⟩) (by assumption) ?_
    rotate_left 1
    · intro w hSw
      (try dsimp only at hSw)
      go_simp
      try with_reducible rfl
    try simp only [Act.put, List.setIfInBounds_toArray, List.set_cons_zero, List.set_cons_succ]
    refine wpAnyH_take (i := 2) (oi := ⟨some 15, _, _, _, _, _⟩) (v := ?_) rfl (by kernel_rfl) (by kernel_rfl) (by kernel_rfl) (fun _ _ _ h => h) (Or.inl ⟨by rfl, ?_⟩) (by assumption) ?_
    rotate_left 1
    · intro w hSw
      (try dsimp only at hSw)
      go_simp
      try with_reducible rfl
    try simp only [Act.put, List.setIfInBounds_toArray, List.set_cons_zero, List.set_cons_succ]
    refine wpAnyH_take (i := 3) (oi := ⟨some 16, _, _, _, _, _⟩) (v := ?_) rfl (by kernel_rfl) (by kernel_rfl) (by kernel_rfl) (fun _ _ _ h => h) (Or.inl ⟨by rfl, ?_⟩) (by assumption) ?_
    rotate_left 1
    · intro w hSw
      (try dsimp only at hSw)
      go_simp
      try with_reducible rfl
    try simp only [Act.put, List.setIfInBounds_toArray, List.set_cons_zero, List.set_cons_succ]
    refine wpAnyH_take (i := 4) (oi := ⟨some 17, _, _, _, _, _⟩) (v := ?_) rfl (by kernel_rfl) (by kernel_rfl) (by kernel_rfl) (fun _ _ _ h => h) (Or.inl ⟨by rfl, ?_⟩) (by assumption) ?_
    rotate_left 1
    · intro w hSw
      (try dsimp only at hSw)
      go_simp
      try with_reducible rfl
    try simp only [Act.put, List.setIfInBounds_toArray, List.set_cons_zero, List.set_cons_succ]
    refine wpAnyH_take (i := 5) (oi := ⟨some 18, _, _, _, _, _⟩) (v := ?_) rfl (by kernel_rfl) (by kernel_rfl) (by kernel_rfl) (fun _ _ _ h => h) (Or.inl ⟨by rfl, ?_⟩) (by assumption) ?_
    rotate_left 1
    · intro w hSw
      (try dsimp only at hSw)
      go_simp
      try with_reducible rfl
    try simp only [Act.put, List.setIfInBounds_toArray, List.set_cons_zero, List.set_cons_succ]
    refine wpAnyH_take (i := 6) (oi := ⟨some 19, _, _, _, _, _⟩) (v := ?_) rfl (by kernel_rfl) (by kernel_rfl) (by kernel_rfl) (fun _ _ _ h => h) (Or.inl ⟨by rfl, ?_⟩) (by assumption) ?_
    rotate_left 1
    · intro w hSw
      (try dsimp only at hSw)
      go_simp
      try with_reducible rfl
    try simp only [Act.put, List.setIfInBounds_toArray, List.set_cons_zero, List.set_cons_succ]
    refine wpAnyH_take (i := 7) (oi := ⟨some 20, _, _, _, _, _⟩) (v := ?_) rfl (by kernel_rfl) (by kernel_rfl) (by kernel_rfl) (fun _ _ _ h => h) (Or.inl ⟨by rfl, ?_⟩) (by assumption) ?_
    rotate_left 1
    · intro w hSw
      (try dsimp only at hSw)
      go_simp
      try with_reducible rfl
    try simp only [Act.put, List.setIfInBounds_toArray, List.set_cons_zero, List.set_cons_succ]
    refine wpAnyH_take (i := 8) (oi := ⟨some 21, _, _, _, _, _⟩) (v := ?_) rfl (by kernel_rfl) (by kernel_rfl) (by kernel_rfl) (fun _ _ _ h => h) (Or.inl ⟨by rfl, ?_⟩) (by assumption) ?_
    rotate_left 1
    · intro w hSw
      (try dsimp only at hSw)
      go_simp
      try with_reducible rfl
    try simp only [Act.put, List.setIfInBounds_toArray, List.set_cons_zero, List.set_cons_succ]
    refine wpAnyH_take (i := 9) (oi := ⟨some 22, _, _, _, _, _⟩) (v := ?_) rfl (by kernel_rfl) (by kernel_rfl) (by kernel_rfl) (fun _ _ _ h => h) (Or.inl ⟨by rfl, ?_⟩) (by assumption) ?_
    rotate_left 1
    · intro w hSw
      (try dsimp only at hSw)
      go_simp
      try with_reducible rfl
    try simp only [Act.put, List.setIfInBounds_toArray, List.set_cons_zero, List.set_cons_succ]
    refine wpAnyH_take (i := 10) (oi := ⟨some 23, _, _, _, _, _⟩) (v := ?_) rfl (by kernel_rfl) (by kernel_rfl) (by kernel_rfl) (fun _ _ _ h => h) (Or.inl ⟨by rfl, ?_⟩) (by assumption) ?_
    rotate_left 1
    · intro w hSw
      (try dsimp only at hSw)
      go_simp
      try with_reducible rfl
    try simp only [Act.put, List.setIfInBounds_toArray, List.set_cons_zero, List.set_cons_succ]
    refine wpAnyH_take (i := 11) (oi := ⟨some 24, _, _, _, _, _⟩) (v := ?_) rfl (by kernel_rfl) (by kernel_rfl) (by kernel_rfl) (fun _ _ _ h => h) (Or.inl ⟨by rfl, ?_⟩) (by assumption) ?_
    rotate_left 1
    · intro w hSw
      (try dsimp only at hSw)
      go_simp
      try with_reducible rfl
    try simp only [Act.put, List.setIfInBounds_toArray, List.set_cons_zero, List.set_cons_succ]
    refine wpAnyH_take (i := 12) (oi := ⟨some 25, _, _, _, _, _⟩) (v := ?_) rfl (by kernel_rfl) (by kernel_rfl) (by kernel_rfl) (fun _ _ _ h => h) (Or.inl ⟨by rfl, ?_⟩) (by assumption) ?_
    rotate_left 1
    · intro w hSw
      (try dsimp only at hSw)
      go_simp
      try with_reducible rfl
    try simp only [Act.put, List.setIfInBounds_toArray, List.set_cons_zero, List.set_cons_succ]
    refine wpAnyH_take (i := 13) (oi := ⟨some 26, _, _, _, _, _⟩) (v := ?_) rfl (by kernel_rfl) (by kernel_rfl) (by kernel_rfl) (fun _ _ _ h => h) (Or.inl ⟨by rfl, ?_⟩) (by assumption) ?_
    rotate_left 1
    · intro w hSw
      (try dsimp only at hSw)
      go_simp
      try with_reducible rfl
    try simp only [Act.put, List.setIfInBounds_toArray, List.set_cons_zero, List.set_cons_succ]
    refine wpAnyH_take (i := 14) (oi := ⟨some 27, _, _, _, _, _⟩) (v := ?_) rfl (by kernel_rfl) (by kernel_rfl) (by kernel_rfl) (fun _ _ _ h => h) (Or.inl ⟨by rfl, ?_⟩) (by assumption) ?_
    rotate_left 1
    · intro w hSw
      (try dsimp only at hSw)
      go_simp
      try with_reducible rfl
    try simp only [Act.put, List.setIfInBounds_toArray, List.set_cons_zero, List.set_cons_succ]
    refine wpAnyH_take (i := 15) (oi := ⟨some 28, _, _, _, _, _⟩) (v := ?_) rfl (by kernel_rfl) (by kernel_rfl) (by kernel_rfl) (fun _ _ _ h => h) (Or.inl ⟨by rfl, ?_⟩) (by assumption) ?_
    rotate_left 1
    · intro w hSw
      (try dsimp only at hSw)
      go_simp
      try with_reducible rfl
    try simp only [Act.put, List.setIfInBounds_toArray, List.set_cons_zero, List.set_cons_succ]
    refine wpAnyH_take (i := 16) (oi := ⟨some 29, _, _, _, _, _⟩) (v := ?_) rfl (by kernel_rfl) (by kernel_rfl) (by kernel_rfl) (fun _ _ _ h => h) (Or.inl ⟨by rfl, ?_⟩) (by assumption) ?_
    rotate_left 1
    · intro w hSw
      (try dsimp only at hSw)
      go_simp
      try with_reducible rfl
    try simp only [Act.put, List.setIfInBounds_toArray, List.set_cons_zero, List.set_cons_succ]
    refine wpAnyH_take (i := 17) (oi := ⟨some 30, _, _, _, _, _⟩) (v := ?_) rfl (by kernel_rfl) (by kernel_rfl) (by kernel_rfl) (fun _ _ _ h => h) (Or.inl ⟨by rfl, ?_⟩) (by assumption) ?_
    rotate_left 1
    · intro w hSw
      (try dsimp only at hSw)
      go_simp
      try with_reducible rfl
    try simp only [Act.put, List.setIfInBounds_toArray, List.set_cons_zero, List.set_cons_succ]
    refine wpAnyH_take (i := 18) (oi := ⟨some 9, _, _, _, _, _⟩) (v := ?_) rfl (by kernel_rfl) (by kernel_rfl) (by kernel_rfl) (fun _ _ _ h => h) (Or.inl ⟨by rfl, ?_⟩) (by assumption) ?_
    rotate_left 1
    · intro w hSw
      (try dsimp only at hSw)
      go_simp
      try with_reducible rfl
    try simp only [Act.put, List.setIfInBounds_toArray, List.set_cons_zero, List.set_cons_succ]
    refine wpAnyH_take (i := 19) (oi := ⟨some 10, _, _, _, _, _⟩) (v := ?_) rfl (by kernel_rfl) (by kernel_rfl) (by kernel_rfl) (fun _ _ _ h => h) (Or.inl ⟨by rfl, ?_⟩) (by assumption) ?_
    rotate_left 1
    · intro w hSw
      (try dsimp only at hSw)
      go_simp
      try with_reducible rfl
    try simp only [Act.put, List.setIfInBounds_toArray, List.set_cons_zero, List.set_cons_succ]
    refine wpAnyH_done (by kernel_rfl) ?_ _
    go_wp2
    go_meet
    exact ⟨rfl, rfl, (Nx.refl _).drew, rfl⟩
  case rest =>
    obtain ⟨rfl, rfl, hx, rfl⟩ := hcut
    by_cases hij : i = j
    · subst hij
      have tq : ((i : Int) == (i : Int)) = true := by simp
      have HF := HFA.out
      generalize gi (searchG G i ad).first i = z at *
      subst HF
      go_wp2_with fail
      go_ret
      exact ⟨n, f, rfl, HT.out.step hx, by omega, Gr.of_nx hx⟩
    · have tq : ((i : Int) == (j : Int)) = false := by rw [beq_eq_false_iff_ne]; omega
      have HR := hide (HTR.out _ hx)
      clear HTR hij
      go_wp2_with fail
      refine HR.out.mono ?_
      rintro e w3 ⟨a, n', f', rfl, hTR, hT3, hn3, hg3⟩
      have t3 : w3.cell? ⟨a.T, 3, none⟩ = some (.slice (some ⟨a.gF, 0, none⟩) nn nn) := (cell_of_row w3 _ 3 _ _ _ hTR.hT).trans rfl
      have x0 := intRow_cell hTR.hF (i := j) (by rw [hTR.lF]; exact hj)
      have hTl := lt_of_heap hTR.hT
      have hFl := lt_of_heap hTR.hF
      have i1 : (0 : Int) ≤ (j : Int) := by omega
      have i2 : (j : Int) < (nn : Int) := by omega
      have HT3 := hide hT3
      have HG3 := hide hg3
      clear hTR hT3 hg3 HT HS HR
      generalize gi (searchG G i ad).first j = z at *
      go_wp2_with fail
      go_ret
      exact ⟨n', f', rfl, HT3.out, hn3, (Gr.of_nx hx).trans HG3.out⟩
end Go.Proofs.YtmpnilliichpfaaGreatDoor
/- The node from which another one is reached first: the program. -/
namespace Go.Proofs.YtmpnilliichpfaaGreatDoor
open Go.RowKit

def nearV (p : Int × Int) (F : Int) : Value := .tuple #[.int .i64 (if p.1 < 0 then 0 else p.1), .int .i64 (if p.1 < 0 then 0 else p.2), .bool (decide (0 ≤ p.1)), .int .i64 F]
end Go.Proofs.YtmpnilliichpfaaGreatDoor
/- Which weights are reached from a node: the program. -/
namespace Go.Proofs.YtmpnilliichpfaaGreatDoor
open Go.RowKit

def reachB (ns : List Node) (rs : List Arc) (bs : List Ban) (ad wi : Int) (s t : ByteArray) : Bool := decide (arrS ns rs bs s t ad < endT ∧ arrS ns rs bs s t ad - ad ≤ wi)
theorem el_Bo : ElemOf Tryz.prog 129 4 1 1 := ElemOf.mk' (z := .bool false) Tryz.underlying129 (by kernel_rfl) rfl
def ReachedOut (w0 w : World) (bt b q bm nn m : Nat) (G : Gph) (Ex : Nat → Prop) (row : List Bool) (e : Ending) (w' : World) : Prop := ∃ (v : Value) (q' : Nat) (f' : Int × Int → Option (Option Nat)), e = .returned v ∧ w'.ownsRow w.heap.size 4 1 v row.length (row.flatMap encBo) ∧ TripsR w0 w' bt b q' f' bm nn m G (fun x => Ex x ∨ v.ownBlock = some x) ∧ q' ≤ q + row.length ∧ Gr b w w'
set_option maxRecDepth 100000 in
set_option maxHeartbeats 4000000 in
theorem w_reached (w0 w : World) (bt b q : Nat) (f : Int × Int → Option (Option Nat)) (bm g0 lo : Nat) (A B C : Option Addr) (ca cb cc : Nat) (M : MapA) (ns : List Node) (rs : List Arc) (bs : List Ban) (fr : ByteArray) (lo2 : Nat) (D : Option Addr) (cd : Nat) (l : List Wgt) (ad wi : Int) (Ex : Nat → Prop)
    (hM : MapR w0 bm g0 lo A B C ca cb cc M ns rs bs) (hC : chk (arcF ns) none rs = 0) (hSN : SortN ns) (hds : ∀ s, 0 ≤ nodeI ns s → domS s) (hT : TripsR w0 w bt b q f bm ns.length rs.length (gphOf ns rs bs) Ex) (hEx : ∀ x, Ex x → x < w.heap.size) (hf : 0 ≤ nodeI ns fr) (hnl : ns.length ≤ 400) (ha : 0 ≤ ad ∧ ad ≤ 345686399999) (_hwi : 0 ≤ wi ∧ wi ≤ 86400000)
    (hD : Rd w0 lo2 D 2 encW l) (hl : l.length ≤ 500) (hb : ∀ x ∈ l, 0 ≤ nodeI ns x.node) (hq : q + l.length < 1000000) :
    Calls Tryz.prog 74 #[.pointer (some ⟨bt, 0, none⟩), .string fr, .slice D l.length cd, .int .i64 ad, .int .i64 wi] w (ReachedOut w0 w bt b q bm ns.length rs.length (gphOf ns rs bs) Ex (l.map fun x => reachB ns rs bs ad wi fr x.node)) := by
  have HAR := hide (fun W n f (Ex' : Nat → Prop) (hT : TripsR w0 W bt b n f bm ns.length rs.length (gphOf ns rs bs) Ex') (hx : ∀ x, Ex' x → x < W.heap.size) t (ht : 0 ≤ nodeI ns t) hn => w_Arrive w0 W bt b n f bm g0 lo A B C ca cb cc M ns rs bs fr t ad Ex' hM hC hSN hds hT hx hf ht hnl ha hn)
  have HIX := hide (fun t (ht : 0 ≤ nodeI ns t) => (show (gi (searchG (gphOf ns rs bs) (nodeN ns fr) ad).first (nodeN ns t) < 0 ∧ arrS ns rs bs fr t ad = endT) ∨ (0 ≤ gi (searchG (gphOf ns rs bs) (nodeN ns fr) ad).first (nodeN ns t) ∧ arrS ns rs bs fr t ad = gi (searchG (gphOf ns rs bs) (nodeN ns fr) ad).first (nodeN ns t) ∧ gi (searchG (gphOf ns rs bs) (nodeN ns fr) ad).first (nodeN ns t) < endT ∧ ad ≤ gi (searchG (gphOf ns rs bs) (nodeN ns fr) ad).first (nodeN ns t)) from arr_ix (bs := bs) hC (nodeN_lt hf) (nodeN_lt ht) ha.1 (by unfold endT; omega)))
  have HB := hide hb
  have HDD := hide hD
  have HTT0 := hide hT
  have HXX := hide hEx
  have HMB := hide ha
  have HBS := hide (show b < w.heap.size from hT.mp.lt)
  clear hM hC hSN hds hT hEx hf hnl hb hD ha
  obtain ⟨P, hP⟩ : ∃ P : ByteArray → Bool, P = reachB ns rs bs ad wi fr := ⟨_, rfl⟩
  have HPV := hide (fun t (ht : 0 ≤ nodeI ns t) => (show P t = decide (0 ≤ gi (searchG (gphOf ns rs bs) (nodeN ns fr) ad).first (nodeN ns t) ∧ gi (searchG (gphOf ns rs bs) (nodeN ns fr) ad).first (nodeN ns t) - ad ≤ wi) by
    rw [hP]; unfold reachB; exact (decide_eq_decide.2 (reach_test (HIX.out t ht))).symm))
  have HZB := hide (fun t (ht : 0 ≤ nodeI ns t) => (show gi (searchG (gphOf ns rs bs) (nodeN ns fr) ad).first (nodeN ns t) < 345686400000 by have h := HIX.out t ht; unfold endT at h; omega))
  rw [show (fun x : Wgt => reachB ns rs bs ad wi fr x.node) = fun x => P x.node by rw [hP]]
  clear hP HIX
  generalize gphOf ns rs bs = G at *
  generalize ns.length = nn at *
  generalize rs.length = m at *
  obtain ⟨ROW, hROW⟩ : ∃ ROW, ROW = l.map (fun x => P x.node) := ⟨_, rfl⟩
  have HRL := hide (show ROW.length = l.length by rw [hROW, List.length_map])
  rw [← hROW]
  have HROW := hide hROW
  clear hROW
  generalize hln : l.length = n at *
  have HLN := hide hln
  clear hln
  go_enter Tryz.func74, Tryz.ntmps74
  go_wp2_with fail
  go_loopw [11, 17] (fun vr u wi' => ∃ (j : Nat) (acc : List Bool) (q' : Nat) (fm' : Int × Int → Option (Option Nat)), j ≤ n ∧ u = .int .i64 j ∧ acc.length = j ∧ ROW = acc ++ (l.drop j).map (fun x => P x.node) ∧ wi'.ownsRow w.heap.size 4 1 vr acc.length (acc.flatMap encBo) ∧ TripsR w0 wi' bt b q' fm' bm nn m G (fun x => Ex x ∨ vr.ownBlock = some x) ∧ q' ≤ q + j ∧ Gr b w wi') (fun _ u _ => n - (intOf u).toNat)
  case atStart => exact ⟨0, [], q, f, Nat.zero_le _, rfl, rfl, HROW.out, World.ownsRow_nil _ _ _ _, HTT0.out.more (fun x h => .inl (h.elim id (fun h => by cases h))), Nat.le_refl _, Gr.refl _ _⟩
  case round =>
    obtain ⟨j, acc, q', fm', hj, rfl, hac, hqr, hown, hT, hqj, hgw⟩ := hrel
    have HQR := hide hqr
    have HTI := hide hT
    have HOI := hide hown
    have HGW := hide hgw
    have HAC := hide hac
    have hszi : w.heap.size ≤ wr.heap.size := hgw.sz
    have hbs : b < wr.heap.size := Nat.lt_of_lt_of_le HBS.out hgw.sz
    clear hqr hT hown hgw hac
    by_cases hlj : j < n
    · have hlj' : j < l.length := by have := HLN.out; omega
      have hwi2 := HTI.out.nx
      obtain ⟨yb, yo, rfl, _, hyb, hyb1, hyc⟩ := HDD.out.open_ hwi2 (by omega)
      have c0 : wr.cell? ⟨yb, yo + j * 2, none⟩ = some (.string l[j].node) := hyc j hlj' 0 _ rfl
      have c1 : wr.cell? ⟨yb, yo + j * 2 + 1, none⟩ = some (.int .i64 l[j].many) := hyc j hlj' 1 _ rfl
      have HDJ := hide (map_drop (fun x : Wgt => P x.node) l j hlj')
      have ht := HB.out _ (List.getElem_mem hlj')
      have hpv := HPV.out _ ht
      have hzb := HZB.out _ ht
      have HA := hide (HAR.out (wr.alloc (.cells #[.string l[j].node, .int .i64 l[j].many] 117)) q' fm' _ (HTI.out.step ((Nx.refl wr).alloc _)) (fun x hx => Nat.lt_of_lt_of_le (hx.elim (fun h => Nat.lt_of_lt_of_le (HXX.out x h) hszi) (fun h => (HOI.out.lt x h).2)) (by simp)) l[j].node ht (by omega))
      have HOA := hide (HOI.out.alloc (.cells #[.string l[j].node, .int .i64 l[j].many] 117))
      have HGA := hide (HGW.out.alloc (.cells #[.string l[j].node, .int .i64 l[j].many] 117))
      clear hyc ht hwi2
      generalize l[j].node = t at *
      generalize gi (searchG G (nodeN ns fr) ad).first (nodeN ns t) = z at *
      have hbs2 : b < (wr.alloc (.cells #[.string t, .int .i64 l[j].many] 117)).heap.size := by simp; omega
      have HX2 := hide (fun x (hx : u11.ownBlock = some x) => (show w0.heap.size ≤ x by have h1 := (HOI.out.lt x hx).1; have h2 := HTT0.out.nx.sz; omega))
      clear HPV
      go_wp2_with fail
      refine HA.out.mono ?_
      rintro e w7 ⟨q7, fm7, rfl, hT7, hq7, hg7⟩
      have HT7 := hide hT7
      have HG7 := hide hg7
      have hO7 := own_gr HOA.out hg7 HBS.out
      have HO7 := hide hO7
      have hwz7 : w.heap.size ≤ w7.heap.size := Nat.le_trans hszi (Nat.le_trans (by simp) hg7.sz)
      clear hT7 hg7 c0 c1 HA hO7
      by_cases h1 : 0 ≤ z
      · have e1 : decide (z ≥ 0) = true := decide_eq_true h1
        have e1' : decide (0 ≤ z) = true := decide_eq_true h1
        have k1 : IntKind.i64.wrap (z - ad) = z - ad := IntWalk.i64_in _ (by have := HMB.out; omega)
        by_cases h2 : z - ad ≤ wi
        · have e2 : decide (z - ad ≤ wi) = true := decide_eq_true h2
          have HPV := hide (show P t = true by rw [hpv]; exact decide_eq_true ⟨h1, h2⟩)
          clear h1 h2 hpv
          go_wp2_with (at_builtin; refine wpApp2 rfl _ _ _ rfl el_Bo encBo encBo_len encBo_one (by omega) (by omega) w.heap.size _ acc rfl (HO7.out.alloc _) _ true _ rfl (hnew rfl) rfl (by have := HAC.out; omega) (by simp; omega) ?_; intro v9 w9 hown9 hg9 hat9; (have HO9 := hide hown9); (have HG9 := hide hg9); (have HA9 := hide hat9); clear hown9 hg9 hat9)
          go_roundw
          case rel =>
            refine ⟨j + 1, acc ++ [true], q7, fm7, by omega, by go_num, by have := HAC.out; simp; omega, by rw [HQR.out, HDJ.out, HPV.out]; simp, HO9.out, ?_, by omega, ?_⟩
            · exact HT7.out.push HG9.out (fun x hx => ⟨.inr hx, HX2.out x hx⟩) (fun x hx => hx.elim (fun h => .inl (.inl h)) (fun h => (HA9.out x h).elim (fun e => .inl (.inr e)) .inr))
            · exact ((HGA.out.trans HG7.out).alloc _).grown HG9.out (fun x hx => .inr (own_blk_lt HO7.out x hx))
          case measure => simp [intOf]; omega
        · have e2 : decide (z - ad ≤ wi) = false := decide_eq_false h2
          have HPV := hide (show P t = false by rw [hpv]; exact decide_eq_false (fun h => h2 h.2))
          clear h1 h2 hpv
          go_wp2_with (at_builtin; refine wpApp2 rfl _ _ _ rfl el_Bo encBo encBo_len encBo_one (by omega) (by omega) w.heap.size _ acc rfl (HO7.out.alloc _) _ false _ rfl (hnew rfl) rfl (by have := HAC.out; omega) (by simp; omega) ?_; intro v9 w9 hown9 hg9 hat9; (have HO9 := hide hown9); (have HG9 := hide hg9); (have HA9 := hide hat9); clear hown9 hg9 hat9)
          go_roundw
          case rel =>
            refine ⟨j + 1, acc ++ [false], q7, fm7, by omega, by go_num, by have := HAC.out; simp; omega, by rw [HQR.out, HDJ.out, HPV.out]; simp, HO9.out, ?_, by omega, ?_⟩
            · exact HT7.out.push HG9.out (fun x hx => ⟨.inr hx, HX2.out x hx⟩) (fun x hx => hx.elim (fun h => .inl (.inl h)) (fun h => (HA9.out x h).elim (fun e => .inl (.inr e)) .inr))
            · exact ((HGA.out.trans HG7.out).alloc _).grown HG9.out (fun x hx => .inr (own_blk_lt HO7.out x hx))
          case measure => simp [intOf]; omega
      · have e1 : decide (z ≥ 0) = false := decide_eq_false h1
        have e1' : decide (0 ≤ z) = false := decide_eq_false h1
        have HPV := hide (show P t = false by rw [hpv]; exact decide_eq_false (fun h => h1 h.1))
        clear h1 hpv
        go_wp2_with (at_builtin; refine wpApp2 rfl _ _ _ rfl el_Bo encBo encBo_len encBo_one (by omega) (by omega) w.heap.size _ acc rfl (HO7.out.alloc _) _ false _ rfl (hnew rfl) rfl (by have := HAC.out; omega) (by simp; omega) ?_; intro v9 w9 hown9 hg9 hat9; (have HO9 := hide hown9); (have HG9 := hide hg9); (have HA9 := hide hat9); clear hown9 hg9 hat9)
        go_roundw
        case rel =>
          refine ⟨j + 1, acc ++ [false], q7, fm7, by omega, by go_num, by have := HAC.out; simp; omega, by rw [HQR.out, HDJ.out, HPV.out]; simp, HO9.out, ?_, by omega, ?_⟩
          · exact HT7.out.push HG9.out (fun x hx => ⟨.inr hx, HX2.out x hx⟩) (fun x hx => hx.elim (fun h => .inl (.inl h)) (fun h => (HA9.out x h).elim (fun e => .inl (.inr e)) .inr))
          · exact ((HGA.out.trans HG7.out).alloc _).grown HG9.out (fun x hx => .inr (own_blk_lt HO7.out x hx))
        case measure => simp [intOf]; omega
    · obtain rfl : n = j := by omega
      have hRA : ROW = acc := by rw [HQR.out, List.drop_of_length_le (by have := HLN.out; omega)]; simp
      subst hRA
      go_wp2_with fail
      go_ret
      exact ⟨_, q', fm', rfl, HOI.out, HTI.out, by have := HAC.out; omega, HGW.out⟩
end Go.Proofs.YtmpnilliichpfaaGreatDoor
/- How long the ways between nodes take: the program. -/
namespace Go.Proofs.YtmpnilliichpfaaGreatDoor
open Go.RowKit

theorem el_Rows : ElemOf Tryz.prog 211 22 1 24 := ElemOf.mk' (z := .slice none 0 0) Tryz.underlying211 (by kernel_rfl) rfl
def MatOut (w : World) (rows : List (List Int)) (F : Int) (e : Ending) (w' : World) : Prop := ∃ (Z : Option Addr) (c : Nat) (es : List RowE), es.map (·.l) = rows ∧ e = .returned (.tuple #[.slice Z es.length c, .int .i64 F]) ∧ Rd w' 0 Z 1 encRow es ∧ (∀ r ∈ es, Rd w' 0 r.a 1 encI r.l) ∧ Nx w w'
end Go.Proofs.YtmpnilliichpfaaGreatDoor
/- How much is covered from some nodes: the program. -/
namespace Go.Proofs.YtmpnilliichpfaaGreatDoor
open Go.RowKit

theorem restF_ok {ns : List Node} {l : List Wgt} {ad wi : Int} (h : restF ns l ad wi = 0) : wgtsF ns l = 0 ∧ momB ad = true ∧ 0 ≤ wi ∧ wi ≤ 86400000 := by
  unfold restF at h
  by_cases h0 : wgtsF ns l = 0
  · rw [if_pos h0] at h
    unfold argF at h
    cases hm : momB ad with
    | false => rw [hm, Bool.false_and, if_neg (by simp)] at h; exact absurd h (by decide)
    | true =>
      cases ho : outB wi 0 86400000 with
      | true => rw [hm, ho] at h; exact absurd h (by decide)
      | false => exact ⟨h0, rfl, (outB_false).1 ho⟩
  · rw [if_neg h0] at h; exact absurd h h0
/-- What is wrong with what Covered is asked (of no more than 200 nodes). -/
def coverF (ns : List Node) (rs : List Arc) (bs : List Ban) (l : List ByteArray) (ws : List Wgt) (ad wi : Int) : Int := if roadsF ns rs bs = 0 then (if missB ns l = true then 8 else restF ns ws ad wi) else roadsF ns rs bs
def coverV (ns : List Node) (rs : List Arc) (bs : List Ban) (l : List ByteArray) (ws : List Wgt) (ad wi : Int) : Int := if coverF ns rs bs l ws ad wi = 0 then covS (reachB ns rs bs ad wi) l ws else 0
theorem w_cvd1 (g0 lo : Nat) (A : Option Addr) (c : Nat) (ns : List Node) (s : ByteArray) (w : World) (hg : w.cell? ⟨g0, 0, none⟩ = some (.slice A ns.length c)) (hgl : g0 < w.heap.size) (hR : Rd w lo A 3 encNode ns) (hl : ns.length ≤ 65536) :
    Calls Tryz.prog 69 #[.string s, .pointer (some ⟨g0, 0, none⟩)] w fun e w' => e = .returned (.bool (decide (nodeI ns s < 0))) ∧ Nx w w' := by
  have HC := hide (w_isNodeD g0 lo A c ns s w hg hgl hR hl)
  clear hg hR
  by_cases hz : nodeI ns s < 0
  · rw [decide_eq_false (show ¬ 0 ≤ nodeI ns s by omega)] at HC
    rw [decide_eq_true hz]
    go_enter Tryz.func69, Tryz.ntmps69
    go_wp2_with (go_at_call 70; refine HC.out.mono ?_; rintro e w2 ⟨rfl, hn2⟩)
    go_ret
    exact ⟨rfl, hn2⟩
  · rw [decide_eq_true (show 0 ≤ nodeI ns s by omega)] at HC
    rw [decide_eq_false hz]
    go_enter Tryz.func69, Tryz.ntmps69
    go_wp2_with (go_at_call 70; refine HC.out.mono ?_; rintro e w2 ⟨rfl, hn2⟩)
    go_ret
    exact ⟨rfl, hn2⟩
theorem eg_cvd1 : Enters 69 := enters_of Tryz.func69 (by kernel_rfl) rfl
theorem el_RowB : ElemOf Tryz.prog 128 129 1 24 := ElemOf.mk' (z := .slice none 0 0) Tryz.underlying128 (by kernel_rfl) rfl
/-- Rows of the call's own. -/
def OwnRowsB (w : World) (base : Nat) (es : List RowB) : Prop := ∀ r ∈ es, w.ownsRow base 4 1 (.slice r.a r.l.length r.c) r.l.length (r.l.flatMap encBo)
theorem OwnRowsB.gr {w w' : World} {base s : Nat} {es : List RowB} (h : OwnRowsB w base es) (hn : Gr s w w') (hs : s < base) : OwnRowsB w' base es := fun r hr => own_gr (h r hr) hn hs
theorem OwnRowsB.nx {w w' : World} {base : Nat} {es : List RowB} (h : OwnRowsB w base es) (hn : Nx w w') : OwnRowsB w' base es := fun r hr => own_nx (h r hr) hn
theorem OwnRowsB.rows {w : World} {base n : Nat} {es : List RowB} (h : OwnRowsB w base es) (hl : ∀ r ∈ es, r.l.length = n) : RowsB w 0 es n := fun r hr => ⟨by
  obtain ⟨A', c', e, h2, _⟩ := Rd.of_own encBo_len rfl (h r hr)
  injection e with e _ _
  rw [e]
  exact h2.low (Nat.zero_le _), hl r hr⟩
set_option maxRecDepth 100000 in
set_option maxHeartbeats 8000000 in
theorem w_Covered (lo : Nat) (A B C : Option Addr) (ca cb cc : Nat) (ns : List Node) (rs : List Arc) (bs : List Ban) (lo2 : Nat) (D : Option Addr) (cd : Nat) (l : List ByteArray) (lo3 : Nat) (E : Option Addr) (ce : Nat) (ws : List Wgt) (ad wi : Int) (w : World)
    (hN : Rd w lo A 3 encNode ns) (hA : RdArcs w lo B rs) (hB : Rd w lo C 2 encBan bs) (hnl : ns.length ≤ 400) (hal : rs.length ≤ 400) (hbl : bs.length ≤ 400) (hS : SmallN ns) (hD : Rd w lo2 D 1 encS l) (hl : l.length ≤ 200) (hE : Rd w lo3 E 2 encW ws) (hwl : ws.length ≤ 65536) :
    Calls Tryz.prog 18 #[.agg #[.slice A ns.length ca, .slice B rs.length cb, .slice C bs.length cc], .slice D l.length cd, .slice E ws.length ce, .int .i64 ad, .int .i64 wi] w fun e w' => e = .returned (.tuple #[.int .i64 (coverV ns rs bs l ws ad wi), .int .i64 (coverF ns rs bs l ws ad wi)]) ∧ Nx w w' := by
  obtain ⟨wa, hwa⟩ : ∃ wa, wa = w.alloc (.cells #[.slice A ns.length ca, .slice B rs.length cb, .slice C bs.length cc] 30) := ⟨_, rfl⟩
  have hna : Nx w wa := hwa ▸ (Nx.refl w).alloc _
  have hgw : w.heap.size < wa.heap.size := by rw [hwa]; simp
  have b0 : wa.cell? ⟨w.heap.size, 0, none⟩ = some (.slice A ns.length ca) := by rw [hwa]; go_simp
  have b1 : wa.cell? ⟨w.heap.size, 1, none⟩ = some (.slice B rs.length cb) := by rw [hwa]; go_simp
  have b2 : wa.cell? ⟨w.heap.size, 2, none⟩ = some (.slice C bs.length cc) := by rw [hwa]; go_simp
  have hBox : BoxR wa w.heap.size lo A B C ca cb cc ns rs bs := ⟨b0, b1, b2, hgw, hN.nx hna, hA.nx hna, hB.nx hna, hnl, hal, hbl⟩
  have HC := hide (w_CheckRoads lo lo lo A B C ca cb cc ns rs bs wa hBox.hN hS hBox.nl hBox.hA hBox.al hBox.hB hBox.bl)
  have HF := hide (show coverF ns rs bs l ws ad wi = if roadsF ns rs bs = 0 then (if missB ns l = true then 8 else restF ns ws ad wi) else roadsF ns rs bs from rfl)
  have HCV := hide (show coverV ns rs bs l ws ad wi = if coverF ns rs bs l ws ad wi = 0 then covS (reachB ns rs bs ad wi) l ws else 0 from rfl)
  have HDD := hide (hD.nx hna)
  have HEE := hide (hE.nx hna)
  have HB := hide hBox
  have HOK := hide (fun h : roadsF ns rs bs = 0 => (⟨newOk_of h, (roads_ok h).2.1⟩ : NewOk ns rs bs ∧ chk (arcF ns) none rs = 0))
  have HNEWK := hide (fun h : roadsF ns rs bs = 0 => fun s (hs : 0 ≤ nodeI ns s) => nodeI_small h hs)
  clear hBox hN hA hB hD hE
  generalize coverV ns rs bs l ws ad wi = CV at *
  generalize coverF ns rs bs l ws ad wi = F at *
  have HWA := hide hwa
  have HNA := hide hna
  clear hwa hna
  have tl : decide ((l.length : Int) > 200) = false := decide_eq_false (by omega)
  by_cases hR : roadsF ns rs bs = 0
  · obtain ⟨hNO, hCC⟩ := HOK.out hR
    have HF := hide (HF.out.trans (if_pos hR))
    have HMI := hide (fun W (hx : Nx wa W) => w_ContFS 69 (fun s => decide (nodeI ns s < 0)) (.pointer (some ⟨w.heap.size, 0, none⟩)) eg_cvd1 lo2 D cd l W (fun y W2 hx2 => w_cvd1 w.heap.size lo A ca ns y W2 (HB.out.nx (hx.trans hx2)).g0 (HB.out.nx (hx.trans hx2)).gl (HB.out.nx (hx.trans hx2)).hN (by omega)) (HDD.out.nx hx) (by omega))
    have HWF := hide (fun W (hx : Nx wa W) => w_weightsD w.heap.size lo A ca ns lo3 E ce ws ad wi W (HB.out.nx hx).g0 (HB.out.nx hx).gl (HB.out.nx hx).hN (by omega) (HEE.out.nx hx) hwl)
    have HNW := hide (fun W (hx : Nx wa W) => w_New w.heap.size lo A B C ca cb cc ns rs bs W (HB.out.nx hx) hNO)
    have HRE := hide (fun w0 W bt b n f bm M Ex (hM : MapR w0 bm w.heap.size lo A B C ca cb cc M ns rs bs) (hx : Nx wa w0) (hT : TripsR w0 W bt b n f bm ns.length rs.length (gphOf ns rs bs) Ex) hEx s (hs : 0 ≤ nodeI ns s) (ha : 0 ≤ ad ∧ ad ≤ 345686399999) (hwi : 0 ≤ wi ∧ wi ≤ 86400000) (hw5 : ws.length ≤ 500) (hb : ∀ x ∈ ws, 0 ≤ nodeI ns x.node) hn => w_reached w0 W bt b n f bm w.heap.size lo A B C ca cb cc M ns rs bs s lo3 E ce ws ad wi Ex hM hCC hNO.sn (HNEWK.out hR) hT hEx hs hnl ha hwi (HEE.out.nx hx) hw5 hb hn)
    have HCO := hide (fun W (hx : Nx wa W) Y cy es hw5 hb hY hyl hE => w_covered lo3 0 0 E Y ce cy ws es W (HEE.out.nx hx) hw5 hb hY hyl hE)
    have HRK := hide (fun h : restF ns ws ad wi = 0 => restF_ok h)
    have HWK := hide (fun h : wgtsF ns ws = 0 => wgts_bd h)
    have HCS := hide (fun es (h : List.map (fun r : RowB => r.l) es = l.map fun s => ws.map fun x => reachB ns rs bs ad wi s x.node) => (show covI (es.map (·.l)) ws 0 = covS (reachB ns rs bs ad wi) l ws by rw [h]; exact covI_covS _ l ws))
    rw [hR] at HC
    clear HOK hR hNO hCC
    rw [show (l.any fun s => decide (nodeI ns s < 0)) = missB ns l from rfl] at HMI
    have HMA := hide (fun h => miss_all (ns := ns) (l := l) h)
    generalize missB ns l = mb at *
    generalize restF ns ws ad wi = RF at *
    generalize covS (reachB ns rs bs ad wi) l ws = CS at *
    obtain ⟨R, hRR⟩ : ∃ R : ByteArray → List Bool, R = fun s => ws.map fun x => reachB ns rs bs ad wi s x.node := ⟨_, rfl⟩
    have HRL := hide (fun s => (show (R s).length = ws.length by rw [hRR]; exact List.length_map _))
    have HRE := hide (fun w0 W bt b n f bm M Ex hM hx hT hEx s hs ha hwi hw5 hb hn => (show Calls Tryz.prog 74 #[.pointer (some ⟨bt, 0, none⟩), .string s, .slice E ws.length ce, .int .i64 ad, .int .i64 wi] W (ReachedOut w0 W bt b n bm ns.length rs.length (gphOf ns rs bs) Ex (R s)) by rw [hRR]; exact HRE.out w0 W bt b n f bm M Ex hM hx hT hEx s hs ha hwi hw5 hb hn))
    have HCS := hide (fun es (h : List.map (fun r : RowB => r.l) es = l.map R) => HCS.out es (by rw [h, hRR]))
    clear hRR
    generalize hnl2 : l.length = n at *
    have HLN := hide hnl2
    clear hnl2
    generalize hnw : ws.length = m2 at *
    clear hnw
    go_enter Tryz.func18, Tryz.ntmps18
    go_upto_region 1 with fail
    rw [← HWA.out]
    generalize w.heap.size = g at *
    go_wp2_with fail
    refine HC.out.mono ?_
    rintro e w1 ⟨rfl, hn1⟩
    have HN1 := hide hn1
    clear b0 b1 b2 hn1 HC
    go_wp2_with fail
    refine (HMI.out w1 HN1.out).mono ?_
    rintro e w2 ⟨rfl, hn2⟩
    have HN2 := hide (HN1.out.trans hn2)
    clear hn2 HN1 HMI
    cases mb
    · have hF := HF.out
      rw [if_neg (by simp)] at hF
      subst hF
      go_wp2_with fail
      refine (HWF.out w2 HN2.out).mono ?_
      rintro e w3 ⟨rfl, hn3⟩
      have HN3 := hide (HN2.out.trans hn3)
      clear hn3 HN2 HWF
      by_cases hF0 : F = 0
      · obtain ⟨hw0, hm, hwi1, hwi2⟩ := HRK.out hF0
        obtain ⟨hw5, hwb⟩ := HWK.out hw0
        subst hF0
        have HMB := hide (momB_true.1 hm)
        have HMS := hide (HMA.out (by first | trivial | rfl))
        have HWB := hide hwb
        have hcv := HCV.out.trans (if_pos rfl)
        subst hcv
        clear HRK HWK hw0 hm hwb HCV HMA
        go_wp2_with fail
        refine (HNW.out w3 HN3.out).mono ?_
        rintro e w4 ⟨bm, M, rfl, _, hM, hn4⟩
        have HM := hide hM
        have HN4 := hide (HN3.out.trans hn4)
        clear hM hn4 HN3 HNW
        go_wp2_with fail
        refine (w_NewTrips bm ns.length rs.length (gphOf ns rs bs) w4).mono ?_
        rintro e w5 ⟨bt, b, rfl, _, hT⟩
        have HT := hide hT
        have HBS := hide hT.mp.lt
        have HBL := hide hT.hb
        have HN5 := hide hT.nx
        have HRE := hide (fun W m fm Ex (hT : TripsR w4 W bt b m fm bm ns.length rs.length (gphOf ns rs bs) Ex) hEx s (hs : s ∈ l) hn => HRE.out w4 W bt b m fm bm M Ex HM.out HN4.out hT hEx s (HMS.out s hs) HMB.out ⟨hwi1, hwi2⟩ hw5 (fun x hx => (HWB.out x hx).1) hn)
        have HCO := hide (fun W (hx : Nx wa W) Y cy es hY hyl hE => HCO.out W hx Y cy es hw5 (fun x hx => (HWB.out x hx).2) hY hyl hE)
        clear hT HM
        generalize gphOf ns rs bs = G at *
        generalize ns.length = nn at *
        generalize rs.length = m at *
        go_wp2_with fail
        go_loopw [15, 40] (fun v u wr => ∃ (k : Nat) (es : List RowB) (q : Nat) (fm : Int × Int → Option (Option Nat)), k ≤ n ∧ u = .int .i64 k ∧ es.length = k ∧ l.map R = es.map (·.l) ++ (l.drop k).map R ∧ (∀ r ∈ es, r.l.length = m2) ∧ wr.ownsRow w5.heap.size 129 1 v es.length (es.flatMap encRowB) ∧ OwnRowsB wr w5.heap.size es ∧ TripsR w4 wr bt b q fm bm nn m G (fun x => v.ownBlock = some x) ∧ q ≤ k * 500 ∧ w5.heap.size ≤ wr.heap.size) (fun _ u _ => n - (intOf u).toNat)
        case atStart => exact ⟨0, [], 0, _, Nat.zero_le _, rfl, rfl, rfl, (fun r hr => absurd hr (by simp)), World.ownsRow_nil _ _ _ _, fun r hr => absurd hr (by simp), HT.out.more (fun x h => by cases h), Nat.zero_le _, Nat.le_refl _⟩
        case round =>
          obtain ⟨k, es, q, fm, hk, rfl, hes, hq, hlen, hown, hrows, hT, hqk, hwz⟩ := hrel
          have HQ := hide hq
          have HTT := hide hT
          have HO := hide hown
          have HRS := hide hrows
          have HES := hide hes
          have HLE := hide hlen
          clear hq hT hown hrows hes hlen
          by_cases hlt : k < n
          · have hlt' : k < l.length := by have := HLN.out; omega
            have hwr := HN4.out.trans HTT.out.nx
            obtain ⟨by_, boff, rfl, _, hyb, hyb1, hyc⟩ := HDD.out.open_ hwr (by omega)
            have c0 : wr.cell? ⟨by_, boff + k, none⟩ = some (.string l[k]) := by have := hyc k hlt' 0 _ rfl; simpa using this
            have HD := hide (map_drop R l k hlt')
            have HA := hide (HRE.out wr q fm _ HTT.out (fun x hx => (HO.out.lt x hx).2) l[k] (List.getElem_mem hlt') (by omega))
            have HRK := hide (HRL.out l[k])
            clear hyc hwr
            generalize l[k] = s at *
            have HBB := hide (show b < w5.heap.size from HBS.out)
            go_wp2_with fail
            refine HA.out.mono ?_
            rintro e w7 ⟨v7, q7, fm7, rfl, hown7, hT7, hq7, hg7⟩
            clear c0 HA
            generalize R s = row at *
            obtain ⟨A', c', rfl, _, _⟩ := Rd.of_own encBo_len rfl hown7
            have HT7 := hide hT7
            have HO7 := hide hown7
            have HOO := hide (own_gr HO.out hg7 HBB.out)
            have HRR := hide (HRS.out.gr hg7 HBB.out)
            have hw5' : w5.heap.size ≤ w7.heap.size := Nat.le_trans hwz hg7.sz
            have HQ7 := hide hq7
            clear hT7 hown7 hg7 hq7
            go_wp2_with (at_builtin; refine wpApp2 rfl _ _ _ rfl el_RowB encRowB encRowB_len encRowB_one (by omega) (by omega) w5.heap.size _ es rfl (HOO.out.alloc _) _ ⟨A', c', row⟩ _ rfl (hnew rfl) rfl (by have := HES.out; omega) (by simp; omega) ?_; intro v9 w9 hown9 hg9 hat9; (have HO9 := hide hown9); (have HG9 := hide hg9); (have HA9 := hide hat9); clear hown9 hg9 hat9)
            go_roundw
            case rel =>
              refine ⟨k + 1, es ++ [⟨A', c', row⟩], q7, fm7, by omega, by go_num, by have := HES.out; simp; omega, ?_, ?_, HO9.out, ?_, ?_, ?_, ?_⟩
              · rw [HQ.out, HD.out]; simp
              · intro r hr
                rcases List.mem_append.1 hr with hr | hr
                · exact HLE.out r hr
                · have hr : r = ⟨A', c', row⟩ := by simpa using hr
                  subst hr
                  exact HRK.out
              · intro r hr
                have hI : (w7.alloc (.cells #[.slice A' row.length c'] 129)).ownsRow w5.heap.size 4 1 (.slice r.a r.l.length r.c) r.l.length (r.l.flatMap encBo) := by
                  rcases List.mem_append.1 hr with hr | hr
                  · exact (HRR.out r hr).alloc _
                  · have hr : r = ⟨A', c', row⟩ := by simpa using hr
                    subst hr
                    exact (World.ownsRow.mono (base' := w5.heap.size) HO7.out hwz).alloc _
                exact hI.kept HG9.out (own_apart hI (HOO.out.alloc _) (by decide))
              · exact HT7.out.push HG9.out (fun x hx => ⟨.inl hx, by have h1 := (HOO.out.lt x hx).1; have h3 := HN5.out.sz; omega⟩) (fun x h => (HA9.out x h).elim (fun e => .inl (.inl e)) .inr)
              · have h1 := HQ7.out; have h2 := HRK.out; omega
              · exact Nat.le_trans hw5' (Nat.le_trans (by simp) HG9.out.size)
            case measure => simp [intOf]; omega
          · obtain rfl : n = k := by omega
            have hMM : es.map (·.l) = l.map R := by rw [HQ.out, List.drop_of_length_le (by have := HLN.out; omega)]; simp
            obtain ⟨Z, c, rfl, hRd, _⟩ := Rd.of_own encRowB_len rfl HO.out
            have hwr := HN4.out.trans HTT.out.nx
            have HCO2 := hide (HCO.out wr hwr Z c es (hRd.low (Nat.zero_le _)) (by have := HES.out; omega) (HRS.out.rows HLE.out))
            rw [HCS.out es hMM] at HCO2
            have HWR := hide hwr
            clear hRd hMM hwr HO HQ HRS HCO
            go_wp2_with fail
            refine HCO2.out.mono ?_
            rintro e w9 ⟨rfl, hn9⟩
            go_wp2_with fail
            exact bodyPost_ret (v := .tuple #[.int .i64 CV, .int .i64 0]) (by simp [results, Tryz.results18, go_sem]) rfl ⟨rfl, HNA.out.trans (HWR.out.trans hn9)⟩
      · have hcv := HCV.out.trans (if_neg hF0)
        subst hcv
        have tF : (F != 0) = true := by simpa using hF0
        have tF2 : (F == 0) = false := by simpa using hF0
        clear HRK HCV HF
        go_wp2_with fail
        exact bodyPost_ret (v := .tuple #[.int .i64 0, .int .i64 F]) (by simp [results, Tryz.results18, go_sem]) rfl ⟨rfl, HNA.out.trans HN3.out⟩
    · have hF := HF.out
      rw [if_pos rfl] at hF
      subst hF
      have hcv := HCV.out.trans (if_neg (by decide))
      subst hcv
      go_wp2_with fail
      exact bodyPost_ret (v := .tuple #[.int .i64 0, .int .i64 8]) (by simp [results, Tryz.results18, go_sem]) rfl ⟨rfl, HNA.out.trans HN2.out⟩
  · have hF := HF.out.trans (if_neg hR)
    have hcv := HCV.out.trans (if_neg (by rw [hF]; exact hR))
    subst hcv
    generalize roadsF ns rs bs = RF at *
    subst hF
    have tF : (F != 0) = true := by simpa using hR
    have tF2 : (F == 0) = false := by simpa using hR
    clear HF HCV HOK HNEWK hR
    generalize l.length = n at *
    generalize ws.length = m2 at *
    go_enter Tryz.func18, Tryz.ntmps18
    go_upto_region 1 with fail
    rw [← HWA.out]
    go_wp2_with fail
    refine HC.out.mono ?_
    rintro e w1 ⟨rfl, hn1⟩
    go_wp2_with fail
    exact bodyPost_ret (v := .tuple #[.int .i64 0, .int .i64 F]) (by simp [results, Tryz.results18, go_sem]) rfl ⟨rfl, HNA.out.trans hn1⟩
end Go.Proofs.YtmpnilliichpfaaGreatDoor
/- Plain: what the law NodesReached weighs. -/
namespace Go.Proofs.YtmpnilliichpfaaGreatDoor
open Go.RowKit

theorem getD_in {α : Type} {l : List α} {i : Nat} {d : α} (h : i < l.length) : l.getD i d = l[i] := by rw [List.getD_eq_getElem?_getD, List.getElem?_eq_getElem h]; rfl
theorem reach_or {ns : List Node} {rs : List Arc} {bs : List Ban} {f : ByteArray} {ad wi : Int} (h : roadsF ns rs bs = 0) : orI [noneF ns f, momF ad, if outB wi 0 86400000 then 1 else 0] = reachF ns rs bs f ad wi := by
  unfold reachF endsF
  rw [if_pos h]
  unfold noneF momF argF
  by_cases h1 : nodeI ns f < 0
  · rw [if_pos h1, if_pos (show nodeI ns f < 0 ∨ nodeI ns f < 0 from .inl h1)]; rfl
  · rw [if_neg h1, if_neg (show ¬ (nodeI ns f < 0 ∨ nodeI ns f < 0) by omega)]
    cases momB ad <;> cases outB wi 0 86400000 <;> rfl
theorem near_or {ns : List Node} {rs : List Arc} {bs : List Ban} {l : List ByteArray} {t : ByteArray} {ad : Int} (h : roadsF ns rs bs = 0) (hl : l.length ≤ 200) : orI [askF ns l 200, noneF ns t, momF ad] = nearF ns rs bs l t ad := by
  unfold nearF
  rw [if_pos h]
  unfold askF noneF momF argF
  rw [if_neg (by omega)]
  cases h1 : missB ns l
  · rw [if_neg (show ¬ (false = true) by simp)]
    by_cases h2 : nodeI ns t < 0
    · rw [if_pos h2, if_pos (show false = true ∨ nodeI ns t < 0 from .inr h2)]; rfl
    · rw [if_neg h2, if_neg (show ¬ (false = true ∨ nodeI ns t < 0) from fun h => h.elim (by simp) h2)]
      cases momB ad <;> rfl
  · rw [if_pos rfl, if_pos (show true = true ∨ nodeI ns t < 0 from .inl rfl)]; rfl
theorem mat_or {ns : List Node} {rs : List Arc} {bs : List Ban} {l : List ByteArray} {ad : Int} (h : roadsF ns rs bs = 0) (hl : l.length ≤ 50) : orI [askF ns l 50, momF ad] = matF ns rs bs l ad := by
  unfold matF
  rw [if_pos h]
  unfold askF momF argF
  rw [if_neg (by omega)]
  cases h1 : missB ns l
  · rw [if_neg (show ¬ (false = true) by simp), if_neg (show ¬ (false = true) by simp)]
    cases momB ad <;> rfl
  · rw [if_pos rfl, if_pos rfl]; rfl
theorem reachF_ok {ns : List Node} {rs : List Arc} {bs : List Ban} {f : ByteArray} {ad wi : Int} (h : reachF ns rs bs f ad wi = 0) : roadsF ns rs bs = 0 ∧ 0 ≤ nodeI ns f ∧ momB ad = true ∧ 0 ≤ wi ∧ wi ≤ 86400000 := by
  unfold reachF at h
  split at h
  · rename_i he
    obtain ⟨h1, h2, _, h4⟩ := endsF_ok he
    split at h
    · exact absurd h (by decide)
    · rename_i ho
      unfold outB at ho
      simp at ho
      exact ⟨h1, h2, h4, by omega, by omega⟩
  · rename_i he
    exact absurd h he
theorem nearF_ok {ns : List Node} {rs : List Arc} {bs : List Ban} {l : List ByteArray} {t : ByteArray} {ad : Int} (h : nearF ns rs bs l t ad = 0) : roadsF ns rs bs = 0 ∧ (∀ s ∈ l, 0 ≤ nodeI ns s) ∧ 0 ≤ nodeI ns t ∧ momB ad = true := by
  unfold nearF at h
  split at h
  · rename_i hr
    split at h
    · exact absurd h (by decide)
    · rename_i hm
      split at h
      · rename_i hb
        exact ⟨hr, miss_all (by cases hq : missB ns l with | false => rfl | true => exact absurd (.inl hq) hm), by omega, hb⟩
      · exact absurd h (by decide)
  · rename_i hr
    exact absurd h hr
theorem matF_ok {ns : List Node} {rs : List Arc} {bs : List Ban} {l : List ByteArray} {ad : Int} (h : matF ns rs bs l ad = 0) : roadsF ns rs bs = 0 ∧ (∀ s ∈ l, 0 ≤ nodeI ns s) ∧ momB ad = true := by
  unfold matF at h
  split at h
  · rename_i hr
    split at h
    · exact absurd h (by decide)
    · rename_i hm
      split at h
      · rename_i hb
        exact ⟨hr, miss_all (by cases hq : missB ns l with | false => rfl | true => exact absurd hq hm), hb⟩
      · exact absurd h (by decide)
  · rename_i hr
    exact absurd h hr
theorem reachF_bad {ns : List Node} {rs : List Arc} {bs : List Ban} {f : ByteArray} {ad wi : Int} (h : roadsF ns rs bs ≠ 0) : reachF ns rs bs f ad wi = roadsF ns rs bs := by
  have he : endsF ns rs bs f f ad = roadsF ns rs bs := if_neg h
  unfold reachF
  rw [he, if_neg h]
theorem matL_at {ns : List Node} {rs : List Arc} {bs : List Ban} {l : List ByteArray} {ad : Int} {es : List RowE} (h : es.map (·.l) = matL ns rs bs l ad) : es.length = l.length ∧ ∀ i, i < l.length → (es.getD i default).l.length = l.length ∧ ∀ j, j < l.length → (es.getD i default).l.getD j 0 = matV (arrS ns rs bs (l.getD i default) (l.getD j default) ad) ad := by
  have hl : es.length = l.length := by have := congrArg List.length h; simpa [matL] using this
  refine ⟨hl, fun i hi => ?_⟩
  have he : (es.getD i default).l = matR ns rs bs l ad (l.getD i default) := by
    have h1 : (es.map (·.l))[i]? = (matL ns rs bs l ad)[i]? := by rw [h]
    unfold matL at h1
    rw [List.getElem?_map, List.getElem?_map, List.getElem?_eq_getElem (show i < es.length by omega), List.getElem?_eq_getElem hi] at h1
    rw [getD_in (show i < es.length by omega), getD_in hi]
    exact Option.some.inj h1
  rw [he]
  unfold matR
  refine ⟨by simp, fun j hj => ?_⟩
  rw [getD_in (show j < (List.map (fun t => matV (arrS ns rs bs (l.getD i default) t ad) ad) l).length by simpa using hj), List.getElem_map, getD_in hj]
theorem reachL_len (ns : List Node) (rs : List Arc) (bs : List Ban) (f : ByteArray) (ad wi : Int) : (reachL ns rs bs f ad wi).length ≤ ns.length := by
  unfold reachL
  split
  · exact rOf_len _ _ _ _ _
  · exact Nat.zero_le _
theorem wi_cases {a b wi E : Int} (h : orI [a, b, if outB wi 0 86400000 then 1 else 0] = E) : ∃ z : Int, orI [a, b, z] = E ∧ ((decide (wi < 0) = true ∧ z = 1) ∨ (decide (wi < 0) = false ∧ decide (wi > 86400000) = true ∧ z = 1) ∨ (decide (wi < 0) = false ∧ decide (wi > 86400000) = false ∧ z = 0)) := by
  refine ⟨_, h, ?_⟩
  unfold outB
  by_cases h1 : wi < 0
  · left; simp [h1]
  · right
    by_cases h2 : (86400000 : Int) < wi
    · left; simp [h1, h2]
    · right; simp [h1, h2]
theorem arrS_in {ns : List Node} {rs : List Arc} {bs : List Ban} {s t : ByteArray} {ad : Int} (hC : chk (arcF ns) none rs = 0) (hs : 0 ≤ nodeI ns s) (ht : 0 ≤ nodeI ns t) (ha : 0 ≤ ad ∧ ad ≤ 345686399999) : ad ≤ arrS ns rs bs s t ad ∧ arrS ns rs bs s t ad ≤ endT := by
  have h := arr_ix (bs := bs) hC (nodeN_lt hs) (nodeN_lt ht) ha.1 (show ad < endT by unfold endT; omega)
  unfold arrS
  rcases h with ⟨_, h⟩ | ⟨_, h1, h2, h3⟩
  · rw [h]; unfold endT; omega
  · rw [h1]; omega
theorem sort_of {ns : List Node} {rs : List Arc} {bs : List Ban} (h : roadsF ns rs bs = 0) : SortN ns := sortN_of (roads_ok h).1
def NearAt (F : Int) (V : ByteArray → Int) (l : List ByteArray) (k : Nat) (fi be : Int) (P : Int × Int) : Prop := (F = 0 → nearO V (l.drop k) k fi be = P) ∧ (F ≠ 0 → (fi, be) = P)
theorem NearAt.done {F : Int} {V : ByteArray → Int} {l : List ByteArray} {k : Nat} {fi be : Int} {P : Int × Int} (h : NearAt F V l k fi be P) (hk : l.length ≤ k) : (fi, be) = P := by
  by_cases hF : F = 0
  · have := h.1 hF
    rw [List.drop_eq_nil_of_le hk] at this
    exact this
  · exact h.2 hF
theorem near_if {F : Int} {V : ByteArray → Int} {l : List ByteArray} {P : Int × Int} (h0 : F = 0 → nearO V l 0 (-1) endT = P) (h1 : F ≠ 0 → P = (-1, endT)) : NearAt F V l 0 (-1) endT P := ⟨fun h => h0 h, fun h => (h1 h).symm⟩
theorem reachOf_pack {P : Program} {ns : List Node} {rs : List Arc} {bs : List Ban} {f : ByteArray} {ad wi : Int} (hF : reachF ns rs bs f ad wi = 0) {fn : Nat} {args : Array Value} {W : World}
    (h : Calls P fn args W fun e w' => ∃ (Z : Option Addr) (c : Nat), e = .returned (.slice Z (rOf (fun k => arrG (gphOf ns rs bs) (nodeN ns f) k ad) ad wi ns 0).length c) ∧ Rd w' 0 Z 2 encPair (rOf (fun k => arrG (gphOf ns rs bs) (nodeN ns f) k ad) ad wi ns 0) ∧ Nx W w') :
    Calls P fn args W fun e w' => ∃ (Z : Option Addr) (c : Nat), e = .returned (.slice Z (reachL ns rs bs f ad wi).length c) ∧ Rd w' 0 Z 2 encPair (reachL ns rs bs f ad wi) ∧ Nx W w' := by
  rw [show reachL ns rs bs f ad wi = rOf (fun k => arrG (gphOf ns rs bs) (nodeN ns f) k ad) ad wi ns 0 from if_pos hF]
  exact h
theorem near_pack {P : Program} (p : Int × Int) (F : Int) {args : Array Value} {Q : World → Prop} {fn : Nat} (h : ∀ W, Q W → Calls P fn args W fun e w' => e = .returned (.tuple #[.int .i64 (if p.1 < 0 then 0 else p.1), .int .i64 (if p.1 < 0 then 0 else p.2), .bool (decide (0 ≤ p.1)), .int .i64 F]) ∧ Nx W w') :
    ∃ (k t : Int) (is : Bool), ((p.1 < 0 ∧ k = 0 ∧ t = 0 ∧ is = false) ∨ (0 ≤ p.1 ∧ k = p.1 ∧ t = p.2 ∧ is = true)) ∧ ∀ W, Q W → Calls P fn args W fun e w' => e = .returned (.tuple #[.int .i64 k, .int .i64 t, .bool is, .int .i64 F]) ∧ Nx W w' := by
  refine ⟨_, _, _, ?_, h⟩
  by_cases hp : p.1 < 0
  · left; rw [if_pos hp, if_pos hp]; exact ⟨hp, rfl, rfl, decide_eq_false (by omega)⟩
  · right; rw [if_neg hp, if_neg hp]; exact ⟨by omega, rfl, rfl, decide_eq_true (by omega)⟩
end Go.Proofs.YtmpnilliichpfaaGreatDoor
/- The reference's out times: what may be bettered, and the loops. -/
namespace Go.Proofs.YtmpnilliichpfaaGreatDoor
open Go.RowKit

def intRowO (l : List Int) : Obj := .cells (l.map (Value.int .i64)).toArray 3 (0, 0)
theorem intRowO_set (l : List Int) (i : Nat) (v : Int) : (l.map (Value.int .i64)).toArray.setIfInBounds i (.int .i64 v) = ((l.set i v).map (Value.int .i64)).toArray := by
  apply Array.ext'
  simp [List.map_set]
theorem intRowO_cell {w : World} {g : Nat} {l : List Int} (h : w.heap[g]? = some (intRowO l)) {i : Nat} (hi : i < l.length) : w.cell? ⟨g, i, none⟩ = some (.int .i64 (gi l i)) := by
  refine (cell_of_row w g i _ _ _ h).trans ?_
  rw [← Array.getElem?_toList]
  simp [hi, gi]
/-- The roads' box, the row, the row's box. -/
structure OM (w0 w : World) (A B C : Option Addr) (nn m nb ca cb cc : Nat) (o : List Int) : Prop where
  nx : Nx w0 w
  box : w.heap[w0.heap.size]? = some (.cells #[.slice A nn ca, .slice B m cb, .slice C nb cc] 30 (0, 0))
  row : w.heap[w0.heap.size + 1]? = some (intRowO o)
  var_ : w.heap[w0.heap.size + 2]? = some (.cells #[.slice (some ⟨w0.heap.size + 1, 0, none⟩) m m] 22 (0, 0))
  len : o.length = m
section
variable {w0 w w' : World} {A B C : Option Addr} {nn m nb ca cb cc : Nat} {o : List Int}
theorem OM.step (h : OM w0 w A B C nn m nb ca cb cc o) (hn : Nx w w') : OM w0 w' A B C nn m nb ca cb cc o :=
  ⟨h.nx.trans hn, (hn.block _ (Array.getElem?_eq_some_iff.1 h.box).1).trans h.box, (hn.block _ (Array.getElem?_eq_some_iff.1 h.row).1).trans h.row, (hn.block _ (Array.getElem?_eq_some_iff.1 h.var_).1).trans h.var_, h.len⟩
theorem OM.set (h : OM w0 w A B C nn m nb ca cb cc o) (i : Nat) (v : Int) : OM w0 (w.setCell ⟨w0.heap.size + 1, i, none⟩ (.int .i64 v)) A B C nn m nb ca cb cc (o.set i v) := by
  refine ⟨h.nx.setCell (by show _ ≤ w0.heap.size + 1; omega) _, (Below.heap_setCell _ _ _ _ (by show w0.heap.size ≠ w0.heap.size + 1; omega)).trans h.box, ?_, (Below.heap_setCell _ _ _ _ (by show w0.heap.size + 2 ≠ w0.heap.size + 1; omega)).trans h.var_, by simpa using h.len⟩
  rw [heap_set h.row, intRowO_set]; rfl
theorem OM.b1 (h : OM w0 w A B C nn m nb ca cb cc o) : w.cell? ⟨w0.heap.size, 1, none⟩ = some (.slice B m cb) := (cell_of_row w _ 1 _ _ _ h.box).trans rfl
theorem OM.v0 (h : OM w0 w A B C nn m nb ca cb cc o) : w.cell? ⟨w0.heap.size + 2, 0, none⟩ = some (.slice (some ⟨w0.heap.size + 1, 0, none⟩) m m) := (cell_of_row w _ 0 _ _ _ h.var_).trans rfl
end
set_option maxRecDepth 100000 in
set_option maxHeartbeats 4000000 in
theorem w_better (w0 w : World) (lo : Nat) (A B C : Option Addr) (nn nb ca cb cc : Nat) (ns : List Node) (rs : List Arc) (bs : List Ban) (o : List Int) (i : Nat) (t : Int)
    (hA : RdArcs w0 lo B rs) (hal : rs.length ≤ 400) (hKO : ∀ x ∈ rs, KOk x.knots) (hS : OM w0 w A B C nn rs.length nb ca cb cc o) (hi : i < rs.length) (ht : 0 ≤ t) :
    Calls Tryz.prog 201 #[.int .i64 (i : Int), .int .i64 t, .pointer (some ⟨w0.heap.size, 0, none⟩), .pointer (some ⟨w0.heap.size + 2, 0, none⟩)] w
      fun e w' => e = .returned (.bool (betB (gphOf ns rs bs) o i t)) ∧ OM w0 w' A B C nn rs.length nb ca cb cc (betO (gphOf ns rs bs) o i t) ∧ Gr (w0.heap.size + 1) w w' := by
  by_cases he : t < 345686400000
  · have hAw := hA.nx hS.nx
    obtain ⟨hKx, hLx, hSx⟩ := hAw.2 rs[i] (List.getElem_mem hi)
    have hko := hKO rs[i] (List.getElem_mem hi)
    obtain ⟨b, off, rfl, _, hb, hbr, hc⟩ := hAw.1.open_ (Nx.refl w) (by omega)
    have a0 : w.cell? ⟨b, off + i * 5, none⟩ = some (.string rs[i].key) := hc i hi 0 _ rfl
    have a1 : w.cell? ⟨b, off + i * 5 + 1, none⟩ = some (.string rs[i].from_) := hc i hi 1 _ rfl
    have a2 : w.cell? ⟨b, off + i * 5 + 2, none⟩ = some (.string rs[i].to_) := hc i hi 2 _ rfl
    have a3 : w.cell? ⟨b, off + i * 5 + 3, none⟩ = some (.int .i64 rs[i].long) := hc i hi 3 _ rfl
    have a4 : w.cell? ⟨b, off + i * 5 + 4, none⟩ = some (.slice rs[i].ka rs[i].knots.length rs[i].kc) := hc i hi 4 _ rfl
    have HT := hide (w_ArcTime lo rs[i] t w hKx hko ⟨ht, by omega⟩)
    have htb := time_bd hko t
    have HOUT := hide (show (gphOf ns rs bs).out i t = t + timeI rs[i].knots t by show t + timeI (arcX rs i).knots t = _; rw [arcX_get hi])
    have b1 := hS.b1
    have v0 := hS.v0
    have HS := hide hS
    have HBB := hide (show betB (gphOf ns rs bs) o i t = decide (t + timeI rs[i].knots t < gi o i) by unfold betB; rw [HOUT.out, show decide (t < endT) = true from decide_eq_true he, Bool.true_and])
    have HBO := hide (show betO (gphOf ns rs bs) o i t = if betB (gphOf ns rs bs) o i t then o.set i (t + timeI rs[i].knots t) else o by unfold betO; rw [HOUT.out])
    have HI := hide hi
    clear hA hKO hS hAw hKx hLx hSx hko hc HOUT
    generalize timeI rs[i].knots t = z at *
    generalize rs[i].key = x0 at *
    generalize rs[i].from_ = x1 at *
    generalize rs[i].to_ = x2 at *
    generalize rs[i].long = x3 at *
    generalize rs[i].knots.length = x4 at *
    generalize rs[i].ka = x5 at *
    generalize rs[i].kc = x6 at *
    generalize betO (gphOf ns rs bs) o i t = BO at *
    generalize betB (gphOf ns rs bs) o i t = BB at *
    generalize hm : rs.length = m at *
    clear hm
    have i1 : (0 : Int) ≤ (i : Int) := by omega
    have i2 : (i : Int) < (m : Int) := by omega
    have q1 : IntKind.i64.wrap (t + z) = t + z := IntWalk.i64_in _ (by omega)
    have tE : decide (t ≥ 345686400000) = false := decide_eq_false (by omega)
    go_enter Tryz.func201, Tryz.ntmps201
    go_wp2_with fail
    refine HT.out.mono ?_
    rintro e w1 ⟨rfl, hn1⟩
    have HS1 := hide (HS.out.step hn1)
    have v1 := HS1.out.v0
    have hio : i < o.length := by rw [HS.out.len]; exact HI.out
    have x5' := intRowO_cell HS1.out.row hio
    have f5 : w1.frozen? ⟨w0.heap.size + 1, i, none⟩ = false := by simp [World.frozen?, HS1.out.row, intRowO]
    generalize gi o i = ov at *
    clear v0 b1 a0 a1 a2 a3 a4 hio
    by_cases hlt : t + z < ov
    · have tL : decide (ov ≤ t + z) = false := decide_eq_false (by omega)
      have hB : BB = true := by rw [HBB.out]; exact decide_eq_true hlt
      subst hB
      have HBO := hide (HBO.out.trans (if_pos rfl))
      clear hlt
      go_wp2_with fail
      go_ret
      rw [HBO.out]
      exact ⟨rfl, HS1.out.set i (t + z), ((Gr.of_nx hn1).setS (p := ⟨w0.heap.size + 1, i, none⟩) (.inl rfl) _)⟩
    · have tL : decide (ov ≤ t + z) = true := decide_eq_true (by omega)
      have hB : BB = false := by rw [HBB.out]; exact decide_eq_false hlt
      subst hB
      have HBO := hide (HBO.out.trans (if_neg (by simp)))
      clear hlt
      go_wp2_with fail
      go_ret
      rw [HBO.out]
      exact ⟨rfl, HS1.out, Gr.of_nx hn1⟩
  · have hB : betB (gphOf ns rs bs) o i t = false := by unfold betB; rw [show decide (t < endT) = false from decide_eq_false he, Bool.false_and]
    have hO : betO (gphOf ns rs bs) o i t = o := by unfold betO; rw [hB]; simp
    rw [hB, hO]
    have HS := hide hS
    clear hS hA hKO hB hO
    go_enter Tryz.func201, Tryz.ntmps201
    go_wp2_with fail
    go_ret
    exact ⟨rfl, HS.out, Gr.refl _ _⟩
end Go.Proofs.YtmpnilliichpfaaGreatDoor
