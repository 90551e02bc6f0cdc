/- The point of an arc that is nearest to a point: the reference (gen_spotr.py). -/
import Derived.Test.YtepbamacebjopaaGreatDoorQG2
import Derived.Test.YtepbamacebjopaaGreatDoorQG12
import Derived.Test.YtepbamacebjopaaGreatDoorQG8
import Derived.Deep.RegionHeldLaw
import Derived.Deep.DeepCutAuto
import Derived.Deep.DeepMust
namespace Go.Proofs.YtepbamacebjopaaGreatDoor
open Go.RowKit

theorem dot_long {dx dy ex ey : Int} (h : ¬ dx * ex + dy * ey ≤ 0) : ¬ dx * dx + dy * dy = 0 := by
  intro e
  have h1 : 0 ≤ dx * dx := by
    rcases Int.le_total 0 dx with h | h
    · exact Int.mul_nonneg h h
    · exact Int.mul_nonneg_of_nonpos_of_nonpos h h
  have h2 : 0 ≤ dy * dy := by
    rcases Int.le_total 0 dy with h | h
    · exact Int.mul_nonneg h h
    · exact Int.mul_nonneg_of_nonpos_of_nonpos h h
  have e1 : dx = 0 := (Int.mul_eq_zero.1 (show dx * dx = 0 by omega)).elim id id
  have e2 : dy = 0 := (Int.mul_eq_zero.1 (show dy * dy = 0 by omega)).elim id id
  subst e1 e2
  simp at h
set_option maxRecDepth 100000 in
set_option maxHeartbeats 8000000 in
theorem w_spotOnR (lo : Nat) (A B C : Option Addr) (nr nbb ca cb cc : Nat) (ns : List Node) (a : Arc) (x y : Int) (w : World) (hR : Rd w lo A 3 encNode ns) (hl : ns.length ≤ 65536) (hf : 0 ≤ nodeI ns a.from_) (ht : 0 ≤ nodeI ns a.to_) (hm : ∀ n ∈ ns, OnMap n.x n.y) (hxy : OnMap x y) :
    Calls Tryz.prog 58 #[.agg #[.slice A ns.length ca, .slice B nr cb, .slice C nbb cc], .agg #[.string a.key, .string a.from_, .string a.to_, .int .i64 a.long, .slice a.ka a.knots.length a.kc], .int .i64 x, .int .i64 y] w fun e w' => e = .returned (spotAgg (spotA ns a x y)) ∧ Nx w w' := by
  obtain ⟨i, hil, hi, hk1⟩ := node_found hf
  obtain ⟨j, hjl, hj, hk2⟩ := node_found ht
  clear hk1 hk2
  have hsA : spotA ns a x y = spotV a.key ((ns.getD j default).x - (ns.getD i default).x) ((ns.getD j default).y - (ns.getD i default).y) (x - (ns.getD i default).x) (y - (ns.getD i default).y) (x - (ns.getD j default).x) (y - (ns.getD j default).y) := by
    unfold spotA
    rw [hi, hj]
    rfl
  rw [hsA]
  clear hsA hf ht
  have hgi : ns.getD i default ∈ ns := by rw [List.getD_eq_getElem?_getD, List.getElem?_eq_getElem hil]; exact List.getElem_mem hil
  have hgj : ns.getD j default ∈ ns := by rw [List.getD_eq_getElem?_getD, List.getElem?_eq_getElem hjl]; exact List.getElem_mem hjl
  have hp := hm _ hgi
  have hq := hm _ hgj
  obtain ⟨w3, hw3⟩ : ∃ w3, w3 = ((w.alloc (.cells #[.slice A ns.length ca, .slice B nr cb, .slice C nbb cc] 30)).alloc (.cells #[.string a.key, .string a.from_, .string a.to_, .int .i64 a.long, .slice a.ka a.knots.length a.kc] 37)).alloc (.cells #[.string ⟨#[]⟩, .int .i64 0, .int .i64 0, .int .i64 0, .int .i64 0] 43) := ⟨_, rfl⟩
  have hx3 : Nx w w3 := hw3 ▸ (((Nx.refl w).alloc _).alloc _).alloc _
  have hsz : w3.heap.size = w.heap.size + 3 := by rw [hw3]; simp
  have g0 : w3.cell? ⟨w.heap.size, 0, none⟩ = some (.slice A ns.length ca) := by rw [hw3]; go_simp
  have g1 : w3.cell? ⟨w.heap.size, 1, none⟩ = some (.slice B nr cb) := by rw [hw3]; go_simp
  have g2 : w3.cell? ⟨w.heap.size, 2, none⟩ = some (.slice C nbb cc) := by rw [hw3]; go_simp
  have a0 : w3.cell? ⟨w.heap.size + 1, 0, none⟩ = some (.string a.key) := by rw [hw3]; go_simp
  have a1 : w3.cell? ⟨w.heap.size + 1, 1, none⟩ = some (.string a.from_) := by rw [hw3]; go_simp
  have a2 : w3.cell? ⟨w.heap.size + 1, 2, none⟩ = some (.string a.to_) := by rw [hw3]; go_simp
  have hb3 : w3.heap[w.heap.size + 1 + 1]? = some (.cells #[.string ⟨#[]⟩, .int .i64 0, .int .i64 0, .int .i64 0, .int .i64 0] 43 (0, 0)) := by rw [hw3]; exact hnew (by simp)
  obtain ⟨nb, noff, rfl, hq9, hnb, hq8, hc⟩ := (hR.nx hx3).open_ (Nx.refl w3) (by omega)
  have hgdi : ns.getD i default = ns[i] := by rw [List.getD_eq_getElem?_getD, List.getElem?_eq_getElem hil]; rfl
  have hgdj : ns.getD j default = ns[j] := by rw [List.getD_eq_getElem?_getD, List.getElem?_eq_getElem hjl]; rfl
  have p0 : w3.cell? ⟨nb, noff + i * 3, none⟩ = some (.string (ns.getD i default).key) := by rw [hgdi]; exact hc i hil 0 _ rfl
  have p1 : w3.cell? ⟨nb, noff + i * 3 + 1, none⟩ = some (.int .i64 (ns.getD i default).x) := by rw [hgdi]; exact hc i hil 1 _ rfl
  have p2 : w3.cell? ⟨nb, noff + i * 3 + 2, none⟩ = some (.int .i64 (ns.getD i default).y) := by rw [hgdi]; exact hc i hil 2 _ rfl
  have q0 : w3.cell? ⟨nb, noff + j * 3, none⟩ = some (.string (ns.getD j default).key) := by rw [hgdj]; exact hc j hjl 0 _ rfl
  have q1 : w3.cell? ⟨nb, noff + j * 3 + 1, none⟩ = some (.int .i64 (ns.getD j default).x) := by rw [hgdj]; exact hc j hjl 1 _ rfl
  have q2 : w3.cell? ⟨nb, noff + j * 3 + 2, none⟩ = some (.int .i64 (ns.getD j default).y) := by rw [hgdj]; exact hc j hjl 2 _ rfl
  clear hc hgdi hgdj hgi hgj hm hq9 hq8
  have HNA := hide (fun s W (hx : Nx w3 W) => w_NodeAt lo (some ⟨nb, noff, none⟩) B C nr nbb ca cb cc ns s W (hR.nx (hx3.trans hx)) hl)
  clear hR
  generalize hpp : ns.getD i default = p at *
  generalize hqq : ns.getD j default = q at *
  clear hpp hqq
  have HI := hide (show nodeI ns a.from_ = (i : Int) from hi)
  generalize ns.length = nn at *
  have HS := hide (fun W (hx : Nx w3 W) => (⟨nx_cell hx (by omega) g0, nx_cell hx (by omega) g1, nx_cell hx (by omega) g2, nx_cell hx (by omega) a0, nx_cell hx (by omega) a1, nx_cell hx (by omega) a2, nx_cell hx hnb p0, nx_cell hx hnb p1, nx_cell hx hnb p2, nx_cell hx hnb q0, nx_cell hx hnb q1, nx_cell hx hnb q2⟩ : W.cell? ⟨w.heap.size, 0, none⟩ = some (.slice (some ⟨nb, noff, none⟩) nn ca) ∧ W.cell? ⟨w.heap.size, 1, none⟩ = some (.slice B nr cb) ∧ W.cell? ⟨w.heap.size, 2, none⟩ = some (.slice C nbb cc) ∧ W.cell? ⟨w.heap.size + 1, 0, none⟩ = some (.string a.key) ∧ W.cell? ⟨w.heap.size + 1, 1, none⟩ = some (.string a.from_) ∧ W.cell? ⟨w.heap.size + 1, 2, none⟩ = some (.string a.to_) ∧ W.cell? ⟨nb, noff + i * 3, none⟩ = some (.string p.key) ∧ W.cell? ⟨nb, noff + i * 3 + 1, none⟩ = some (.int .i64 p.x) ∧ W.cell? ⟨nb, noff + i * 3 + 2, none⟩ = some (.int .i64 p.y) ∧ W.cell? ⟨nb, noff + j * 3, none⟩ = some (.string q.key) ∧ W.cell? ⟨nb, noff + j * 3 + 1, none⟩ = some (.int .i64 q.x) ∧ W.cell? ⟨nb, noff + j * 3 + 2, none⟩ = some (.int .i64 q.y)))
  have HB3 := hide hb3
  have HX3 := hide hx3
  have HW3 := hide hw3
  have HSZ := hide hsz
  clear g0 g1 g2 a0 a1 a2 p0 p1 p2 q0 q1 q2 hb3 hx3 hw3 hsz HI
  obtain ⟨p1, p2, p3, p4⟩ := hp
  obtain ⟨q1, q2, q3, q4⟩ := hq
  obtain ⟨x1, x2, x3, x4⟩ := hxy
  obtain ⟨dx, hdx⟩ : ∃ z, z = q.x - p.x := ⟨_, rfl⟩
  obtain ⟨dy, hdy⟩ : ∃ z, z = q.y - p.y := ⟨_, rfl⟩
  obtain ⟨ex, hex⟩ : ∃ z, z = x - p.x := ⟨_, rfl⟩
  obtain ⟨ey, hey⟩ : ∃ z, z = y - p.y := ⟨_, rfl⟩
  obtain ⟨fx, hfx⟩ : ∃ z, z = x - q.x := ⟨_, rfl⟩
  obtain ⟨fy, hfy⟩ : ∃ z, z = y - q.y := ⟨_, rfl⟩
  have W1 : IntKind.i64.wrap (q.x - p.x) = dx := wrapTo hdx (by omega)
  have W2 : IntKind.i64.wrap (q.y - p.y) = dy := wrapTo hdy (by omega)
  have W3 : IntKind.i64.wrap (x - p.x) = ex := wrapTo hex (by omega)
  have W4 : IntKind.i64.wrap (y - p.y) = ey := wrapTo hey (by omega)
  have W5 : IntKind.i64.wrap (x - q.x) = fx := wrapTo hfx (by omega)
  have W6 : IntKind.i64.wrap (y - q.y) = fy := wrapTo hfy (by omega)
  have hb : SpotBd dx dy ex ey fx fy := spotBd (by omega) (by omega) (by omega) (by omega) (by omega) (by omega)
  rw [← hdx, ← hdy, ← hex, ← hey, ← hfx, ← hfy]
  clear p1 p2 p3 p4 q1 q2 q3 q4 x1 x2 x3 x4 hdx hdy hex hey hfx hfy
  have hL : ¬ dx * ex + dy * ey ≤ 0 → ¬ dx * dx + dy * dy = 0 := dot_long
  obtain ⟨R, hR⟩ : ∃ R, R = spotV a.key dx dy ex ey fx fy := ⟨_, rfl⟩
  rw [← hR]
  obtain ⟨a1, a2, a3, a4, a5, a6, a7, a8, a9, a10, a11⟩ := hb
  unfold spotV at hR
  obtain ⟨s1, h1⟩ : ∃ z, z = dx * dx := ⟨_, rfl⟩
  obtain ⟨s2, h2⟩ : ∃ z, z = dy * dy := ⟨_, rfl⟩
  obtain ⟨s3, h3⟩ : ∃ z, z = dx * ex := ⟨_, rfl⟩
  obtain ⟨s4, h4⟩ : ∃ z, z = dy * ey := ⟨_, rfl⟩
  obtain ⟨s5, h5⟩ : ∃ z, z = ex * ex := ⟨_, rfl⟩
  obtain ⟨s6, h6⟩ : ∃ z, z = ey * ey := ⟨_, rfl⟩
  obtain ⟨s7, h7⟩ : ∃ z, z = fx * fx := ⟨_, rfl⟩
  obtain ⟨s8, h8⟩ : ∃ z, z = fy * fy := ⟨_, rfl⟩
  obtain ⟨g1, h9⟩ : ∃ z, z = dx * ey := ⟨_, rfl⟩
  obtain ⟨g2, h10⟩ : ∃ z, z = dy * ex := ⟨_, rfl⟩
  rw [← h1] at a1; rw [← h2] at a2; rw [← h3] at a3; rw [← h4] at a4; rw [← h5] at a5; rw [← h6] at a6; rw [← h7] at a7; rw [← h8] at a8
  rw [← h9, ← h10] at a11; rw [← h9] at a9; rw [← h10] at a10
  have W7 : IntKind.i64.wrap (dx * dx) = s1 := wrapTo h1 (by omega)
  have W8 : IntKind.i64.wrap (dy * dy) = s2 := wrapTo h2 (by omega)
  have W10 : IntKind.i64.wrap (dx * ex) = s3 := wrapTo h3 (by omega)
  have W11 : IntKind.i64.wrap (dy * ey) = s4 := wrapTo h4 (by omega)
  have W13 : IntKind.i64.wrap (ex * ex) = s5 := wrapTo h5 (by omega)
  have W14 : IntKind.i64.wrap (ey * ey) = s6 := wrapTo h6 (by omega)
  have W16 : IntKind.i64.wrap (fx * fx) = s7 := wrapTo h7 (by omega)
  have W17 : IntKind.i64.wrap (fy * fy) = s8 := wrapTo h8 (by omega)
  have W19 : IntKind.i64.wrap (dx * ey) = g1 := wrapTo h9 (by omega)
  have W20 : IntKind.i64.wrap (dy * ex) = g2 := wrapTo h10 (by omega)
  simp only [← h1, ← h2, ← h3, ← h4, ← h5, ← h6, ← h7, ← h8, ← h9, ← h10] at hR
  rw [← h1, ← h2, ← h3, ← h4] at hL
  clear h1 h2 h3 h4 h5 h6 h7 h8 h9 h10
  obtain ⟨long, h1⟩ : ∃ z, z = s1 + s2 := ⟨_, rfl⟩
  obtain ⟨dot, h2⟩ : ∃ z, z = s3 + s4 := ⟨_, rfl⟩
  obtain ⟨ee, h3⟩ : ∃ z, z = s5 + s6 := ⟨_, rfl⟩
  obtain ⟨ff, h4⟩ : ∃ z, z = s7 + s8 := ⟨_, rfl⟩
  obtain ⟨cr, h5⟩ : ∃ z, z = g1 - g2 := ⟨_, rfl⟩
  rw [← h5] at a11
  obtain ⟨n2, h6⟩ : ∃ z, z = cr * cr := ⟨_, rfl⟩
  rw [← h6] at a11
  have W9 : IntKind.i64.wrap (s1 + s2) = long := wrapTo h1 (by omega)
  have W12 : IntKind.i64.wrap (s3 + s4) = dot := wrapTo h2 (by omega)
  have W15 : IntKind.i64.wrap (s5 + s6) = ee := wrapTo h3 (by omega)
  have W18 : IntKind.i64.wrap (s7 + s8) = ff := wrapTo h4 (by omega)
  have W21 : IntKind.i64.wrap (g1 - g2) = cr := wrapTo h5 (by omega)
  have W22 : IntKind.i64.wrap (cr * cr) = n2 := wrapTo h6 (by omega)
  simp only [← h1, ← h2, ← h3, ← h4, ← h5] at hR
  rw [← h6] at hR
  simp only [← h1, ← h2] at hL
  have HV := hide hR
  have HE0 := hide (show 0 ≤ ee by omega)
  have HF0 := hide (show 0 ≤ ff by omega)
  have HL0 := hide (show 0 ≤ long ∧ long ≤ 800000000 by omega)
  have HD0 := hide (show dot ≤ 800000000 by omega)
  have HN0 := hide a11
  clear a1 a2 a3 a4 a5 a6 a7 a8 a9 a10 a11 h1 h2 h3 h4 h5 h6 hR
  have HLN := hide hL
  clear hL
  go_enter Tryz.func58, Tryz.ntmps58
  go_upto_region 1 with fail
  rw [← HW3.out]
  clear HW3
  go_cut [9, 10] (fun va vb wx => ∃ P1 P2 : Nat, va = .pointer (some ⟨P1, 0, none⟩) ∧ vb = .pointer (some ⟨P2, 0, none⟩) ∧ wx.cell? ⟨P1, 1, none⟩ = some (.int .i64 p.x) ∧ wx.cell? ⟨P1, 2, none⟩ = some (.int .i64 p.y) ∧ wx.cell? ⟨P2, 1, none⟩ = some (.int .i64 q.x) ∧ wx.cell? ⟨P2, 2, none⟩ = some (.int .i64 q.y) ∧ Nx w3 wx)
  case first =>
    have i1 : (0 : Int) ≤ (i : Int) := by omega
    have i2 : (i : Int) < (nn : Int) := by omega
    have j1 : (0 : Int) ≤ (j : Int) := by omega
    have j2 : (j : Int) < (nn : Int) := by omega
    have hx : Nx w3 w3.drew := (Nx.refl w3).drew
    refine wp_region_held_drew (S := fun W => W.cell? ⟨w.heap.size, 0, none⟩ = some (.slice (some ⟨nb, noff, none⟩) nn ca) ∧ W.cell? ⟨w.heap.size, 1, none⟩ = some (.slice B nr cb) ∧ W.cell? ⟨w.heap.size, 2, none⟩ = some (.slice C nbb cc) ∧ W.cell? ⟨w.heap.size + 1, 0, none⟩ = some (.string a.key) ∧ W.cell? ⟨w.heap.size + 1, 1, none⟩ = some (.string a.from_) ∧ W.cell? ⟨w.heap.size + 1, 2, none⟩ = some (.string a.to_) ∧ W.cell? ⟨nb, noff + i * 3, none⟩ = some (.string p.key) ∧ W.cell? ⟨nb, noff + i * 3 + 1, none⟩ = some (.int .i64 p.x) ∧ W.cell? ⟨nb, noff + i * 3 + 2, none⟩ = some (.int .i64 p.y) ∧ W.cell? ⟨nb, noff + j * 3, none⟩ = some (.string q.key) ∧ W.cell? ⟨nb, noff + j * 3 + 1, none⟩ = some (.int .i64 q.x) ∧ W.cell? ⟨nb, noff + j * 3 + 2, none⟩ = some (.int .i64 q.y)) (by kernel_rfl) (HS.out _ hx) (fun hHeld => ?_)
    generalize w3.drew = wd at *
    refine wpAnyH_take (i := 0) (oi := ⟨some 20, _, _, _, _, _⟩) (v := ?_) rfl (by kernel_rfl) (by kernel_rfl) (by kernel_rfl) (fun _ _ _ h => h) (Or.inl ⟨by rfl, ?_⟩) (by assumption) ?_
    rotate_left 1
    · intro w hSw
      (try dsimp only at hSw)
      go_simp
      try with_reducible rfl
    try simp only [Act.put, List.setIfInBounds_toArray, List.set_cons_zero, List.set_cons_succ]
    refine wpAnyH_take (i := 1) (oi := ⟨some 21, _, _, _, _, _⟩) (v := ?_) rfl (by kernel_rfl) (by kernel_rfl) (by kernel_rfl) (fun _ _ _ h => h) (Or.inl ⟨by rfl, ?_⟩) (by assumption) ?_
    rotate_left 1
    · intro w hSw
      (try dsimp only at hSw)
      go_simp
      try with_reducible rfl
    try simp only [Act.put, List.setIfInBounds_toArray, List.set_cons_zero, List.set_cons_succ]
    refine wpAnyH_take (i := 2) (oi := ⟨some 22, _, _, _, _, _⟩) (v := ?_) rfl (by kernel_rfl) (by kernel_rfl) (by kernel_rfl) (fun _ _ _ h => h) (Or.inl ⟨by rfl, ?_⟩) (by assumption) ?_
    rotate_left 1
    · intro w hSw
      (try dsimp only at hSw)
      go_simp
      try with_reducible rfl
    try simp only [Act.put, List.setIfInBounds_toArray, List.set_cons_zero, List.set_cons_succ]
    refine wpAnyH_take (i := 3) (oi := ⟨some 23, _, _, _, _, _⟩) (v := ?_) rfl (by kernel_rfl) (by kernel_rfl) (by kernel_rfl) (fun _ _ _ h => h) (Or.inl ⟨by rfl, ?_⟩) (by assumption) ?_
    rotate_left 1
    · intro w hSw
      (try dsimp only at hSw)
      go_simp
      try with_reducible rfl
    try simp only [Act.put, List.setIfInBounds_toArray, List.set_cons_zero, List.set_cons_succ]
    refine wpAnyH_take (i := 4) (oi := ⟨some 24, _, _, _, _, _⟩) (v := ?_) rfl (by kernel_rfl) (by kernel_rfl) (by kernel_rfl) (fun _ _ _ h => h) (Or.inl ⟨by rfl, ?_⟩) (by assumption) ?_
    rotate_left 1
    · intro w hSw
      (try dsimp only at hSw)
      go_simp
      try with_reducible rfl
    try simp only [Act.put, List.setIfInBounds_toArray, List.set_cons_zero, List.set_cons_succ]
    refine wpAnyH_take (i := 8) (oi := ⟨some 28, _, _, _, _, _⟩) (v := ?_) rfl (by kernel_rfl) (by kernel_rfl) (by kernel_rfl) (fun _ _ _ h => h) (Or.inl ⟨by rfl, ?_⟩) (by assumption) ?_
    rotate_left 1
    · intro w hSw
      (try dsimp only at hSw)
      go_simp
      try with_reducible rfl
    try simp only [Act.put, List.setIfInBounds_toArray, List.set_cons_zero, List.set_cons_succ]
    refine wpAnyH_take (i := 9) (oi := ⟨some 29, _, _, _, _, _⟩) (v := ?_) rfl (by kernel_rfl) (by kernel_rfl) (by kernel_rfl) (fun _ _ _ h => h) (Or.inl ⟨by rfl, ?_⟩) (by assumption) ?_
    rotate_left 1
    · intro w hSw
      (try dsimp only at hSw)
      go_simp
      try with_reducible rfl
    try simp only [Act.put, List.setIfInBounds_toArray, List.set_cons_zero, List.set_cons_succ]
    refine wpAnyH_take (i := 10) (oi := ⟨some 30, _, _, _, _, _⟩) (v := ?_) rfl (by kernel_rfl) (by kernel_rfl) (by kernel_rfl) (fun _ _ _ h => h) (Or.inl ⟨by rfl, ?_⟩) (by assumption) ?_
    rotate_left 1
    · intro w hSw
      (try dsimp only at hSw)
      go_simp
      try with_reducible rfl
    try simp only [Act.put, List.setIfInBounds_toArray, List.set_cons_zero, List.set_cons_succ]
    refine wpAnyH_take (i := 11) (oi := ⟨some 31, _, _, _, _, _⟩) (v := ?_) rfl (by kernel_rfl) (by kernel_rfl) (by kernel_rfl) (fun _ _ _ h => h) (Or.inl ⟨by rfl, ?_⟩) (by assumption) ?_
    rotate_left 1
    · intro w hSw
      (try dsimp only at hSw)
      go_simp
      try with_reducible rfl
    try simp only [Act.put, List.setIfInBounds_toArray, List.set_cons_zero, List.set_cons_succ]
    refine wpAnyH_take (i := 12) (oi := ⟨some 32, _, _, _, _, _⟩) (v := ?_) rfl (by kernel_rfl) (by kernel_rfl) (by kernel_rfl) (fun _ _ _ h => h) (Or.inl ⟨by rfl, ?_⟩) (by assumption) ?_
    rotate_left 1
    · intro w hSw
      (try dsimp only at hSw)
      go_simp
      try with_reducible rfl
    try simp only [Act.put, List.setIfInBounds_toArray, List.set_cons_zero, List.set_cons_succ]
    refine wpAnyH_ready (rs := [5, 16, 17]) (by kernel_rfl) (by simp) ?_
    refine AllReadyH.cons rfl (fun K hK => ?_) ?_
    · skip
      go_simp
      go_at_call 49
      refine (HNA.out a.from_ (wd) hx).mono ?_
      rintro e wz1 ⟨rfl, hnz⟩
      rw [hi]
      have hz1 := hx.trans hnz
      clear hnz
      go_simp
      refine hK.out _ _ (HS.out _ hz1) (fun hHeld => ?_)
      clear hK K
      try simp only [Act.put, List.setIfInBounds_toArray, List.set_cons_zero, List.set_cons_succ]
      refine wpAnyH_take (i := 6) (oi := ⟨some 26, _, _, _, _, _⟩) (v := ?_) rfl (by kernel_rfl) (by kernel_rfl) (by kernel_rfl) (fun _ _ _ h => h) (Or.inl ⟨by rfl, ?_⟩) (by assumption) ?_
      rotate_left 1
      · intro w hSw
        (try dsimp only at hSw)
        go_simp
        try with_reducible rfl
      try simp only [Act.put, List.setIfInBounds_toArray, List.set_cons_zero, List.set_cons_succ]
      refine wpAnyH_take (i := 7) (oi := ⟨some 27, _, _, _, _, _⟩) (v := ?_) rfl (by kernel_rfl) (by kernel_rfl) (by kernel_rfl) (fun _ _ _ h => h) (Or.inl ⟨by rfl, ?_⟩) (by assumption) ?_
      rotate_left 1
      · intro w hSw
        (try dsimp only at hSw)
        go_simp
        try with_reducible rfl
      try simp only [Act.put, List.setIfInBounds_toArray, List.set_cons_zero, List.set_cons_succ]
      refine wpAnyH_ready (rs := [13, 16, 17]) (by kernel_rfl) (by simp) ?_
      refine AllReadyH.cons rfl (fun K hK => ?_) ?_
      · skip
        go_simp
        go_at_call 49
        refine (HNA.out a.to_ (wz1) hz1).mono ?_
        rintro e wz2 ⟨rfl, hnz⟩
        rw [hj]
        have hz2 := hz1.trans hnz
        clear hnz
        go_simp
        refine hK.out _ _ (HS.out _ hz2) (fun hHeld => ?_)
        clear hK K
        try simp only [Act.put, List.setIfInBounds_toArray, List.set_cons_zero, List.set_cons_succ]
        refine wpAnyH_take (i := 14) (oi := ⟨some 34, _, _, _, _, _⟩) (v := ?_) rfl (by kernel_rfl) (by kernel_rfl) (by kernel_rfl) (fun _ _ _ h => h) (Or.inl ⟨by rfl, ?_⟩) (by assumption) ?_
        rotate_left 1
        · intro w hSw
          (try dsimp only at hSw)
          go_simp
          try with_reducible rfl
        try simp only [Act.put, List.setIfInBounds_toArray, List.set_cons_zero, List.set_cons_succ]
        refine wpAnyH_take (i := 15) (oi := ⟨some 35, _, _, _, _, _⟩) (v := ?_) rfl (by kernel_rfl) (by kernel_rfl) (by kernel_rfl) (fun _ _ _ h => h) (Or.inl ⟨by rfl, ?_⟩) (by assumption) ?_
        rotate_left 1
        · intro w hSw
          (try dsimp only at hSw)
          go_simp
          try with_reducible rfl
        try simp only [Act.put, List.setIfInBounds_toArray, List.set_cons_zero, List.set_cons_succ]
        refine wpAnyH_ready (rs := [16, 17]) (by kernel_rfl) (by simp) ?_
        refine AllReadyH.cons rfl (fun K hK => ?_) ?_
        · skip
          go_simp
          obtain ⟨P0_3, hP⟩ : ∃ P, P = (wz2).heap.size := ⟨_, rfl⟩
          have HB0_3 := hide (hnew hP : ((wz2).alloc (.cells #[.string ⟨#[]⟩, .int .i64 0, .int .i64 0] 74)).heap[P0_3]? = some (.cells #[.string ⟨#[]⟩, .int .i64 0, .int .i64 0] 74 (0, 0)))
          have hz3 := hz2.alloc (.cells #[.string ⟨#[]⟩, .int .i64 0, .int .i64 0] 74)
          have hlo0 : w3.heap.size ≤ P0_3 := by rw [hP]; exact hz2.sz
          rw [← hP]
          clear hP
          generalize (wz2).alloc (.cells #[.string ⟨#[]⟩, .int .i64 0, .int .i64 0] 74) = wz3 at *
          refine hK.out _ _ (HS.out _ hz3) (fun hHeld => ?_)
          clear hK K
          try simp only [Act.put, List.setIfInBounds_toArray, List.set_cons_zero, List.set_cons_succ]
          refine wpAnyH_ready (rs := [17]) (by kernel_rfl) (by simp) ?_
          refine AllReadyH.cons rfl (fun K hK => ?_) AllReadyH.nil
          go_simp
          obtain ⟨P1_4, hP⟩ : ∃ P, P = (wz3).heap.size := ⟨_, rfl⟩
          have HB1_4 := hide (hnew hP : ((wz3).alloc (.cells #[.string ⟨#[]⟩, .int .i64 0, .int .i64 0] 74)).heap[P1_4]? = some (.cells #[.string ⟨#[]⟩, .int .i64 0, .int .i64 0] 74 (0, 0)))
          have hz4 := hz3.alloc (.cells #[.string ⟨#[]⟩, .int .i64 0, .int .i64 0] 74)
          have hlo1 : w3.heap.size ≤ P1_4 := by rw [hP]; exact hz3.sz
          have hne : P0_3 ≠ P1_4 := by have := lt_of_heap HB0_3.out; omega
          have HB0_4 := hide ((((Nx.refl (wz3)).alloc (.cells #[.string ⟨#[]⟩, .int .i64 0, .int .i64 0] 74)).block _ (lt_of_heap HB0_3.out)).trans HB0_3.out)
          rw [← hP]
          clear hP
          generalize (wz3).alloc (.cells #[.string ⟨#[]⟩, .int .i64 0, .int .i64 0] 74) = wz4 at *
          refine hK.out _ _ (HS.out _ hz4) (fun hHeld => ?_)
          clear hK K
          try simp only [Act.put, List.setIfInBounds_toArray, List.set_cons_zero, List.set_cons_succ]
          have ka0 : wz4.cell? ⟨P0_3, 0, none⟩ = some (.string ⟨#[]⟩) := by rw [World.cell?, HB0_4.out]; rfl
          have za0 : wz4.frozen? ⟨P0_3, 0, none⟩ = false := by simp [World.frozen?, HB0_4.out]
          have ka1 : wz4.cell? ⟨P0_3, 1, none⟩ = some (.int .i64 0) := by rw [World.cell?, HB0_4.out]; rfl
          have za1 : wz4.frozen? ⟨P0_3, 1, none⟩ = false := by simp [World.frozen?, HB0_4.out]
          have ka2 : wz4.cell? ⟨P0_3, 2, none⟩ = some (.int .i64 0) := by rw [World.cell?, HB0_4.out]; rfl
          have za2 : wz4.frozen? ⟨P0_3, 2, none⟩ = false := by simp [World.frozen?, HB0_4.out]
          have kb0 : wz4.cell? ⟨P1_4, 0, none⟩ = some (.string ⟨#[]⟩) := by rw [World.cell?, HB1_4.out]; rfl
          have zb0 : wz4.frozen? ⟨P1_4, 0, none⟩ = false := by simp [World.frozen?, HB1_4.out]
          have kb1 : wz4.cell? ⟨P1_4, 1, none⟩ = some (.int .i64 0) := by rw [World.cell?, HB1_4.out]; rfl
          have zb1 : wz4.frozen? ⟨P1_4, 1, none⟩ = false := by simp [World.frozen?, HB1_4.out]
          have kb2 : wz4.cell? ⟨P1_4, 2, none⟩ = some (.int .i64 0) := by rw [World.cell?, HB1_4.out]; rfl
          have zb2 : wz4.frozen? ⟨P1_4, 2, none⟩ = false := by simp [World.frozen?, HB1_4.out]
          have hne2 : P1_4 ≠ P0_3 := by omega
          refine wpAnyH_ready (rs := [18]) (by kernel_rfl) (by simp) ?_
          refine AllReadyH.cons rfl (fun K hK => ?_) AllReadyH.nil
          go_simp
          have hst0 := (((hz4.setCell (p := ⟨P0_3, 0, none⟩) hlo0 (.string p.key)).setCell (p := ⟨P0_3, 1, none⟩) hlo0 (.int .i64 p.x)).setCell (p := ⟨P0_3, 2, none⟩) hlo0 (.int .i64 p.y))
          refine hK.out _ _ (HS.out _ hst0) (fun hHeld => ?_)
          clear hK K
          try simp only [Act.put, List.setIfInBounds_toArray, List.set_cons_zero, List.set_cons_succ]
          refine wpAnyH_ready (rs := [19]) (by kernel_rfl) (by simp) ?_
          refine AllReadyH.cons rfl (fun K hK => ?_) AllReadyH.nil
          go_simp
          have hst1 := (((hst0.setCell (p := ⟨P1_4, 0, none⟩) hlo1 (.string q.key)).setCell (p := ⟨P1_4, 1, none⟩) hlo1 (.int .i64 q.x)).setCell (p := ⟨P1_4, 2, none⟩) hlo1 (.int .i64 q.y))
          refine hK.out _ _ (HS.out _ hst1) (fun hHeld => ?_)
          clear hK K
          try simp only [Act.put, List.setIfInBounds_toArray, List.set_cons_zero, List.set_cons_succ]
          refine wpAnyH_done (by kernel_rfl) ?_ _
          go_wp2
          go_meet
          refine ⟨P0_3, P1_4, rfl, rfl, ?_, ?_, ?_, ?_, hst1⟩
          all_goals (simp [World.cell?_setCell_same, World.cell?_setCell_other, ka1, ka2, kb1, kb2])
        refine AllReadyH.cons rfl (fun K hK => ?_) AllReadyH.nil
        go_simp
        obtain ⟨P1_5, hP⟩ : ∃ P, P = (wz2).heap.size := ⟨_, rfl⟩
        have HB1_5 := hide (hnew hP : ((wz2).alloc (.cells #[.string ⟨#[]⟩, .int .i64 0, .int .i64 0] 74)).heap[P1_5]? = some (.cells #[.string ⟨#[]⟩, .int .i64 0, .int .i64 0] 74 (0, 0)))
        have hz5 := hz2.alloc (.cells #[.string ⟨#[]⟩, .int .i64 0, .int .i64 0] 74)
        have hlo1 : w3.heap.size ≤ P1_5 := by rw [hP]; exact hz2.sz
        rw [← hP]
        clear hP
        generalize (wz2).alloc (.cells #[.string ⟨#[]⟩, .int .i64 0, .int .i64 0] 74) = wz5 at *
        refine hK.out _ _ (HS.out _ hz5) (fun hHeld => ?_)
        clear hK K
        try simp only [Act.put, List.setIfInBounds_toArray, List.set_cons_zero, List.set_cons_succ]
        refine wpAnyH_ready (rs := [16]) (by kernel_rfl) (by simp) ?_
        refine AllReadyH.cons rfl (fun K hK => ?_) AllReadyH.nil
        go_simp
        obtain ⟨P0_6, hP⟩ : ∃ P, P = (wz5).heap.size := ⟨_, rfl⟩
        have HB0_6 := hide (hnew hP : ((wz5).alloc (.cells #[.string ⟨#[]⟩, .int .i64 0, .int .i64 0] 74)).heap[P0_6]? = some (.cells #[.string ⟨#[]⟩, .int .i64 0, .int .i64 0] 74 (0, 0)))
        have hz6 := hz5.alloc (.cells #[.string ⟨#[]⟩, .int .i64 0, .int .i64 0] 74)
        have hlo0 : w3.heap.size ≤ P0_6 := by rw [hP]; exact hz5.sz
        have hne : P1_5 ≠ P0_6 := by have := lt_of_heap HB1_5.out; omega
        have HB1_6 := hide ((((Nx.refl (wz5)).alloc (.cells #[.string ⟨#[]⟩, .int .i64 0, .int .i64 0] 74)).block _ (lt_of_heap HB1_5.out)).trans HB1_5.out)
        rw [← hP]
        clear hP
        generalize (wz5).alloc (.cells #[.string ⟨#[]⟩, .int .i64 0, .int .i64 0] 74) = wz6 at *
        refine hK.out _ _ (HS.out _ hz6) (fun hHeld => ?_)
        clear hK K
        try simp only [Act.put, List.setIfInBounds_toArray, List.set_cons_zero, List.set_cons_succ]
        have ka0 : wz6.cell? ⟨P0_6, 0, none⟩ = some (.string ⟨#[]⟩) := by rw [World.cell?, HB0_6.out]; rfl
        have za0 : wz6.frozen? ⟨P0_6, 0, none⟩ = false := by simp [World.frozen?, HB0_6.out]
        have ka1 : wz6.cell? ⟨P0_6, 1, none⟩ = some (.int .i64 0) := by rw [World.cell?, HB0_6.out]; rfl
        have za1 : wz6.frozen? ⟨P0_6, 1, none⟩ = false := by simp [World.frozen?, HB0_6.out]
        have ka2 : wz6.cell? ⟨P0_6, 2, none⟩ = some (.int .i64 0) := by rw [World.cell?, HB0_6.out]; rfl
        have za2 : wz6.frozen? ⟨P0_6, 2, none⟩ = false := by simp [World.frozen?, HB0_6.out]
        have kb0 : wz6.cell? ⟨P1_5, 0, none⟩ = some (.string ⟨#[]⟩) := by rw [World.cell?, HB1_6.out]; rfl
        have zb0 : wz6.frozen? ⟨P1_5, 0, none⟩ = false := by simp [World.frozen?, HB1_6.out]
        have kb1 : wz6.cell? ⟨P1_5, 1, none⟩ = some (.int .i64 0) := by rw [World.cell?, HB1_6.out]; rfl
        have zb1 : wz6.frozen? ⟨P1_5, 1, none⟩ = false := by simp [World.frozen?, HB1_6.out]
        have kb2 : wz6.cell? ⟨P1_5, 2, none⟩ = some (.int .i64 0) := by rw [World.cell?, HB1_6.out]; rfl
        have zb2 : wz6.frozen? ⟨P1_5, 2, none⟩ = false := by simp [World.frozen?, HB1_6.out]
        have hne2 : P1_5 ≠ P0_6 := by omega
        refine wpAnyH_ready (rs := [18]) (by kernel_rfl) (by simp) ?_
        refine AllReadyH.cons rfl (fun K hK => ?_) AllReadyH.nil
        go_simp
        have hst0 := (((hz6.setCell (p := ⟨P0_6, 0, none⟩) hlo0 (.string p.key)).setCell (p := ⟨P0_6, 1, none⟩) hlo0 (.int .i64 p.x)).setCell (p := ⟨P0_6, 2, none⟩) hlo0 (.int .i64 p.y))
        refine hK.out _ _ (HS.out _ hst0) (fun hHeld => ?_)
        clear hK K
        try simp only [Act.put, List.setIfInBounds_toArray, List.set_cons_zero, List.set_cons_succ]
        refine wpAnyH_ready (rs := [19]) (by kernel_rfl) (by simp) ?_
        refine AllReadyH.cons rfl (fun K hK => ?_) AllReadyH.nil
        go_simp
        have hst1 := (((hst0.setCell (p := ⟨P1_5, 0, none⟩) hlo1 (.string q.key)).setCell (p := ⟨P1_5, 1, none⟩) hlo1 (.int .i64 q.x)).setCell (p := ⟨P1_5, 2, none⟩) hlo1 (.int .i64 q.y))
        refine hK.out _ _ (HS.out _ hst1) (fun hHeld => ?_)
        clear hK K
        try simp only [Act.put, List.setIfInBounds_toArray, List.set_cons_zero, List.set_cons_succ]
        refine wpAnyH_done (by kernel_rfl) ?_ _
        go_wp2
        go_meet
        refine ⟨P0_6, P1_5, rfl, rfl, ?_, ?_, ?_, ?_, hst1⟩
        all_goals (simp [World.cell?_setCell_same, World.cell?_setCell_other, ka1, ka2, kb1, kb2])
      refine AllReadyH.cons rfl (fun K hK => ?_) ?_
      · skip
        go_simp
        obtain ⟨P0_7, hP⟩ : ∃ P, P = (wz1).heap.size := ⟨_, rfl⟩
        have HB0_7 := hide (hnew hP : ((wz1).alloc (.cells #[.string ⟨#[]⟩, .int .i64 0, .int .i64 0] 74)).heap[P0_7]? = some (.cells #[.string ⟨#[]⟩, .int .i64 0, .int .i64 0] 74 (0, 0)))
        have hz7 := hz1.alloc (.cells #[.string ⟨#[]⟩, .int .i64 0, .int .i64 0] 74)
        have hlo0 : w3.heap.size ≤ P0_7 := by rw [hP]; exact hz1.sz
        rw [← hP]
        clear hP
        generalize (wz1).alloc (.cells #[.string ⟨#[]⟩, .int .i64 0, .int .i64 0] 74) = wz7 at *
        refine hK.out _ _ (HS.out _ hz7) (fun hHeld => ?_)
        clear hK K
        try simp only [Act.put, List.setIfInBounds_toArray, List.set_cons_zero, List.set_cons_succ]
        refine wpAnyH_ready (rs := [13, 17]) (by kernel_rfl) (by simp) ?_
        refine AllReadyH.cons rfl (fun K hK => ?_) ?_
        · skip
          go_simp
          go_at_call 49
          refine (HNA.out a.to_ (wz7) hz7).mono ?_
          rintro e wz8 ⟨rfl, hnz⟩
          rw [hj]
          have hz8 := hz7.trans hnz
          have HB0_8 := hide ((hnz.block _ (lt_of_heap HB0_7.out)).trans HB0_7.out)
          clear hnz
          go_simp
          refine hK.out _ _ (HS.out _ hz8) (fun hHeld => ?_)
          clear hK K
          try simp only [Act.put, List.setIfInBounds_toArray, List.set_cons_zero, List.set_cons_succ]
          refine wpAnyH_take (i := 14) (oi := ⟨some 34, _, _, _, _, _⟩) (v := ?_) rfl (by kernel_rfl) (by kernel_rfl) (by kernel_rfl) (fun _ _ _ h => h) (Or.inl ⟨by rfl, ?_⟩) (by assumption) ?_
          rotate_left 1
          · intro w hSw
            (try dsimp only at hSw)
            go_simp
            try with_reducible rfl
          try simp only [Act.put, List.setIfInBounds_toArray, List.set_cons_zero, List.set_cons_succ]
          refine wpAnyH_take (i := 15) (oi := ⟨some 35, _, _, _, _, _⟩) (v := ?_) rfl (by kernel_rfl) (by kernel_rfl) (by kernel_rfl) (fun _ _ _ h => h) (Or.inl ⟨by rfl, ?_⟩) (by assumption) ?_
          rotate_left 1
          · intro w hSw
            (try dsimp only at hSw)
            go_simp
            try with_reducible rfl
          try simp only [Act.put, List.setIfInBounds_toArray, List.set_cons_zero, List.set_cons_succ]
          refine wpAnyH_ready (rs := [17]) (by kernel_rfl) (by simp) ?_
          refine AllReadyH.cons rfl (fun K hK => ?_) AllReadyH.nil
          go_simp
          obtain ⟨P1_9, hP⟩ : ∃ P, P = (wz8).heap.size := ⟨_, rfl⟩
          have HB1_9 := hide (hnew hP : ((wz8).alloc (.cells #[.string ⟨#[]⟩, .int .i64 0, .int .i64 0] 74)).heap[P1_9]? = some (.cells #[.string ⟨#[]⟩, .int .i64 0, .int .i64 0] 74 (0, 0)))
          have hz9 := hz8.alloc (.cells #[.string ⟨#[]⟩, .int .i64 0, .int .i64 0] 74)
          have hlo1 : w3.heap.size ≤ P1_9 := by rw [hP]; exact hz8.sz
          have hne : P0_7 ≠ P1_9 := by have := lt_of_heap HB0_8.out; omega
          have HB0_9 := hide ((((Nx.refl (wz8)).alloc (.cells #[.string ⟨#[]⟩, .int .i64 0, .int .i64 0] 74)).block _ (lt_of_heap HB0_8.out)).trans HB0_8.out)
          rw [← hP]
          clear hP
          generalize (wz8).alloc (.cells #[.string ⟨#[]⟩, .int .i64 0, .int .i64 0] 74) = wz9 at *
          refine hK.out _ _ (HS.out _ hz9) (fun hHeld => ?_)
          clear hK K
          try simp only [Act.put, List.setIfInBounds_toArray, List.set_cons_zero, List.set_cons_succ]
          have ka0 : wz9.cell? ⟨P0_7, 0, none⟩ = some (.string ⟨#[]⟩) := by rw [World.cell?, HB0_9.out]; rfl
          have za0 : wz9.frozen? ⟨P0_7, 0, none⟩ = false := by simp [World.frozen?, HB0_9.out]
          have ka1 : wz9.cell? ⟨P0_7, 1, none⟩ = some (.int .i64 0) := by rw [World.cell?, HB0_9.out]; rfl
          have za1 : wz9.frozen? ⟨P0_7, 1, none⟩ = false := by simp [World.frozen?, HB0_9.out]
          have ka2 : wz9.cell? ⟨P0_7, 2, none⟩ = some (.int .i64 0) := by rw [World.cell?, HB0_9.out]; rfl
          have za2 : wz9.frozen? ⟨P0_7, 2, none⟩ = false := by simp [World.frozen?, HB0_9.out]
          have kb0 : wz9.cell? ⟨P1_9, 0, none⟩ = some (.string ⟨#[]⟩) := by rw [World.cell?, HB1_9.out]; rfl
          have zb0 : wz9.frozen? ⟨P1_9, 0, none⟩ = false := by simp [World.frozen?, HB1_9.out]
          have kb1 : wz9.cell? ⟨P1_9, 1, none⟩ = some (.int .i64 0) := by rw [World.cell?, HB1_9.out]; rfl
          have zb1 : wz9.frozen? ⟨P1_9, 1, none⟩ = false := by simp [World.frozen?, HB1_9.out]
          have kb2 : wz9.cell? ⟨P1_9, 2, none⟩ = some (.int .i64 0) := by rw [World.cell?, HB1_9.out]; rfl
          have zb2 : wz9.frozen? ⟨P1_9, 2, none⟩ = false := by simp [World.frozen?, HB1_9.out]
          have hne2 : P1_9 ≠ P0_7 := by omega
          refine wpAnyH_ready (rs := [18]) (by kernel_rfl) (by simp) ?_
          refine AllReadyH.cons rfl (fun K hK => ?_) AllReadyH.nil
          go_simp
          have hst0 := (((hz9.setCell (p := ⟨P0_7, 0, none⟩) hlo0 (.string p.key)).setCell (p := ⟨P0_7, 1, none⟩) hlo0 (.int .i64 p.x)).setCell (p := ⟨P0_7, 2, none⟩) hlo0 (.int .i64 p.y))
          refine hK.out _ _ (HS.out _ hst0) (fun hHeld => ?_)
          clear hK K
          try simp only [Act.put, List.setIfInBounds_toArray, List.set_cons_zero, List.set_cons_succ]
          refine wpAnyH_ready (rs := [19]) (by kernel_rfl) (by simp) ?_
          refine AllReadyH.cons rfl (fun K hK => ?_) AllReadyH.nil
          go_simp
          have hst1 := (((hst0.setCell (p := ⟨P1_9, 0, none⟩) hlo1 (.string q.key)).setCell (p := ⟨P1_9, 1, none⟩) hlo1 (.int .i64 q.x)).setCell (p := ⟨P1_9, 2, none⟩) hlo1 (.int .i64 q.y))
          refine hK.out _ _ (HS.out _ hst1) (fun hHeld => ?_)
          clear hK K
          try simp only [Act.put, List.setIfInBounds_toArray, List.set_cons_zero, List.set_cons_succ]
          refine wpAnyH_done (by kernel_rfl) ?_ _
          go_wp2
          go_meet
          refine ⟨P0_7, P1_9, rfl, rfl, ?_, ?_, ?_, ?_, hst1⟩
          all_goals (simp [World.cell?_setCell_same, World.cell?_setCell_other, ka1, ka2, kb1, kb2])
        refine AllReadyH.cons rfl (fun K hK => ?_) AllReadyH.nil
        go_simp
        obtain ⟨P1_10, hP⟩ : ∃ P, P = (wz7).heap.size := ⟨_, rfl⟩
        have HB1_10 := hide (hnew hP : ((wz7).alloc (.cells #[.string ⟨#[]⟩, .int .i64 0, .int .i64 0] 74)).heap[P1_10]? = some (.cells #[.string ⟨#[]⟩, .int .i64 0, .int .i64 0] 74 (0, 0)))
        have hz10 := hz7.alloc (.cells #[.string ⟨#[]⟩, .int .i64 0, .int .i64 0] 74)
        have hlo1 : w3.heap.size ≤ P1_10 := by rw [hP]; exact hz7.sz
        have hne : P0_7 ≠ P1_10 := by have := lt_of_heap HB0_7.out; omega
        have HB0_10 := hide ((((Nx.refl (wz7)).alloc (.cells #[.string ⟨#[]⟩, .int .i64 0, .int .i64 0] 74)).block _ (lt_of_heap HB0_7.out)).trans HB0_7.out)
        rw [← hP]
        clear hP
        generalize (wz7).alloc (.cells #[.string ⟨#[]⟩, .int .i64 0, .int .i64 0] 74) = wz10 at *
        refine hK.out _ _ (HS.out _ hz10) (fun hHeld => ?_)
        clear hK K
        try simp only [Act.put, List.setIfInBounds_toArray, List.set_cons_zero, List.set_cons_succ]
        refine wpAnyH_ready (rs := [13]) (by kernel_rfl) (by simp) ?_
        refine AllReadyH.cons rfl (fun K hK => ?_) AllReadyH.nil
        go_simp
        go_at_call 49
        refine (HNA.out a.to_ (wz10) hz10).mono ?_
        rintro e wz11 ⟨rfl, hnz⟩
        rw [hj]
        have hz11 := hz10.trans hnz
        have HB1_11 := hide ((hnz.block _ (lt_of_heap HB1_10.out)).trans HB1_10.out)
        have HB0_11 := hide ((hnz.block _ (lt_of_heap HB0_10.out)).trans HB0_10.out)
        clear hnz
        go_simp
        refine hK.out _ _ (HS.out _ hz11) (fun hHeld => ?_)
        clear hK K
        try simp only [Act.put, List.setIfInBounds_toArray, List.set_cons_zero, List.set_cons_succ]
        refine wpAnyH_take (i := 14) (oi := ⟨some 34, _, _, _, _, _⟩) (v := ?_) rfl (by kernel_rfl) (by kernel_rfl) (by kernel_rfl) (fun _ _ _ h => h) (Or.inl ⟨by rfl, ?_⟩) (by assumption) ?_
        rotate_left 1
        · intro w hSw
          (try dsimp only at hSw)
          go_simp
          try with_reducible rfl
        try simp only [Act.put, List.setIfInBounds_toArray, List.set_cons_zero, List.set_cons_succ]
        refine wpAnyH_take (i := 15) (oi := ⟨some 35, _, _, _, _, _⟩) (v := ?_) rfl (by kernel_rfl) (by kernel_rfl) (by kernel_rfl) (fun _ _ _ h => h) (Or.inl ⟨by rfl, ?_⟩) (by assumption) ?_
        rotate_left 1
        · intro w hSw
          (try dsimp only at hSw)
          go_simp
          try with_reducible rfl
        try simp only [Act.put, List.setIfInBounds_toArray, List.set_cons_zero, List.set_cons_succ]
        have ka0 : wz11.cell? ⟨P0_7, 0, none⟩ = some (.string ⟨#[]⟩) := by rw [World.cell?, HB0_11.out]; rfl
        have za0 : wz11.frozen? ⟨P0_7, 0, none⟩ = false := by simp [World.frozen?, HB0_11.out]
        have ka1 : wz11.cell? ⟨P0_7, 1, none⟩ = some (.int .i64 0) := by rw [World.cell?, HB0_11.out]; rfl
        have za1 : wz11.frozen? ⟨P0_7, 1, none⟩ = false := by simp [World.frozen?, HB0_11.out]
        have ka2 : wz11.cell? ⟨P0_7, 2, none⟩ = some (.int .i64 0) := by rw [World.cell?, HB0_11.out]; rfl
        have za2 : wz11.frozen? ⟨P0_7, 2, none⟩ = false := by simp [World.frozen?, HB0_11.out]
        have kb0 : wz11.cell? ⟨P1_10, 0, none⟩ = some (.string ⟨#[]⟩) := by rw [World.cell?, HB1_11.out]; rfl
        have zb0 : wz11.frozen? ⟨P1_10, 0, none⟩ = false := by simp [World.frozen?, HB1_11.out]
        have kb1 : wz11.cell? ⟨P1_10, 1, none⟩ = some (.int .i64 0) := by rw [World.cell?, HB1_11.out]; rfl
        have zb1 : wz11.frozen? ⟨P1_10, 1, none⟩ = false := by simp [World.frozen?, HB1_11.out]
        have kb2 : wz11.cell? ⟨P1_10, 2, none⟩ = some (.int .i64 0) := by rw [World.cell?, HB1_11.out]; rfl
        have zb2 : wz11.frozen? ⟨P1_10, 2, none⟩ = false := by simp [World.frozen?, HB1_11.out]
        have hne2 : P1_10 ≠ P0_7 := by omega
        refine wpAnyH_ready (rs := [18]) (by kernel_rfl) (by simp) ?_
        refine AllReadyH.cons rfl (fun K hK => ?_) AllReadyH.nil
        go_simp
        have hst0 := (((hz11.setCell (p := ⟨P0_7, 0, none⟩) hlo0 (.string p.key)).setCell (p := ⟨P0_7, 1, none⟩) hlo0 (.int .i64 p.x)).setCell (p := ⟨P0_7, 2, none⟩) hlo0 (.int .i64 p.y))
        refine hK.out _ _ (HS.out _ hst0) (fun hHeld => ?_)
        clear hK K
        try simp only [Act.put, List.setIfInBounds_toArray, List.set_cons_zero, List.set_cons_succ]
        refine wpAnyH_ready (rs := [19]) (by kernel_rfl) (by simp) ?_
        refine AllReadyH.cons rfl (fun K hK => ?_) AllReadyH.nil
        go_simp
        have hst1 := (((hst0.setCell (p := ⟨P1_10, 0, none⟩) hlo1 (.string q.key)).setCell (p := ⟨P1_10, 1, none⟩) hlo1 (.int .i64 q.x)).setCell (p := ⟨P1_10, 2, none⟩) hlo1 (.int .i64 q.y))
        refine hK.out _ _ (HS.out _ hst1) (fun hHeld => ?_)
        clear hK K
        try simp only [Act.put, List.setIfInBounds_toArray, List.set_cons_zero, List.set_cons_succ]
        refine wpAnyH_done (by kernel_rfl) ?_ _
        go_wp2
        go_meet
        refine ⟨P0_7, P1_10, rfl, rfl, ?_, ?_, ?_, ?_, hst1⟩
        all_goals (simp [World.cell?_setCell_same, World.cell?_setCell_other, ka1, ka2, kb1, kb2])
      refine AllReadyH.cons rfl (fun K hK => ?_) AllReadyH.nil
      go_simp
      obtain ⟨P1_12, hP⟩ : ∃ P, P = (wz1).heap.size := ⟨_, rfl⟩
      have HB1_12 := hide (hnew hP : ((wz1).alloc (.cells #[.string ⟨#[]⟩, .int .i64 0, .int .i64 0] 74)).heap[P1_12]? = some (.cells #[.string ⟨#[]⟩, .int .i64 0, .int .i64 0] 74 (0, 0)))
      have hz12 := hz1.alloc (.cells #[.string ⟨#[]⟩, .int .i64 0, .int .i64 0] 74)
      have hlo1 : w3.heap.size ≤ P1_12 := by rw [hP]; exact hz1.sz
      rw [← hP]
      clear hP
      generalize (wz1).alloc (.cells #[.string ⟨#[]⟩, .int .i64 0, .int .i64 0] 74) = wz12 at *
      refine hK.out _ _ (HS.out _ hz12) (fun hHeld => ?_)
      clear hK K
      try simp only [Act.put, List.setIfInBounds_toArray, List.set_cons_zero, List.set_cons_succ]
      refine wpAnyH_ready (rs := [13, 16]) (by kernel_rfl) (by simp) ?_
      refine AllReadyH.cons rfl (fun K hK => ?_) ?_
      · skip
        go_simp
        go_at_call 49
        refine (HNA.out a.to_ (wz12) hz12).mono ?_
        rintro e wz13 ⟨rfl, hnz⟩
        rw [hj]
        have hz13 := hz12.trans hnz
        have HB1_13 := hide ((hnz.block _ (lt_of_heap HB1_12.out)).trans HB1_12.out)
        clear hnz
        go_simp
        refine hK.out _ _ (HS.out _ hz13) (fun hHeld => ?_)
        clear hK K
        try simp only [Act.put, List.setIfInBounds_toArray, List.set_cons_zero, List.set_cons_succ]
        refine wpAnyH_take (i := 14) (oi := ⟨some 34, _, _, _, _, _⟩) (v := ?_) rfl (by kernel_rfl) (by kernel_rfl) (by kernel_rfl) (fun _ _ _ h => h) (Or.inl ⟨by rfl, ?_⟩) (by assumption) ?_
        rotate_left 1
        · intro w hSw
          (try dsimp only at hSw)
          go_simp
          try with_reducible rfl
        try simp only [Act.put, List.setIfInBounds_toArray, List.set_cons_zero, List.set_cons_succ]
        refine wpAnyH_take (i := 15) (oi := ⟨some 35, _, _, _, _, _⟩) (v := ?_) rfl (by kernel_rfl) (by kernel_rfl) (by kernel_rfl) (fun _ _ _ h => h) (Or.inl ⟨by rfl, ?_⟩) (by assumption) ?_
        rotate_left 1
        · intro w hSw
          (try dsimp only at hSw)
          go_simp
          try with_reducible rfl
        try simp only [Act.put, List.setIfInBounds_toArray, List.set_cons_zero, List.set_cons_succ]
        refine wpAnyH_ready (rs := [16]) (by kernel_rfl) (by simp) ?_
        refine AllReadyH.cons rfl (fun K hK => ?_) AllReadyH.nil
        go_simp
        obtain ⟨P0_14, hP⟩ : ∃ P, P = (wz13).heap.size := ⟨_, rfl⟩
        have HB0_14 := hide (hnew hP : ((wz13).alloc (.cells #[.string ⟨#[]⟩, .int .i64 0, .int .i64 0] 74)).heap[P0_14]? = some (.cells #[.string ⟨#[]⟩, .int .i64 0, .int .i64 0] 74 (0, 0)))
        have hz14 := hz13.alloc (.cells #[.string ⟨#[]⟩, .int .i64 0, .int .i64 0] 74)
        have hlo0 : w3.heap.size ≤ P0_14 := by rw [hP]; exact hz13.sz
        have hne : P1_12 ≠ P0_14 := by have := lt_of_heap HB1_13.out; omega
        have HB1_14 := hide ((((Nx.refl (wz13)).alloc (.cells #[.string ⟨#[]⟩, .int .i64 0, .int .i64 0] 74)).block _ (lt_of_heap HB1_13.out)).trans HB1_13.out)
        rw [← hP]
        clear hP
        generalize (wz13).alloc (.cells #[.string ⟨#[]⟩, .int .i64 0, .int .i64 0] 74) = wz14 at *
        refine hK.out _ _ (HS.out _ hz14) (fun hHeld => ?_)
        clear hK K
        try simp only [Act.put, List.setIfInBounds_toArray, List.set_cons_zero, List.set_cons_succ]
        have ka0 : wz14.cell? ⟨P0_14, 0, none⟩ = some (.string ⟨#[]⟩) := by rw [World.cell?, HB0_14.out]; rfl
        have za0 : wz14.frozen? ⟨P0_14, 0, none⟩ = false := by simp [World.frozen?, HB0_14.out]
        have ka1 : wz14.cell? ⟨P0_14, 1, none⟩ = some (.int .i64 0) := by rw [World.cell?, HB0_14.out]; rfl
        have za1 : wz14.frozen? ⟨P0_14, 1, none⟩ = false := by simp [World.frozen?, HB0_14.out]
        have ka2 : wz14.cell? ⟨P0_14, 2, none⟩ = some (.int .i64 0) := by rw [World.cell?, HB0_14.out]; rfl
        have za2 : wz14.frozen? ⟨P0_14, 2, none⟩ = false := by simp [World.frozen?, HB0_14.out]
        have kb0 : wz14.cell? ⟨P1_12, 0, none⟩ = some (.string ⟨#[]⟩) := by rw [World.cell?, HB1_14.out]; rfl
        have zb0 : wz14.frozen? ⟨P1_12, 0, none⟩ = false := by simp [World.frozen?, HB1_14.out]
        have kb1 : wz14.cell? ⟨P1_12, 1, none⟩ = some (.int .i64 0) := by rw [World.cell?, HB1_14.out]; rfl
        have zb1 : wz14.frozen? ⟨P1_12, 1, none⟩ = false := by simp [World.frozen?, HB1_14.out]
        have kb2 : wz14.cell? ⟨P1_12, 2, none⟩ = some (.int .i64 0) := by rw [World.cell?, HB1_14.out]; rfl
        have zb2 : wz14.frozen? ⟨P1_12, 2, none⟩ = false := by simp [World.frozen?, HB1_14.out]
        have hne2 : P1_12 ≠ P0_14 := by omega
        refine wpAnyH_ready (rs := [18]) (by kernel_rfl) (by simp) ?_
        refine AllReadyH.cons rfl (fun K hK => ?_) AllReadyH.nil
        go_simp
        have hst0 := (((hz14.setCell (p := ⟨P0_14, 0, none⟩) hlo0 (.string p.key)).setCell (p := ⟨P0_14, 1, none⟩) hlo0 (.int .i64 p.x)).setCell (p := ⟨P0_14, 2, none⟩) hlo0 (.int .i64 p.y))
        refine hK.out _ _ (HS.out _ hst0) (fun hHeld => ?_)
        clear hK K
        try simp only [Act.put, List.setIfInBounds_toArray, List.set_cons_zero, List.set_cons_succ]
        refine wpAnyH_ready (rs := [19]) (by kernel_rfl) (by simp) ?_
        refine AllReadyH.cons rfl (fun K hK => ?_) AllReadyH.nil
        go_simp
        have hst1 := (((hst0.setCell (p := ⟨P1_12, 0, none⟩) hlo1 (.string q.key)).setCell (p := ⟨P1_12, 1, none⟩) hlo1 (.int .i64 q.x)).setCell (p := ⟨P1_12, 2, none⟩) hlo1 (.int .i64 q.y))
        refine hK.out _ _ (HS.out _ hst1) (fun hHeld => ?_)
        clear hK K
        try simp only [Act.put, List.setIfInBounds_toArray, List.set_cons_zero, List.set_cons_succ]
        refine wpAnyH_done (by kernel_rfl) ?_ _
        go_wp2
        go_meet
        refine ⟨P0_14, P1_12, rfl, rfl, ?_, ?_, ?_, ?_, hst1⟩
        all_goals (simp [World.cell?_setCell_same, World.cell?_setCell_other, ka1, ka2, kb1, kb2])
      refine AllReadyH.cons rfl (fun K hK => ?_) AllReadyH.nil
      go_simp
      obtain ⟨P0_15, hP⟩ : ∃ P, P = (wz12).heap.size := ⟨_, rfl⟩
      have HB0_15 := hide (hnew hP : ((wz12).alloc (.cells #[.string ⟨#[]⟩, .int .i64 0, .int .i64 0] 74)).heap[P0_15]? = some (.cells #[.string ⟨#[]⟩, .int .i64 0, .int .i64 0] 74 (0, 0)))
      have hz15 := hz12.alloc (.cells #[.string ⟨#[]⟩, .int .i64 0, .int .i64 0] 74)
      have hlo0 : w3.heap.size ≤ P0_15 := by rw [hP]; exact hz12.sz
      have hne : P1_12 ≠ P0_15 := by have := lt_of_heap HB1_12.out; omega
      have HB1_15 := hide ((((Nx.refl (wz12)).alloc (.cells #[.string ⟨#[]⟩, .int .i64 0, .int .i64 0] 74)).block _ (lt_of_heap HB1_12.out)).trans HB1_12.out)
      rw [← hP]
      clear hP
      generalize (wz12).alloc (.cells #[.string ⟨#[]⟩, .int .i64 0, .int .i64 0] 74) = wz15 at *
      refine hK.out _ _ (HS.out _ hz15) (fun hHeld => ?_)
      clear hK K
      try simp only [Act.put, List.setIfInBounds_toArray, List.set_cons_zero, List.set_cons_succ]
      refine wpAnyH_ready (rs := [13]) (by kernel_rfl) (by simp) ?_
      refine AllReadyH.cons rfl (fun K hK => ?_) AllReadyH.nil
      go_simp
      go_at_call 49
      refine (HNA.out a.to_ (wz15) hz15).mono ?_
      rintro e wz16 ⟨rfl, hnz⟩
      rw [hj]
      have hz16 := hz15.trans hnz
      have HB0_16 := hide ((hnz.block _ (lt_of_heap HB0_15.out)).trans HB0_15.out)
      have HB1_16 := hide ((hnz.block _ (lt_of_heap HB1_15.out)).trans HB1_15.out)
      clear hnz
      go_simp
      refine hK.out _ _ (HS.out _ hz16) (fun hHeld => ?_)
      clear hK K
      try simp only [Act.put, List.setIfInBounds_toArray, List.set_cons_zero, List.set_cons_succ]
      refine wpAnyH_take (i := 14) (oi := ⟨some 34, _, _, _, _, _⟩) (v := ?_) rfl (by kernel_rfl) (by kernel_rfl) (by kernel_rfl) (fun _ _ _ h => h) (Or.inl ⟨by rfl, ?_⟩) (by assumption) ?_
      rotate_left 1
      · intro w hSw
        (try dsimp only at hSw)
        go_simp
        try with_reducible rfl
      try simp only [Act.put, List.setIfInBounds_toArray, List.set_cons_zero, List.set_cons_succ]
      refine wpAnyH_take (i := 15) (oi := ⟨some 35, _, _, _, _, _⟩) (v := ?_) rfl (by kernel_rfl) (by kernel_rfl) (by kernel_rfl) (fun _ _ _ h => h) (Or.inl ⟨by rfl, ?_⟩) (by assumption) ?_
      rotate_left 1
      · intro w hSw
        (try dsimp only at hSw)
        go_simp
        try with_reducible rfl
      try simp only [Act.put, List.setIfInBounds_toArray, List.set_cons_zero, List.set_cons_succ]
      have ka0 : wz16.cell? ⟨P0_15, 0, none⟩ = some (.string ⟨#[]⟩) := by rw [World.cell?, HB0_16.out]; rfl
      have za0 : wz16.frozen? ⟨P0_15, 0, none⟩ = false := by simp [World.frozen?, HB0_16.out]
      have ka1 : wz16.cell? ⟨P0_15, 1, none⟩ = some (.int .i64 0) := by rw [World.cell?, HB0_16.out]; rfl
      have za1 : wz16.frozen? ⟨P0_15, 1, none⟩ = false := by simp [World.frozen?, HB0_16.out]
      have ka2 : wz16.cell? ⟨P0_15, 2, none⟩ = some (.int .i64 0) := by rw [World.cell?, HB0_16.out]; rfl
      have za2 : wz16.frozen? ⟨P0_15, 2, none⟩ = false := by simp [World.frozen?, HB0_16.out]
      have kb0 : wz16.cell? ⟨P1_12, 0, none⟩ = some (.string ⟨#[]⟩) := by rw [World.cell?, HB1_16.out]; rfl
      have zb0 : wz16.frozen? ⟨P1_12, 0, none⟩ = false := by simp [World.frozen?, HB1_16.out]
      have kb1 : wz16.cell? ⟨P1_12, 1, none⟩ = some (.int .i64 0) := by rw [World.cell?, HB1_16.out]; rfl
      have zb1 : wz16.frozen? ⟨P1_12, 1, none⟩ = false := by simp [World.frozen?, HB1_16.out]
      have kb2 : wz16.cell? ⟨P1_12, 2, none⟩ = some (.int .i64 0) := by rw [World.cell?, HB1_16.out]; rfl
      have zb2 : wz16.frozen? ⟨P1_12, 2, none⟩ = false := by simp [World.frozen?, HB1_16.out]
      have hne2 : P1_12 ≠ P0_15 := by omega
      refine wpAnyH_ready (rs := [18]) (by kernel_rfl) (by simp) ?_
      refine AllReadyH.cons rfl (fun K hK => ?_) AllReadyH.nil
      go_simp
      have hst0 := (((hz16.setCell (p := ⟨P0_15, 0, none⟩) hlo0 (.string p.key)).setCell (p := ⟨P0_15, 1, none⟩) hlo0 (.int .i64 p.x)).setCell (p := ⟨P0_15, 2, none⟩) hlo0 (.int .i64 p.y))
      refine hK.out _ _ (HS.out _ hst0) (fun hHeld => ?_)
      clear hK K
      try simp only [Act.put, List.setIfInBounds_toArray, List.set_cons_zero, List.set_cons_succ]
      refine wpAnyH_ready (rs := [19]) (by kernel_rfl) (by simp) ?_
      refine AllReadyH.cons rfl (fun K hK => ?_) AllReadyH.nil
      go_simp
      have hst1 := (((hst0.setCell (p := ⟨P1_12, 0, none⟩) hlo1 (.string q.key)).setCell (p := ⟨P1_12, 1, none⟩) hlo1 (.int .i64 q.x)).setCell (p := ⟨P1_12, 2, none⟩) hlo1 (.int .i64 q.y))
      refine hK.out _ _ (HS.out _ hst1) (fun hHeld => ?_)
      clear hK K
      try simp only [Act.put, List.setIfInBounds_toArray, List.set_cons_zero, List.set_cons_succ]
      refine wpAnyH_done (by kernel_rfl) ?_ _
      go_wp2
      go_meet
      refine ⟨P0_15, P1_12, rfl, rfl, ?_, ?_, ?_, ?_, hst1⟩
      all_goals (simp [World.cell?_setCell_same, World.cell?_setCell_other, ka1, ka2, kb1, kb2])
    refine AllReadyH.cons rfl (fun K hK => ?_) ?_
    · skip
      go_simp
      obtain ⟨P0_17, hP⟩ : ∃ P, P = (wd).heap.size := ⟨_, rfl⟩
      have HB0_17 := hide (hnew hP : ((wd).alloc (.cells #[.string ⟨#[]⟩, .int .i64 0, .int .i64 0] 74)).heap[P0_17]? = some (.cells #[.string ⟨#[]⟩, .int .i64 0, .int .i64 0] 74 (0, 0)))
      have hz17 := hx.alloc (.cells #[.string ⟨#[]⟩, .int .i64 0, .int .i64 0] 74)
      have hlo0 : w3.heap.size ≤ P0_17 := by rw [hP]; exact hx.sz
      rw [← hP]
      clear hP
      generalize (wd).alloc (.cells #[.string ⟨#[]⟩, .int .i64 0, .int .i64 0] 74) = wz17 at *
      refine hK.out _ _ (HS.out _ hz17) (fun hHeld => ?_)
      clear hK K
      try simp only [Act.put, List.setIfInBounds_toArray, List.set_cons_zero, List.set_cons_succ]
      refine wpAnyH_ready (rs := [5, 17]) (by kernel_rfl) (by simp) ?_
      refine AllReadyH.cons rfl (fun K hK => ?_) ?_
      · skip
        go_simp
        go_at_call 49
        refine (HNA.out a.from_ (wz17) hz17).mono ?_
        rintro e wz18 ⟨rfl, hnz⟩
        rw [hi]
        have hz18 := hz17.trans hnz
        have HB0_18 := hide ((hnz.block _ (lt_of_heap HB0_17.out)).trans HB0_17.out)
        clear hnz
        go_simp
        refine hK.out _ _ (HS.out _ hz18) (fun hHeld => ?_)
        clear hK K
        try simp only [Act.put, List.setIfInBounds_toArray, List.set_cons_zero, List.set_cons_succ]
        refine wpAnyH_take (i := 6) (oi := ⟨some 26, _, _, _, _, _⟩) (v := ?_) rfl (by kernel_rfl) (by kernel_rfl) (by kernel_rfl) (fun _ _ _ h => h) (Or.inl ⟨by rfl, ?_⟩) (by assumption) ?_
        rotate_left 1
        · intro w hSw
          (try dsimp only at hSw)
          go_simp
          try with_reducible rfl
        try simp only [Act.put, List.setIfInBounds_toArray, List.set_cons_zero, List.set_cons_succ]
        refine wpAnyH_take (i := 7) (oi := ⟨some 27, _, _, _, _, _⟩) (v := ?_) rfl (by kernel_rfl) (by kernel_rfl) (by kernel_rfl) (fun _ _ _ h => h) (Or.inl ⟨by rfl, ?_⟩) (by assumption) ?_
        rotate_left 1
        · intro w hSw
          (try dsimp only at hSw)
          go_simp
          try with_reducible rfl
        try simp only [Act.put, List.setIfInBounds_toArray, List.set_cons_zero, List.set_cons_succ]
        refine wpAnyH_ready (rs := [13, 17]) (by kernel_rfl) (by simp) ?_
        refine AllReadyH.cons rfl (fun K hK => ?_) ?_
        · skip
          go_simp
          go_at_call 49
          refine (HNA.out a.to_ (wz18) hz18).mono ?_
          rintro e wz19 ⟨rfl, hnz⟩
          rw [hj]
          have hz19 := hz18.trans hnz
          have HB0_19 := hide ((hnz.block _ (lt_of_heap HB0_18.out)).trans HB0_18.out)
          clear hnz
          go_simp
          refine hK.out _ _ (HS.out _ hz19) (fun hHeld => ?_)
          clear hK K
          try simp only [Act.put, List.setIfInBounds_toArray, List.set_cons_zero, List.set_cons_succ]
          refine wpAnyH_take (i := 14) (oi := ⟨some 34, _, _, _, _, _⟩) (v := ?_) rfl (by kernel_rfl) (by kernel_rfl) (by kernel_rfl) (fun _ _ _ h => h) (Or.inl ⟨by rfl, ?_⟩) (by assumption) ?_
          rotate_left 1
          · intro w hSw
            (try dsimp only at hSw)
            go_simp
            try with_reducible rfl
          try simp only [Act.put, List.setIfInBounds_toArray, List.set_cons_zero, List.set_cons_succ]
          refine wpAnyH_take (i := 15) (oi := ⟨some 35, _, _, _, _, _⟩) (v := ?_) rfl (by kernel_rfl) (by kernel_rfl) (by kernel_rfl) (fun _ _ _ h => h) (Or.inl ⟨by rfl, ?_⟩) (by assumption) ?_
          rotate_left 1
          · intro w hSw
            (try dsimp only at hSw)
            go_simp
            try with_reducible rfl
          try simp only [Act.put, List.setIfInBounds_toArray, List.set_cons_zero, List.set_cons_succ]
          refine wpAnyH_ready (rs := [17]) (by kernel_rfl) (by simp) ?_
          refine AllReadyH.cons rfl (fun K hK => ?_) AllReadyH.nil
          go_simp
          obtain ⟨P1_20, hP⟩ : ∃ P, P = (wz19).heap.size := ⟨_, rfl⟩
          have HB1_20 := hide (hnew hP : ((wz19).alloc (.cells #[.string ⟨#[]⟩, .int .i64 0, .int .i64 0] 74)).heap[P1_20]? = some (.cells #[.string ⟨#[]⟩, .int .i64 0, .int .i64 0] 74 (0, 0)))
          have hz20 := hz19.alloc (.cells #[.string ⟨#[]⟩, .int .i64 0, .int .i64 0] 74)
          have hlo1 : w3.heap.size ≤ P1_20 := by rw [hP]; exact hz19.sz
          have hne : P0_17 ≠ P1_20 := by have := lt_of_heap HB0_19.out; omega
          have HB0_20 := hide ((((Nx.refl (wz19)).alloc (.cells #[.string ⟨#[]⟩, .int .i64 0, .int .i64 0] 74)).block _ (lt_of_heap HB0_19.out)).trans HB0_19.out)
          rw [← hP]
          clear hP
          generalize (wz19).alloc (.cells #[.string ⟨#[]⟩, .int .i64 0, .int .i64 0] 74) = wz20 at *
          refine hK.out _ _ (HS.out _ hz20) (fun hHeld => ?_)
          clear hK K
          try simp only [Act.put, List.setIfInBounds_toArray, List.set_cons_zero, List.set_cons_succ]
          have ka0 : wz20.cell? ⟨P0_17, 0, none⟩ = some (.string ⟨#[]⟩) := by rw [World.cell?, HB0_20.out]; rfl
          have za0 : wz20.frozen? ⟨P0_17, 0, none⟩ = false := by simp [World.frozen?, HB0_20.out]
          have ka1 : wz20.cell? ⟨P0_17, 1, none⟩ = some (.int .i64 0) := by rw [World.cell?, HB0_20.out]; rfl
          have za1 : wz20.frozen? ⟨P0_17, 1, none⟩ = false := by simp [World.frozen?, HB0_20.out]
          have ka2 : wz20.cell? ⟨P0_17, 2, none⟩ = some (.int .i64 0) := by rw [World.cell?, HB0_20.out]; rfl
          have za2 : wz20.frozen? ⟨P0_17, 2, none⟩ = false := by simp [World.frozen?, HB0_20.out]
          have kb0 : wz20.cell? ⟨P1_20, 0, none⟩ = some (.string ⟨#[]⟩) := by rw [World.cell?, HB1_20.out]; rfl
          have zb0 : wz20.frozen? ⟨P1_20, 0, none⟩ = false := by simp [World.frozen?, HB1_20.out]
          have kb1 : wz20.cell? ⟨P1_20, 1, none⟩ = some (.int .i64 0) := by rw [World.cell?, HB1_20.out]; rfl
          have zb1 : wz20.frozen? ⟨P1_20, 1, none⟩ = false := by simp [World.frozen?, HB1_20.out]
          have kb2 : wz20.cell? ⟨P1_20, 2, none⟩ = some (.int .i64 0) := by rw [World.cell?, HB1_20.out]; rfl
          have zb2 : wz20.frozen? ⟨P1_20, 2, none⟩ = false := by simp [World.frozen?, HB1_20.out]
          have hne2 : P1_20 ≠ P0_17 := by omega
          refine wpAnyH_ready (rs := [18]) (by kernel_rfl) (by simp) ?_
          refine AllReadyH.cons rfl (fun K hK => ?_) AllReadyH.nil
          go_simp
          have hst0 := (((hz20.setCell (p := ⟨P0_17, 0, none⟩) hlo0 (.string p.key)).setCell (p := ⟨P0_17, 1, none⟩) hlo0 (.int .i64 p.x)).setCell (p := ⟨P0_17, 2, none⟩) hlo0 (.int .i64 p.y))
          refine hK.out _ _ (HS.out _ hst0) (fun hHeld => ?_)
          clear hK K
          try simp only [Act.put, List.setIfInBounds_toArray, List.set_cons_zero, List.set_cons_succ]
          refine wpAnyH_ready (rs := [19]) (by kernel_rfl) (by simp) ?_
          refine AllReadyH.cons rfl (fun K hK => ?_) AllReadyH.nil
          go_simp
          have hst1 := (((hst0.setCell (p := ⟨P1_20, 0, none⟩) hlo1 (.string q.key)).setCell (p := ⟨P1_20, 1, none⟩) hlo1 (.int .i64 q.x)).setCell (p := ⟨P1_20, 2, none⟩) hlo1 (.int .i64 q.y))
          refine hK.out _ _ (HS.out _ hst1) (fun hHeld => ?_)
          clear hK K
          try simp only [Act.put, List.setIfInBounds_toArray, List.set_cons_zero, List.set_cons_succ]
          refine wpAnyH_done (by kernel_rfl) ?_ _
          go_wp2
          go_meet
          refine ⟨P0_17, P1_20, rfl, rfl, ?_, ?_, ?_, ?_, hst1⟩
          all_goals (simp [World.cell?_setCell_same, World.cell?_setCell_other, ka1, ka2, kb1, kb2])
        refine AllReadyH.cons rfl (fun K hK => ?_) AllReadyH.nil
        go_simp
        obtain ⟨P1_21, hP⟩ : ∃ P, P = (wz18).heap.size := ⟨_, rfl⟩
        have HB1_21 := hide (hnew hP : ((wz18).alloc (.cells #[.string ⟨#[]⟩, .int .i64 0, .int .i64 0] 74)).heap[P1_21]? = some (.cells #[.string ⟨#[]⟩, .int .i64 0, .int .i64 0] 74 (0, 0)))
        have hz21 := hz18.alloc (.cells #[.string ⟨#[]⟩, .int .i64 0, .int .i64 0] 74)
        have hlo1 : w3.heap.size ≤ P1_21 := by rw [hP]; exact hz18.sz
        have hne : P0_17 ≠ P1_21 := by have := lt_of_heap HB0_18.out; omega
        have HB0_21 := hide ((((Nx.refl (wz18)).alloc (.cells #[.string ⟨#[]⟩, .int .i64 0, .int .i64 0] 74)).block _ (lt_of_heap HB0_18.out)).trans HB0_18.out)
        rw [← hP]
        clear hP
        generalize (wz18).alloc (.cells #[.string ⟨#[]⟩, .int .i64 0, .int .i64 0] 74) = wz21 at *
        refine hK.out _ _ (HS.out _ hz21) (fun hHeld => ?_)
        clear hK K
        try simp only [Act.put, List.setIfInBounds_toArray, List.set_cons_zero, List.set_cons_succ]
        refine wpAnyH_ready (rs := [13]) (by kernel_rfl) (by simp) ?_
        refine AllReadyH.cons rfl (fun K hK => ?_) AllReadyH.nil
        go_simp
        go_at_call 49
        refine (HNA.out a.to_ (wz21) hz21).mono ?_
        rintro e wz22 ⟨rfl, hnz⟩
        rw [hj]
        have hz22 := hz21.trans hnz
        have HB1_22 := hide ((hnz.block _ (lt_of_heap HB1_21.out)).trans HB1_21.out)
        have HB0_22 := hide ((hnz.block _ (lt_of_heap HB0_21.out)).trans HB0_21.out)
        clear hnz
        go_simp
        refine hK.out _ _ (HS.out _ hz22) (fun hHeld => ?_)
        clear hK K
        try simp only [Act.put, List.setIfInBounds_toArray, List.set_cons_zero, List.set_cons_succ]
        refine wpAnyH_take (i := 14) (oi := ⟨some 34, _, _, _, _, _⟩) (v := ?_) rfl (by kernel_rfl) (by kernel_rfl) (by kernel_rfl) (fun _ _ _ h => h) (Or.inl ⟨by rfl, ?_⟩) (by assumption) ?_
        rotate_left 1
        · intro w hSw
          (try dsimp only at hSw)
          go_simp
          try with_reducible rfl
        try simp only [Act.put, List.setIfInBounds_toArray, List.set_cons_zero, List.set_cons_succ]
        refine wpAnyH_take (i := 15) (oi := ⟨some 35, _, _, _, _, _⟩) (v := ?_) rfl (by kernel_rfl) (by kernel_rfl) (by kernel_rfl) (fun _ _ _ h => h) (Or.inl ⟨by rfl, ?_⟩) (by assumption) ?_
        rotate_left 1
        · intro w hSw
          (try dsimp only at hSw)
          go_simp
          try with_reducible rfl
        try simp only [Act.put, List.setIfInBounds_toArray, List.set_cons_zero, List.set_cons_succ]
        have ka0 : wz22.cell? ⟨P0_17, 0, none⟩ = some (.string ⟨#[]⟩) := by rw [World.cell?, HB0_22.out]; rfl
        have za0 : wz22.frozen? ⟨P0_17, 0, none⟩ = false := by simp [World.frozen?, HB0_22.out]
        have ka1 : wz22.cell? ⟨P0_17, 1, none⟩ = some (.int .i64 0) := by rw [World.cell?, HB0_22.out]; rfl
        have za1 : wz22.frozen? ⟨P0_17, 1, none⟩ = false := by simp [World.frozen?, HB0_22.out]
        have ka2 : wz22.cell? ⟨P0_17, 2, none⟩ = some (.int .i64 0) := by rw [World.cell?, HB0_22.out]; rfl
        have za2 : wz22.frozen? ⟨P0_17, 2, none⟩ = false := by simp [World.frozen?, HB0_22.out]
        have kb0 : wz22.cell? ⟨P1_21, 0, none⟩ = some (.string ⟨#[]⟩) := by rw [World.cell?, HB1_22.out]; rfl
        have zb0 : wz22.frozen? ⟨P1_21, 0, none⟩ = false := by simp [World.frozen?, HB1_22.out]
        have kb1 : wz22.cell? ⟨P1_21, 1, none⟩ = some (.int .i64 0) := by rw [World.cell?, HB1_22.out]; rfl
        have zb1 : wz22.frozen? ⟨P1_21, 1, none⟩ = false := by simp [World.frozen?, HB1_22.out]
        have kb2 : wz22.cell? ⟨P1_21, 2, none⟩ = some (.int .i64 0) := by rw [World.cell?, HB1_22.out]; rfl
        have zb2 : wz22.frozen? ⟨P1_21, 2, none⟩ = false := by simp [World.frozen?, HB1_22.out]
        have hne2 : P1_21 ≠ P0_17 := by omega
        refine wpAnyH_ready (rs := [18]) (by kernel_rfl) (by simp) ?_
        refine AllReadyH.cons rfl (fun K hK => ?_) AllReadyH.nil
        go_simp
        have hst0 := (((hz22.setCell (p := ⟨P0_17, 0, none⟩) hlo0 (.string p.key)).setCell (p := ⟨P0_17, 1, none⟩) hlo0 (.int .i64 p.x)).setCell (p := ⟨P0_17, 2, none⟩) hlo0 (.int .i64 p.y))
        refine hK.out _ _ (HS.out _ hst0) (fun hHeld => ?_)
        clear hK K
        try simp only [Act.put, List.setIfInBounds_toArray, List.set_cons_zero, List.set_cons_succ]
        refine wpAnyH_ready (rs := [19]) (by kernel_rfl) (by simp) ?_
        refine AllReadyH.cons rfl (fun K hK => ?_) AllReadyH.nil
        go_simp
        have hst1 := (((hst0.setCell (p := ⟨P1_21, 0, none⟩) hlo1 (.string q.key)).setCell (p := ⟨P1_21, 1, none⟩) hlo1 (.int .i64 q.x)).setCell (p := ⟨P1_21, 2, none⟩) hlo1 (.int .i64 q.y))
        refine hK.out _ _ (HS.out _ hst1) (fun hHeld => ?_)
        clear hK K
        try simp only [Act.put, List.setIfInBounds_toArray, List.set_cons_zero, List.set_cons_succ]
        refine wpAnyH_done (by kernel_rfl) ?_ _
        go_wp2
        go_meet
        refine ⟨P0_17, P1_21, rfl, rfl, ?_, ?_, ?_, ?_, hst1⟩
        all_goals (simp [World.cell?_setCell_same, World.cell?_setCell_other, ka1, ka2, kb1, kb2])
      refine AllReadyH.cons rfl (fun K hK => ?_) AllReadyH.nil
      go_simp
      obtain ⟨P1_23, hP⟩ : ∃ P, P = (wz17).heap.size := ⟨_, rfl⟩
      have HB1_23 := hide (hnew hP : ((wz17).alloc (.cells #[.string ⟨#[]⟩, .int .i64 0, .int .i64 0] 74)).heap[P1_23]? = some (.cells #[.string ⟨#[]⟩, .int .i64 0, .int .i64 0] 74 (0, 0)))
      have hz23 := hz17.alloc (.cells #[.string ⟨#[]⟩, .int .i64 0, .int .i64 0] 74)
      have hlo1 : w3.heap.size ≤ P1_23 := by rw [hP]; exact hz17.sz
      have hne : P0_17 ≠ P1_23 := by have := lt_of_heap HB0_17.out; omega
      have HB0_23 := hide ((((Nx.refl (wz17)).alloc (.cells #[.string ⟨#[]⟩, .int .i64 0, .int .i64 0] 74)).block _ (lt_of_heap HB0_17.out)).trans HB0_17.out)
      rw [← hP]
      clear hP
      generalize (wz17).alloc (.cells #[.string ⟨#[]⟩, .int .i64 0, .int .i64 0] 74) = wz23 at *
      refine hK.out _ _ (HS.out _ hz23) (fun hHeld => ?_)
      clear hK K
      try simp only [Act.put, List.setIfInBounds_toArray, List.set_cons_zero, List.set_cons_succ]
      refine wpAnyH_ready (rs := [5]) (by kernel_rfl) (by simp) ?_
      refine AllReadyH.cons rfl (fun K hK => ?_) AllReadyH.nil
      go_simp
      go_at_call 49
      refine (HNA.out a.from_ (wz23) hz23).mono ?_
      rintro e wz24 ⟨rfl, hnz⟩
      rw [hi]
      have hz24 := hz23.trans hnz
      have HB1_24 := hide ((hnz.block _ (lt_of_heap HB1_23.out)).trans HB1_23.out)
      have HB0_24 := hide ((hnz.block _ (lt_of_heap HB0_23.out)).trans HB0_23.out)
      clear hnz
      go_simp
      refine hK.out _ _ (HS.out _ hz24) (fun hHeld => ?_)
      clear hK K
      try simp only [Act.put, List.setIfInBounds_toArray, List.set_cons_zero, List.set_cons_succ]
      refine wpAnyH_take (i := 6) (oi := ⟨some 26, _, _, _, _, _⟩) (v := ?_) rfl (by kernel_rfl) (by kernel_rfl) (by kernel_rfl) (fun _ _ _ h => h) (Or.inl ⟨by rfl, ?_⟩) (by assumption) ?_
      rotate_left 1
      · intro w hSw
        (try dsimp only at hSw)
        go_simp
        try with_reducible rfl
      try simp only [Act.put, List.setIfInBounds_toArray, List.set_cons_zero, List.set_cons_succ]
      refine wpAnyH_take (i := 7) (oi := ⟨some 27, _, _, _, _, _⟩) (v := ?_) rfl (by kernel_rfl) (by kernel_rfl) (by kernel_rfl) (fun _ _ _ h => h) (Or.inl ⟨by rfl, ?_⟩) (by assumption) ?_
      rotate_left 1
      · intro w hSw
        (try dsimp only at hSw)
        go_simp
        try with_reducible rfl
      try simp only [Act.put, List.setIfInBounds_toArray, List.set_cons_zero, List.set_cons_succ]
      refine wpAnyH_ready (rs := [13]) (by kernel_rfl) (by simp) ?_
      refine AllReadyH.cons rfl (fun K hK => ?_) AllReadyH.nil
      go_simp
      go_at_call 49
      refine (HNA.out a.to_ (wz24) hz24).mono ?_
      rintro e wz25 ⟨rfl, hnz⟩
      rw [hj]
      have hz25 := hz24.trans hnz
      have HB1_25 := hide ((hnz.block _ (lt_of_heap HB1_24.out)).trans HB1_24.out)
      have HB0_25 := hide ((hnz.block _ (lt_of_heap HB0_24.out)).trans HB0_24.out)
      clear hnz
      go_simp
      refine hK.out _ _ (HS.out _ hz25) (fun hHeld => ?_)
      clear hK K
      try simp only [Act.put, List.setIfInBounds_toArray, List.set_cons_zero, List.set_cons_succ]
      refine wpAnyH_take (i := 14) (oi := ⟨some 34, _, _, _, _, _⟩) (v := ?_) rfl (by kernel_rfl) (by kernel_rfl) (by kernel_rfl) (fun _ _ _ h => h) (Or.inl ⟨by rfl, ?_⟩) (by assumption) ?_
      rotate_left 1
      · intro w hSw
        (try dsimp only at hSw)
        go_simp
        try with_reducible rfl
      try simp only [Act.put, List.setIfInBounds_toArray, List.set_cons_zero, List.set_cons_succ]
      refine wpAnyH_take (i := 15) (oi := ⟨some 35, _, _, _, _, _⟩) (v := ?_) rfl (by kernel_rfl) (by kernel_rfl) (by kernel_rfl) (fun _ _ _ h => h) (Or.inl ⟨by rfl, ?_⟩) (by assumption) ?_
      rotate_left 1
      · intro w hSw
        (try dsimp only at hSw)
        go_simp
        try with_reducible rfl
      try simp only [Act.put, List.setIfInBounds_toArray, List.set_cons_zero, List.set_cons_succ]
      have ka0 : wz25.cell? ⟨P0_17, 0, none⟩ = some (.string ⟨#[]⟩) := by rw [World.cell?, HB0_25.out]; rfl
      have za0 : wz25.frozen? ⟨P0_17, 0, none⟩ = false := by simp [World.frozen?, HB0_25.out]
      have ka1 : wz25.cell? ⟨P0_17, 1, none⟩ = some (.int .i64 0) := by rw [World.cell?, HB0_25.out]; rfl
      have za1 : wz25.frozen? ⟨P0_17, 1, none⟩ = false := by simp [World.frozen?, HB0_25.out]
      have ka2 : wz25.cell? ⟨P0_17, 2, none⟩ = some (.int .i64 0) := by rw [World.cell?, HB0_25.out]; rfl
      have za2 : wz25.frozen? ⟨P0_17, 2, none⟩ = false := by simp [World.frozen?, HB0_25.out]
      have kb0 : wz25.cell? ⟨P1_23, 0, none⟩ = some (.string ⟨#[]⟩) := by rw [World.cell?, HB1_25.out]; rfl
      have zb0 : wz25.frozen? ⟨P1_23, 0, none⟩ = false := by simp [World.frozen?, HB1_25.out]
      have kb1 : wz25.cell? ⟨P1_23, 1, none⟩ = some (.int .i64 0) := by rw [World.cell?, HB1_25.out]; rfl
      have zb1 : wz25.frozen? ⟨P1_23, 1, none⟩ = false := by simp [World.frozen?, HB1_25.out]
      have kb2 : wz25.cell? ⟨P1_23, 2, none⟩ = some (.int .i64 0) := by rw [World.cell?, HB1_25.out]; rfl
      have zb2 : wz25.frozen? ⟨P1_23, 2, none⟩ = false := by simp [World.frozen?, HB1_25.out]
      have hne2 : P1_23 ≠ P0_17 := by omega
      refine wpAnyH_ready (rs := [18]) (by kernel_rfl) (by simp) ?_
      refine AllReadyH.cons rfl (fun K hK => ?_) AllReadyH.nil
      go_simp
      have hst0 := (((hz25.setCell (p := ⟨P0_17, 0, none⟩) hlo0 (.string p.key)).setCell (p := ⟨P0_17, 1, none⟩) hlo0 (.int .i64 p.x)).setCell (p := ⟨P0_17, 2, none⟩) hlo0 (.int .i64 p.y))
      refine hK.out _ _ (HS.out _ hst0) (fun hHeld => ?_)
      clear hK K
      try simp only [Act.put, List.setIfInBounds_toArray, List.set_cons_zero, List.set_cons_succ]
      refine wpAnyH_ready (rs := [19]) (by kernel_rfl) (by simp) ?_
      refine AllReadyH.cons rfl (fun K hK => ?_) AllReadyH.nil
      go_simp
      have hst1 := (((hst0.setCell (p := ⟨P1_23, 0, none⟩) hlo1 (.string q.key)).setCell (p := ⟨P1_23, 1, none⟩) hlo1 (.int .i64 q.x)).setCell (p := ⟨P1_23, 2, none⟩) hlo1 (.int .i64 q.y))
      refine hK.out _ _ (HS.out _ hst1) (fun hHeld => ?_)
      clear hK K
      try simp only [Act.put, List.setIfInBounds_toArray, List.set_cons_zero, List.set_cons_succ]
      refine wpAnyH_done (by kernel_rfl) ?_ _
      go_wp2
      go_meet
      refine ⟨P0_17, P1_23, rfl, rfl, ?_, ?_, ?_, ?_, hst1⟩
      all_goals (simp [World.cell?_setCell_same, World.cell?_setCell_other, ka1, ka2, kb1, kb2])
    refine AllReadyH.cons rfl (fun K hK => ?_) AllReadyH.nil
    go_simp
    obtain ⟨P1_26, hP⟩ : ∃ P, P = (wd).heap.size := ⟨_, rfl⟩
    have HB1_26 := hide (hnew hP : ((wd).alloc (.cells #[.string ⟨#[]⟩, .int .i64 0, .int .i64 0] 74)).heap[P1_26]? = some (.cells #[.string ⟨#[]⟩, .int .i64 0, .int .i64 0] 74 (0, 0)))
    have hz26 := hx.alloc (.cells #[.string ⟨#[]⟩, .int .i64 0, .int .i64 0] 74)
    have hlo1 : w3.heap.size ≤ P1_26 := by rw [hP]; exact hx.sz
    rw [← hP]
    clear hP
    generalize (wd).alloc (.cells #[.string ⟨#[]⟩, .int .i64 0, .int .i64 0] 74) = wz26 at *
    refine hK.out _ _ (HS.out _ hz26) (fun hHeld => ?_)
    clear hK K
    try simp only [Act.put, List.setIfInBounds_toArray, List.set_cons_zero, List.set_cons_succ]
    refine wpAnyH_ready (rs := [5, 16]) (by kernel_rfl) (by simp) ?_
    refine AllReadyH.cons rfl (fun K hK => ?_) ?_
    · skip
      go_simp
      go_at_call 49
      refine (HNA.out a.from_ (wz26) hz26).mono ?_
      rintro e wz27 ⟨rfl, hnz⟩
      rw [hi]
      have hz27 := hz26.trans hnz
      have HB1_27 := hide ((hnz.block _ (lt_of_heap HB1_26.out)).trans HB1_26.out)
      clear hnz
      go_simp
      refine hK.out _ _ (HS.out _ hz27) (fun hHeld => ?_)
      clear hK K
      try simp only [Act.put, List.setIfInBounds_toArray, List.set_cons_zero, List.set_cons_succ]
      refine wpAnyH_take (i := 6) (oi := ⟨some 26, _, _, _, _, _⟩) (v := ?_) rfl (by kernel_rfl) (by kernel_rfl) (by kernel_rfl) (fun _ _ _ h => h) (Or.inl ⟨by rfl, ?_⟩) (by assumption) ?_
      rotate_left 1
      · intro w hSw
        (try dsimp only at hSw)
        go_simp
        try with_reducible rfl
      try simp only [Act.put, List.setIfInBounds_toArray, List.set_cons_zero, List.set_cons_succ]
      refine wpAnyH_take (i := 7) (oi := ⟨some 27, _, _, _, _, _⟩) (v := ?_) rfl (by kernel_rfl) (by kernel_rfl) (by kernel_rfl) (fun _ _ _ h => h) (Or.inl ⟨by rfl, ?_⟩) (by assumption) ?_
      rotate_left 1
      · intro w hSw
        (try dsimp only at hSw)
        go_simp
        try with_reducible rfl
      try simp only [Act.put, List.setIfInBounds_toArray, List.set_cons_zero, List.set_cons_succ]
      refine wpAnyH_ready (rs := [13, 16]) (by kernel_rfl) (by simp) ?_
      refine AllReadyH.cons rfl (fun K hK => ?_) ?_
      · skip
        go_simp
        go_at_call 49
        refine (HNA.out a.to_ (wz27) hz27).mono ?_
        rintro e wz28 ⟨rfl, hnz⟩
        rw [hj]
        have hz28 := hz27.trans hnz
        have HB1_28 := hide ((hnz.block _ (lt_of_heap HB1_27.out)).trans HB1_27.out)
        clear hnz
        go_simp
        refine hK.out _ _ (HS.out _ hz28) (fun hHeld => ?_)
        clear hK K
        try simp only [Act.put, List.setIfInBounds_toArray, List.set_cons_zero, List.set_cons_succ]
        refine wpAnyH_take (i := 14) (oi := ⟨some 34, _, _, _, _, _⟩) (v := ?_) rfl (by kernel_rfl) (by kernel_rfl) (by kernel_rfl) (fun _ _ _ h => h) (Or.inl ⟨by rfl, ?_⟩) (by assumption) ?_
        rotate_left 1
        · intro w hSw
          (try dsimp only at hSw)
          go_simp
          try with_reducible rfl
        try simp only [Act.put, List.setIfInBounds_toArray, List.set_cons_zero, List.set_cons_succ]
        refine wpAnyH_take (i := 15) (oi := ⟨some 35, _, _, _, _, _⟩) (v := ?_) rfl (by kernel_rfl) (by kernel_rfl) (by kernel_rfl) (fun _ _ _ h => h) (Or.inl ⟨by rfl, ?_⟩) (by assumption) ?_
        rotate_left 1
        · intro w hSw
          (try dsimp only at hSw)
          go_simp
          try with_reducible rfl
        try simp only [Act.put, List.setIfInBounds_toArray, List.set_cons_zero, List.set_cons_succ]
        refine wpAnyH_ready (rs := [16]) (by kernel_rfl) (by simp) ?_
        refine AllReadyH.cons rfl (fun K hK => ?_) AllReadyH.nil
        go_simp
        obtain ⟨P0_29, hP⟩ : ∃ P, P = (wz28).heap.size := ⟨_, rfl⟩
        have HB0_29 := hide (hnew hP : ((wz28).alloc (.cells #[.string ⟨#[]⟩, .int .i64 0, .int .i64 0] 74)).heap[P0_29]? = some (.cells #[.string ⟨#[]⟩, .int .i64 0, .int .i64 0] 74 (0, 0)))
        have hz29 := hz28.alloc (.cells #[.string ⟨#[]⟩, .int .i64 0, .int .i64 0] 74)
        have hlo0 : w3.heap.size ≤ P0_29 := by rw [hP]; exact hz28.sz
        have hne : P1_26 ≠ P0_29 := by have := lt_of_heap HB1_28.out; omega
        have HB1_29 := hide ((((Nx.refl (wz28)).alloc (.cells #[.string ⟨#[]⟩, .int .i64 0, .int .i64 0] 74)).block _ (lt_of_heap HB1_28.out)).trans HB1_28.out)
        rw [← hP]
        clear hP
        generalize (wz28).alloc (.cells #[.string ⟨#[]⟩, .int .i64 0, .int .i64 0] 74) = wz29 at *
        refine hK.out _ _ (HS.out _ hz29) (fun hHeld => ?_)
        clear hK K
        try simp only [Act.put, List.setIfInBounds_toArray, List.set_cons_zero, List.set_cons_succ]
        have ka0 : wz29.cell? ⟨P0_29, 0, none⟩ = some (.string ⟨#[]⟩) := by rw [World.cell?, HB0_29.out]; rfl
        have za0 : wz29.frozen? ⟨P0_29, 0, none⟩ = false := by simp [World.frozen?, HB0_29.out]
        have ka1 : wz29.cell? ⟨P0_29, 1, none⟩ = some (.int .i64 0) := by rw [World.cell?, HB0_29.out]; rfl
        have za1 : wz29.frozen? ⟨P0_29, 1, none⟩ = false := by simp [World.frozen?, HB0_29.out]
        have ka2 : wz29.cell? ⟨P0_29, 2, none⟩ = some (.int .i64 0) := by rw [World.cell?, HB0_29.out]; rfl
        have za2 : wz29.frozen? ⟨P0_29, 2, none⟩ = false := by simp [World.frozen?, HB0_29.out]
        have kb0 : wz29.cell? ⟨P1_26, 0, none⟩ = some (.string ⟨#[]⟩) := by rw [World.cell?, HB1_29.out]; rfl
        have zb0 : wz29.frozen? ⟨P1_26, 0, none⟩ = false := by simp [World.frozen?, HB1_29.out]
        have kb1 : wz29.cell? ⟨P1_26, 1, none⟩ = some (.int .i64 0) := by rw [World.cell?, HB1_29.out]; rfl
        have zb1 : wz29.frozen? ⟨P1_26, 1, none⟩ = false := by simp [World.frozen?, HB1_29.out]
        have kb2 : wz29.cell? ⟨P1_26, 2, none⟩ = some (.int .i64 0) := by rw [World.cell?, HB1_29.out]; rfl
        have zb2 : wz29.frozen? ⟨P1_26, 2, none⟩ = false := by simp [World.frozen?, HB1_29.out]
        have hne2 : P1_26 ≠ P0_29 := by omega
        refine wpAnyH_ready (rs := [18]) (by kernel_rfl) (by simp) ?_
        refine AllReadyH.cons rfl (fun K hK => ?_) AllReadyH.nil
        go_simp
        have hst0 := (((hz29.setCell (p := ⟨P0_29, 0, none⟩) hlo0 (.string p.key)).setCell (p := ⟨P0_29, 1, none⟩) hlo0 (.int .i64 p.x)).setCell (p := ⟨P0_29, 2, none⟩) hlo0 (.int .i64 p.y))
        refine hK.out _ _ (HS.out _ hst0) (fun hHeld => ?_)
        clear hK K
        try simp only [Act.put, List.setIfInBounds_toArray, List.set_cons_zero, List.set_cons_succ]
        refine wpAnyH_ready (rs := [19]) (by kernel_rfl) (by simp) ?_
        refine AllReadyH.cons rfl (fun K hK => ?_) AllReadyH.nil
        go_simp
        have hst1 := (((hst0.setCell (p := ⟨P1_26, 0, none⟩) hlo1 (.string q.key)).setCell (p := ⟨P1_26, 1, none⟩) hlo1 (.int .i64 q.x)).setCell (p := ⟨P1_26, 2, none⟩) hlo1 (.int .i64 q.y))
        refine hK.out _ _ (HS.out _ hst1) (fun hHeld => ?_)
        clear hK K
        try simp only [Act.put, List.setIfInBounds_toArray, List.set_cons_zero, List.set_cons_succ]
        refine wpAnyH_done (by kernel_rfl) ?_ _
        go_wp2
        go_meet
        refine ⟨P0_29, P1_26, rfl, rfl, ?_, ?_, ?_, ?_, hst1⟩
        all_goals (simp [World.cell?_setCell_same, World.cell?_setCell_other, ka1, ka2, kb1, kb2])
      refine AllReadyH.cons rfl (fun K hK => ?_) AllReadyH.nil
      go_simp
      obtain ⟨P0_30, hP⟩ : ∃ P, P = (wz27).heap.size := ⟨_, rfl⟩
      have HB0_30 := hide (hnew hP : ((wz27).alloc (.cells #[.string ⟨#[]⟩, .int .i64 0, .int .i64 0] 74)).heap[P0_30]? = some (.cells #[.string ⟨#[]⟩, .int .i64 0, .int .i64 0] 74 (0, 0)))
      have hz30 := hz27.alloc (.cells #[.string ⟨#[]⟩, .int .i64 0, .int .i64 0] 74)
      have hlo0 : w3.heap.size ≤ P0_30 := by rw [hP]; exact hz27.sz
      have hne : P1_26 ≠ P0_30 := by have := lt_of_heap HB1_27.out; omega
      have HB1_30 := hide ((((Nx.refl (wz27)).alloc (.cells #[.string ⟨#[]⟩, .int .i64 0, .int .i64 0] 74)).block _ (lt_of_heap HB1_27.out)).trans HB1_27.out)
      rw [← hP]
      clear hP
      generalize (wz27).alloc (.cells #[.string ⟨#[]⟩, .int .i64 0, .int .i64 0] 74) = wz30 at *
      refine hK.out _ _ (HS.out _ hz30) (fun hHeld => ?_)
      clear hK K
      try simp only [Act.put, List.setIfInBounds_toArray, List.set_cons_zero, List.set_cons_succ]
      refine wpAnyH_ready (rs := [13]) (by kernel_rfl) (by simp) ?_
      refine AllReadyH.cons rfl (fun K hK => ?_) AllReadyH.nil
      go_simp
      go_at_call 49
      refine (HNA.out a.to_ (wz30) hz30).mono ?_
      rintro e wz31 ⟨rfl, hnz⟩
      rw [hj]
      have hz31 := hz30.trans hnz
      have HB0_31 := hide ((hnz.block _ (lt_of_heap HB0_30.out)).trans HB0_30.out)
      have HB1_31 := hide ((hnz.block _ (lt_of_heap HB1_30.out)).trans HB1_30.out)
      clear hnz
      go_simp
      refine hK.out _ _ (HS.out _ hz31) (fun hHeld => ?_)
      clear hK K
      try simp only [Act.put, List.setIfInBounds_toArray, List.set_cons_zero, List.set_cons_succ]
      refine wpAnyH_take (i := 14) (oi := ⟨some 34, _, _, _, _, _⟩) (v := ?_) rfl (by kernel_rfl) (by kernel_rfl) (by kernel_rfl) (fun _ _ _ h => h) (Or.inl ⟨by rfl, ?_⟩) (by assumption) ?_
      rotate_left 1
      · intro w hSw
        (try dsimp only at hSw)
        go_simp
        try with_reducible rfl
      try simp only [Act.put, List.setIfInBounds_toArray, List.set_cons_zero, List.set_cons_succ]
      refine wpAnyH_take (i := 15) (oi := ⟨some 35, _, _, _, _, _⟩) (v := ?_) rfl (by kernel_rfl) (by kernel_rfl) (by kernel_rfl) (fun _ _ _ h => h) (Or.inl ⟨by rfl, ?_⟩) (by assumption) ?_
      rotate_left 1
      · intro w hSw
        (try dsimp only at hSw)
        go_simp
        try with_reducible rfl
      try simp only [Act.put, List.setIfInBounds_toArray, List.set_cons_zero, List.set_cons_succ]
      have ka0 : wz31.cell? ⟨P0_30, 0, none⟩ = some (.string ⟨#[]⟩) := by rw [World.cell?, HB0_31.out]; rfl
      have za0 : wz31.frozen? ⟨P0_30, 0, none⟩ = false := by simp [World.frozen?, HB0_31.out]
      have ka1 : wz31.cell? ⟨P0_30, 1, none⟩ = some (.int .i64 0) := by rw [World.cell?, HB0_31.out]; rfl
      have za1 : wz31.frozen? ⟨P0_30, 1, none⟩ = false := by simp [World.frozen?, HB0_31.out]
      have ka2 : wz31.cell? ⟨P0_30, 2, none⟩ = some (.int .i64 0) := by rw [World.cell?, HB0_31.out]; rfl
      have za2 : wz31.frozen? ⟨P0_30, 2, none⟩ = false := by simp [World.frozen?, HB0_31.out]
      have kb0 : wz31.cell? ⟨P1_26, 0, none⟩ = some (.string ⟨#[]⟩) := by rw [World.cell?, HB1_31.out]; rfl
      have zb0 : wz31.frozen? ⟨P1_26, 0, none⟩ = false := by simp [World.frozen?, HB1_31.out]
      have kb1 : wz31.cell? ⟨P1_26, 1, none⟩ = some (.int .i64 0) := by rw [World.cell?, HB1_31.out]; rfl
      have zb1 : wz31.frozen? ⟨P1_26, 1, none⟩ = false := by simp [World.frozen?, HB1_31.out]
      have kb2 : wz31.cell? ⟨P1_26, 2, none⟩ = some (.int .i64 0) := by rw [World.cell?, HB1_31.out]; rfl
      have zb2 : wz31.frozen? ⟨P1_26, 2, none⟩ = false := by simp [World.frozen?, HB1_31.out]
      have hne2 : P1_26 ≠ P0_30 := by omega
      refine wpAnyH_ready (rs := [18]) (by kernel_rfl) (by simp) ?_
      refine AllReadyH.cons rfl (fun K hK => ?_) AllReadyH.nil
      go_simp
      have hst0 := (((hz31.setCell (p := ⟨P0_30, 0, none⟩) hlo0 (.string p.key)).setCell (p := ⟨P0_30, 1, none⟩) hlo0 (.int .i64 p.x)).setCell (p := ⟨P0_30, 2, none⟩) hlo0 (.int .i64 p.y))
      refine hK.out _ _ (HS.out _ hst0) (fun hHeld => ?_)
      clear hK K
      try simp only [Act.put, List.setIfInBounds_toArray, List.set_cons_zero, List.set_cons_succ]
      refine wpAnyH_ready (rs := [19]) (by kernel_rfl) (by simp) ?_
      refine AllReadyH.cons rfl (fun K hK => ?_) AllReadyH.nil
      go_simp
      have hst1 := (((hst0.setCell (p := ⟨P1_26, 0, none⟩) hlo1 (.string q.key)).setCell (p := ⟨P1_26, 1, none⟩) hlo1 (.int .i64 q.x)).setCell (p := ⟨P1_26, 2, none⟩) hlo1 (.int .i64 q.y))
      refine hK.out _ _ (HS.out _ hst1) (fun hHeld => ?_)
      clear hK K
      try simp only [Act.put, List.setIfInBounds_toArray, List.set_cons_zero, List.set_cons_succ]
      refine wpAnyH_done (by kernel_rfl) ?_ _
      go_wp2
      go_meet
      refine ⟨P0_30, P1_26, rfl, rfl, ?_, ?_, ?_, ?_, hst1⟩
      all_goals (simp [World.cell?_setCell_same, World.cell?_setCell_other, ka1, ka2, kb1, kb2])
    refine AllReadyH.cons rfl (fun K hK => ?_) AllReadyH.nil
    go_simp
    obtain ⟨P0_32, hP⟩ : ∃ P, P = (wz26).heap.size := ⟨_, rfl⟩
    have HB0_32 := hide (hnew hP : ((wz26).alloc (.cells #[.string ⟨#[]⟩, .int .i64 0, .int .i64 0] 74)).heap[P0_32]? = some (.cells #[.string ⟨#[]⟩, .int .i64 0, .int .i64 0] 74 (0, 0)))
    have hz32 := hz26.alloc (.cells #[.string ⟨#[]⟩, .int .i64 0, .int .i64 0] 74)
    have hlo0 : w3.heap.size ≤ P0_32 := by rw [hP]; exact hz26.sz
    have hne : P1_26 ≠ P0_32 := by have := lt_of_heap HB1_26.out; omega
    have HB1_32 := hide ((((Nx.refl (wz26)).alloc (.cells #[.string ⟨#[]⟩, .int .i64 0, .int .i64 0] 74)).block _ (lt_of_heap HB1_26.out)).trans HB1_26.out)
    rw [← hP]
    clear hP
    generalize (wz26).alloc (.cells #[.string ⟨#[]⟩, .int .i64 0, .int .i64 0] 74) = wz32 at *
    refine hK.out _ _ (HS.out _ hz32) (fun hHeld => ?_)
    clear hK K
    try simp only [Act.put, List.setIfInBounds_toArray, List.set_cons_zero, List.set_cons_succ]
    refine wpAnyH_ready (rs := [5]) (by kernel_rfl) (by simp) ?_
    refine AllReadyH.cons rfl (fun K hK => ?_) AllReadyH.nil
    go_simp
    go_at_call 49
    refine (HNA.out a.from_ (wz32) hz32).mono ?_
    rintro e wz33 ⟨rfl, hnz⟩
    rw [hi]
    have hz33 := hz32.trans hnz
    have HB0_33 := hide ((hnz.block _ (lt_of_heap HB0_32.out)).trans HB0_32.out)
    have HB1_33 := hide ((hnz.block _ (lt_of_heap HB1_32.out)).trans HB1_32.out)
    clear hnz
    go_simp
    refine hK.out _ _ (HS.out _ hz33) (fun hHeld => ?_)
    clear hK K
    try simp only [Act.put, List.setIfInBounds_toArray, List.set_cons_zero, List.set_cons_succ]
    refine wpAnyH_take (i := 6) (oi := ⟨some 26, _, _, _, _, _⟩) (v := ?_) rfl (by kernel_rfl) (by kernel_rfl) (by kernel_rfl) (fun _ _ _ h => h) (Or.inl ⟨by rfl, ?_⟩) (by assumption) ?_
    rotate_left 1
    · intro w hSw
      (try dsimp only at hSw)
      go_simp
      try with_reducible rfl
    try simp only [Act.put, List.setIfInBounds_toArray, List.set_cons_zero, List.set_cons_succ]
    refine wpAnyH_take (i := 7) (oi := ⟨some 27, _, _, _, _, _⟩) (v := ?_) rfl (by kernel_rfl) (by kernel_rfl) (by kernel_rfl) (fun _ _ _ h => h) (Or.inl ⟨by rfl, ?_⟩) (by assumption) ?_
    rotate_left 1
    · intro w hSw
      (try dsimp only at hSw)
      go_simp
      try with_reducible rfl
    try simp only [Act.put, List.setIfInBounds_toArray, List.set_cons_zero, List.set_cons_succ]
    refine wpAnyH_ready (rs := [13]) (by kernel_rfl) (by simp) ?_
    refine AllReadyH.cons rfl (fun K hK => ?_) AllReadyH.nil
    go_simp
    go_at_call 49
    refine (HNA.out a.to_ (wz33) hz33).mono ?_
    rintro e wz34 ⟨rfl, hnz⟩
    rw [hj]
    have hz34 := hz33.trans hnz
    have HB0_34 := hide ((hnz.block _ (lt_of_heap HB0_33.out)).trans HB0_33.out)
    have HB1_34 := hide ((hnz.block _ (lt_of_heap HB1_33.out)).trans HB1_33.out)
    clear hnz
    go_simp
    refine hK.out _ _ (HS.out _ hz34) (fun hHeld => ?_)
    clear hK K
    try simp only [Act.put, List.setIfInBounds_toArray, List.set_cons_zero, List.set_cons_succ]
    refine wpAnyH_take (i := 14) (oi := ⟨some 34, _, _, _, _, _⟩) (v := ?_) rfl (by kernel_rfl) (by kernel_rfl) (by kernel_rfl) (fun _ _ _ h => h) (Or.inl ⟨by rfl, ?_⟩) (by assumption) ?_
    rotate_left 1
    · intro w hSw
      (try dsimp only at hSw)
      go_simp
      try with_reducible rfl
    try simp only [Act.put, List.setIfInBounds_toArray, List.set_cons_zero, List.set_cons_succ]
    refine wpAnyH_take (i := 15) (oi := ⟨some 35, _, _, _, _, _⟩) (v := ?_) rfl (by kernel_rfl) (by kernel_rfl) (by kernel_rfl) (fun _ _ _ h => h) (Or.inl ⟨by rfl, ?_⟩) (by assumption) ?_
    rotate_left 1
    · intro w hSw
      (try dsimp only at hSw)
      go_simp
      try with_reducible rfl
    try simp only [Act.put, List.setIfInBounds_toArray, List.set_cons_zero, List.set_cons_succ]
    have ka0 : wz34.cell? ⟨P0_32, 0, none⟩ = some (.string ⟨#[]⟩) := by rw [World.cell?, HB0_34.out]; rfl
    have za0 : wz34.frozen? ⟨P0_32, 0, none⟩ = false := by simp [World.frozen?, HB0_34.out]
    have ka1 : wz34.cell? ⟨P0_32, 1, none⟩ = some (.int .i64 0) := by rw [World.cell?, HB0_34.out]; rfl
    have za1 : wz34.frozen? ⟨P0_32, 1, none⟩ = false := by simp [World.frozen?, HB0_34.out]
    have ka2 : wz34.cell? ⟨P0_32, 2, none⟩ = some (.int .i64 0) := by rw [World.cell?, HB0_34.out]; rfl
    have za2 : wz34.frozen? ⟨P0_32, 2, none⟩ = false := by simp [World.frozen?, HB0_34.out]
    have kb0 : wz34.cell? ⟨P1_26, 0, none⟩ = some (.string ⟨#[]⟩) := by rw [World.cell?, HB1_34.out]; rfl
    have zb0 : wz34.frozen? ⟨P1_26, 0, none⟩ = false := by simp [World.frozen?, HB1_34.out]
    have kb1 : wz34.cell? ⟨P1_26, 1, none⟩ = some (.int .i64 0) := by rw [World.cell?, HB1_34.out]; rfl
    have zb1 : wz34.frozen? ⟨P1_26, 1, none⟩ = false := by simp [World.frozen?, HB1_34.out]
    have kb2 : wz34.cell? ⟨P1_26, 2, none⟩ = some (.int .i64 0) := by rw [World.cell?, HB1_34.out]; rfl
    have zb2 : wz34.frozen? ⟨P1_26, 2, none⟩ = false := by simp [World.frozen?, HB1_34.out]
    have hne2 : P1_26 ≠ P0_32 := by omega
    refine wpAnyH_ready (rs := [18]) (by kernel_rfl) (by simp) ?_
    refine AllReadyH.cons rfl (fun K hK => ?_) AllReadyH.nil
    go_simp
    have hst0 := (((hz34.setCell (p := ⟨P0_32, 0, none⟩) hlo0 (.string p.key)).setCell (p := ⟨P0_32, 1, none⟩) hlo0 (.int .i64 p.x)).setCell (p := ⟨P0_32, 2, none⟩) hlo0 (.int .i64 p.y))
    refine hK.out _ _ (HS.out _ hst0) (fun hHeld => ?_)
    clear hK K
    try simp only [Act.put, List.setIfInBounds_toArray, List.set_cons_zero, List.set_cons_succ]
    refine wpAnyH_ready (rs := [19]) (by kernel_rfl) (by simp) ?_
    refine AllReadyH.cons rfl (fun K hK => ?_) AllReadyH.nil
    go_simp
    have hst1 := (((hst0.setCell (p := ⟨P1_26, 0, none⟩) hlo1 (.string q.key)).setCell (p := ⟨P1_26, 1, none⟩) hlo1 (.int .i64 q.x)).setCell (p := ⟨P1_26, 2, none⟩) hlo1 (.int .i64 q.y))
    refine hK.out _ _ (HS.out _ hst1) (fun hHeld => ?_)
    clear hK K
    try simp only [Act.put, List.setIfInBounds_toArray, List.set_cons_zero, List.set_cons_succ]
    refine wpAnyH_done (by kernel_rfl) ?_ _
    go_wp2
    go_meet
    refine ⟨P0_32, P1_26, rfl, rfl, ?_, ?_, ?_, ?_, hst1⟩
    all_goals (simp [World.cell?_setCell_same, World.cell?_setCell_other, ka1, ka2, kb1, kb2])
  case rest =>
    obtain ⟨P1, P2, rfl, rfl, c1, c2, d1, d2, hxc⟩ := hcut
    have HA0 := hide (HS.out wc hxc).2.2.2.1
    have a0 := HA0.out
    have hb2 : wc.heap[w.heap.size + 1 + 1]? = some (.cells #[.string ⟨#[]⟩, .int .i64 0, .int .i64 0, .int .i64 0, .int .i64 0] 43 (0, 0)) := (hxc.block _ (by have := HSZ.out; omega)).trans HB3.out
    have HB2 := hide hb2
    have k0 : wc.cell? ⟨w.heap.size + 1 + 1, 0, none⟩ = some (.string ⟨#[]⟩) := by rw [World.cell?, hb2]; rfl
    have k1 : wc.cell? ⟨w.heap.size + 1 + 1, 1, none⟩ = some (.int .i64 0) := by rw [World.cell?, hb2]; rfl
    have k2 : wc.cell? ⟨w.heap.size + 1 + 1, 2, none⟩ = some (.int .i64 0) := by rw [World.cell?, hb2]; rfl
    have k3 : wc.cell? ⟨w.heap.size + 1 + 1, 3, none⟩ = some (.int .i64 0) := by rw [World.cell?, hb2]; rfl
    have k4 : wc.cell? ⟨w.heap.size + 1 + 1, 4, none⟩ = some (.int .i64 0) := by rw [World.cell?, hb2]; rfl
    have z0 : wc.frozen? ⟨w.heap.size + 1 + 1, 0, none⟩ = false := by simp [World.frozen?, hb2]
    have z1 : wc.frozen? ⟨w.heap.size + 1 + 1, 1, none⟩ = false := by simp [World.frozen?, hb2]
    have z2 : wc.frozen? ⟨w.heap.size + 1 + 1, 2, none⟩ = false := by simp [World.frozen?, hb2]
    have z3 : wc.frozen? ⟨w.heap.size + 1 + 1, 3, none⟩ = false := by simp [World.frozen?, hb2]
    have z4 : wc.frozen? ⟨w.heap.size + 1 + 1, 4, none⟩ = false := by simp [World.frozen?, hb2]
    have HNX := hide (HX3.out.trans hxc)
    clear hb2
    by_cases h1 : dot ≤ 0
    · have t1 : decide (dot ≤ 0) = true := decide_eq_true h1
      have HR := hide (HV.out.trans (if_pos h1))
      have r0 := fun n => (cells5 (w := wc.drewN n) (v0 := .string a.key) (v1 := .int .i64 0) (v2 := .int .i64 1) (v3 := .int .i64 ee) (v4 := .int .i64 1) k0 k1 k2 k3 k4).1
      have r1 := fun n => (cells5 (w := wc.drewN n) (v0 := .string a.key) (v1 := .int .i64 0) (v2 := .int .i64 1) (v3 := .int .i64 ee) (v4 := .int .i64 1) k0 k1 k2 k3 k4).2.1
      have r2 := fun n => (cells5 (w := wc.drewN n) (v0 := .string a.key) (v1 := .int .i64 0) (v2 := .int .i64 1) (v3 := .int .i64 ee) (v4 := .int .i64 1) k0 k1 k2 k3 k4).2.2.1
      have r3 := fun n => (cells5 (w := wc.drewN n) (v0 := .string a.key) (v1 := .int .i64 0) (v2 := .int .i64 1) (v3 := .int .i64 ee) (v4 := .int .i64 1) k0 k1 k2 k3 k4).2.2.2.1
      have r4 := fun n => (cells5 (w := wc.drewN n) (v0 := .string a.key) (v1 := .int .i64 0) (v2 := .int .i64 1) (v3 := .int .i64 ee) (v4 := .int .i64 1) k0 k1 k2 k3 k4).2.2.2.2
      clear h1 HV HLN
      go_wp2_with fail
      go_quiet (fail)
      go_wp2_with fail
      refine bodyPost_ret (v := .agg #[.string a.key, .int .i64 0, .int .i64 1, .int .i64 ee, .int .i64 1]) ?_ rfl ⟨?_, ?_⟩
      · simp [results, Tryz.results58, go_sem, r0, r1, r2, r3, r4]
      · rw [HR.out]
        unfold spotAgg
        simp only [Int.toNat_of_nonneg HE0.out]
        rfl
      · exact (((((HNX.out.drewN _).setCell (by simp; omega) _).setCell (by simp; omega) _).setCell (by simp; omega) _).setCell (by simp; omega) _).setCell (by simp; omega) _
    · have t1 : decide (dot ≤ 0) = false := decide_eq_false h1
      have t3 : (long == 0) = false := by rw [beq_eq_false_iff_ne]; exact HLN.out h1
      have HV1 := hide (HV.out.trans (if_neg h1))
      by_cases h2 : long ≤ dot
      · have t2 : decide (dot ≥ long) = true := decide_eq_true h2
        have HR := hide (HV1.out.trans (if_pos h2))
        have r0 := fun n => (cells5 (w := wc.drewN n) (v0 := .string a.key) (v1 := .int .i64 1) (v2 := .int .i64 1) (v3 := .int .i64 ff) (v4 := .int .i64 1) k0 k1 k2 k3 k4).1
        have r1 := fun n => (cells5 (w := wc.drewN n) (v0 := .string a.key) (v1 := .int .i64 1) (v2 := .int .i64 1) (v3 := .int .i64 ff) (v4 := .int .i64 1) k0 k1 k2 k3 k4).2.1
        have r2 := fun n => (cells5 (w := wc.drewN n) (v0 := .string a.key) (v1 := .int .i64 1) (v2 := .int .i64 1) (v3 := .int .i64 ff) (v4 := .int .i64 1) k0 k1 k2 k3 k4).2.2.1
        have r3 := fun n => (cells5 (w := wc.drewN n) (v0 := .string a.key) (v1 := .int .i64 1) (v2 := .int .i64 1) (v3 := .int .i64 ff) (v4 := .int .i64 1) k0 k1 k2 k3 k4).2.2.2.1
        have r4 := fun n => (cells5 (w := wc.drewN n) (v0 := .string a.key) (v1 := .int .i64 1) (v2 := .int .i64 1) (v3 := .int .i64 ff) (v4 := .int .i64 1) k0 k1 k2 k3 k4).2.2.2.2
        clear h1 h2 HV HV1 HLN
        go_wp2_with fail
        go_quiet (fail)
        go_wp2_with fail
        go_quiet (fail)
        go_wp2_with fail
        refine bodyPost_ret (v := .agg #[.string a.key, .int .i64 1, .int .i64 1, .int .i64 ff, .int .i64 1]) ?_ rfl ⟨?_, ?_⟩
        · simp [results, Tryz.results58, go_sem, r0, r1, r2, r3, r4]
        · rw [HR.out]
          unfold spotAgg
          simp only [Int.toNat_of_nonneg HF0.out]
          rfl
        · exact (((((HNX.out.drewN _).setCell (by simp; omega) _).setCell (by simp; omega) _).setCell (by simp; omega) _).setCell (by simp; omega) _).setCell (by simp; omega) _
      · have t2 : decide (dot ≥ long) = false := decide_eq_false h2
        have HR := hide (HV1.out.trans (if_neg h2))
        have HF1 := hide (fun W => (show Calls Tryz.prog 100 #[.int .i64 dot, .int .i64 long] W _ by
          have := w_Lowest dot.toNat long.toNat W (by have := HD0.out; omega) ⟨by omega, by have := HL0.out; omega⟩
          rw [Int.toNat_of_nonneg (by omega), Int.toNat_of_nonneg HL0.out.1] at this
          exact this))
        have HF2 := hide (fun W => (show Calls Tryz.prog 100 #[.int .i64 n2, .int .i64 long] W _ by
          have := w_Lowest n2.toNat long.toNat W (by have := HN0.out; omega) ⟨by omega, by have := HL0.out; omega⟩
          rw [Int.toNat_of_nonneg HN0.out.1, Int.toNat_of_nonneg HL0.out.1] at this
          exact this))
        clear h1 h2 HV HV1 HD0 HL0 HN0 HE0 HF0 HLN k0 k1 k2 k3 k4 z0 z1 z2 z3 z4 HNX
        generalize dot.toNat / dot.toNat.gcd long.toNat = u1 at *
        generalize long.toNat / dot.toNat.gcd long.toNat = u2 at *
        generalize n2.toNat / n2.toNat.gcd long.toNat = u3 at *
        generalize long.toNat / n2.toNat.gcd long.toNat = u4 at *
        go_wp2_with fail
        go_quiet (fail)
        go_upto_region 11 with fail
        have HKS := hide (fun W (hx : Nx w3 W) => (HS.out W hx).2.2.2.1)
        have hxd : Nx w3 (wc.drewN nq).drew := (hxc.drewN _).drew
        refine wp_region_held_drew (S := fun W => W.cell? ⟨w.heap.size + 1, 0, none⟩ = some (.string a.key)) (by kernel_rfl) (HKS.out _ hxd) (fun hHeld => ?_)
        have hxw : Nx wc (wc.drewN nq).drew := ((Nx.refl wc).drewN _).drew
        generalize (wc.drewN nq).drew = wd at *
        refine wpAnyH_take (i := 0) (oi := ⟨some 118, _, _, _, _, _⟩) (v := ?_) rfl (by kernel_rfl) (by kernel_rfl) (by kernel_rfl) (fun _ _ _ h => h) (Or.inl ⟨by rfl, ?_⟩) (by assumption) ?_
        rotate_left 1
        · intro w hSw
          (try dsimp only at hSw)
          go_simp
          try with_reducible rfl
        try simp only [Act.put, List.setIfInBounds_toArray, List.set_cons_zero, List.set_cons_succ]
        refine wpAnyH_take (i := 1) (oi := ⟨some 119, _, _, _, _, _⟩) (v := ?_) rfl (by kernel_rfl) (by kernel_rfl) (by kernel_rfl) (fun _ _ _ h => h) (Or.inl ⟨by rfl, ?_⟩) (by assumption) ?_
        rotate_left 1
        · intro w hSw
          (try dsimp only at hSw)
          go_simp
          try with_reducible rfl
        try simp only [Act.put, List.setIfInBounds_toArray, List.set_cons_zero, List.set_cons_succ]
        refine wpAnyH_take (i := 2) (oi := ⟨some 120, _, _, _, _, _⟩) (v := ?_) rfl (by kernel_rfl) (by kernel_rfl) (by kernel_rfl) (fun _ _ _ h => h) (Or.inl ⟨by rfl, ?_⟩) (by assumption) ?_
        rotate_left 1
        · intro w hSw
          (try dsimp only at hSw)
          go_simp
          try with_reducible rfl
        try simp only [Act.put, List.setIfInBounds_toArray, List.set_cons_zero, List.set_cons_succ]
        refine wpAnyH_take (i := 3) (oi := ⟨some 121, _, _, _, _, _⟩) (v := ?_) rfl (by kernel_rfl) (by kernel_rfl) (by kernel_rfl) (fun _ _ _ h => h) (Or.inl ⟨by rfl, ?_⟩) (by assumption) ?_
        rotate_left 1
        · intro w hSw
          (try dsimp only at hSw)
          go_simp
          try with_reducible rfl
        try simp only [Act.put, List.setIfInBounds_toArray, List.set_cons_zero, List.set_cons_succ]
        refine wpAnyH_take (i := 5) (oi := ⟨some 123, _, _, _, _, _⟩) (v := ?_) rfl (by kernel_rfl) (by kernel_rfl) (by kernel_rfl) (fun _ _ _ h => h) (Or.inl ⟨by rfl, ?_⟩) (by assumption) ?_
        rotate_left 1
        · intro w hSw
          (try dsimp only at hSw)
          go_simp
          try with_reducible rfl
        try simp only [Act.put, List.setIfInBounds_toArray, List.set_cons_zero, List.set_cons_succ]
        refine wpAnyH_take (i := 6) (oi := ⟨some 124, _, _, _, _, _⟩) (v := ?_) rfl (by kernel_rfl) (by kernel_rfl) (by kernel_rfl) (fun _ _ _ h => h) (Or.inl ⟨by rfl, ?_⟩) (by assumption) ?_
        rotate_left 1
        · intro w hSw
          (try dsimp only at hSw)
          go_simp
          try with_reducible rfl
        try simp only [Act.put, List.setIfInBounds_toArray, List.set_cons_zero, List.set_cons_succ]
        refine wpAnyH_take (i := 7) (oi := ⟨some 125, _, _, _, _, _⟩) (v := ?_) rfl (by kernel_rfl) (by kernel_rfl) (by kernel_rfl) (fun _ _ _ h => h) (Or.inl ⟨by rfl, ?_⟩) (by assumption) ?_
        rotate_left 1
        · intro w hSw
          (try dsimp only at hSw)
          go_simp
          try with_reducible rfl
        try simp only [Act.put, List.setIfInBounds_toArray, List.set_cons_zero, List.set_cons_succ]
        refine wpAnyH_take (i := 8) (oi := ⟨some 126, _, _, _, _, _⟩) (v := ?_) rfl (by kernel_rfl) (by kernel_rfl) (by kernel_rfl) (fun _ _ _ h => h) (Or.inl ⟨by rfl, ?_⟩) (by assumption) ?_
        rotate_left 1
        · intro w hSw
          (try dsimp only at hSw)
          go_simp
          try with_reducible rfl
        try simp only [Act.put, List.setIfInBounds_toArray, List.set_cons_zero, List.set_cons_succ]
        refine wpAnyH_ready (rs := [4]) (by kernel_rfl) (by simp) ?_
        refine AllReadyH.cons rfl (fun K hK => ?_) AllReadyH.nil
        go_simp
        go_at_call 100
        refine (HF1.out _).mono ?_
        rintro e wz1 ⟨rfl, hn1⟩
        replace hxd := hxd.trans hn1
        replace hxw := hxw.trans hn1
        go_simp
        refine hK.out _ _ (HKS.out _ hxd) (fun hHeld => ?_)
        clear hK K
        try simp only [Act.put, List.setIfInBounds_toArray, List.set_cons_zero, List.set_cons_succ]
        refine wpAnyH_ready (rs := [9]) (by kernel_rfl) (by simp) ?_
        refine AllReadyH.cons rfl (fun K hK => ?_) AllReadyH.nil
        go_simp
        go_at_call 100
        refine (HF2.out _).mono ?_
        rintro e wz2 ⟨rfl, hn2⟩
        replace hxd := hxd.trans hn2
        replace hxw := hxw.trans hn2
        go_simp
        refine hK.out _ _ (HKS.out _ hxd) (fun hHeld => ?_)
        clear hK K
        try simp only [Act.put, List.setIfInBounds_toArray, List.set_cons_zero, List.set_cons_succ]
        refine wpAnyH_take (i := 10) (oi := ⟨some 128, _, _, _, _, _⟩) (v := ?_) rfl (by kernel_rfl) (by kernel_rfl) (by kernel_rfl) (fun _ _ _ h => h) (Or.inl ⟨by rfl, ?_⟩) (by assumption) ?_
        rotate_left 1
        · intro w hSw
          (try dsimp only at hSw)
          go_simp
          try with_reducible rfl
        try simp only [Act.put, List.setIfInBounds_toArray, List.set_cons_zero, List.set_cons_succ]
        have hb5 : wz2.heap[w.heap.size + 1 + 1]? = some (.cells #[.string ⟨#[]⟩, .int .i64 0, .int .i64 0, .int .i64 0, .int .i64 0] 43 (0, 0)) := (hxw.block _ (lt_of_heap HB2.out)).trans HB2.out
        have k0 : wz2.cell? ⟨w.heap.size + 1 + 1, 0, none⟩ = some (.string ⟨#[]⟩) := by rw [World.cell?, hb5]; rfl
        have k1 : wz2.cell? ⟨w.heap.size + 1 + 1, 1, none⟩ = some (.int .i64 0) := by rw [World.cell?, hb5]; rfl
        have k2 : wz2.cell? ⟨w.heap.size + 1 + 1, 2, none⟩ = some (.int .i64 0) := by rw [World.cell?, hb5]; rfl
        have k3 : wz2.cell? ⟨w.heap.size + 1 + 1, 3, none⟩ = some (.int .i64 0) := by rw [World.cell?, hb5]; rfl
        have k4 : wz2.cell? ⟨w.heap.size + 1 + 1, 4, none⟩ = some (.int .i64 0) := by rw [World.cell?, hb5]; rfl
        have z0 : wz2.frozen? ⟨w.heap.size + 1 + 1, 0, none⟩ = false := by simp [World.frozen?, hb5]
        have z1 : wz2.frozen? ⟨w.heap.size + 1 + 1, 1, none⟩ = false := by simp [World.frozen?, hb5]
        have z2 : wz2.frozen? ⟨w.heap.size + 1 + 1, 2, none⟩ = false := by simp [World.frozen?, hb5]
        have z3 : wz2.frozen? ⟨w.heap.size + 1 + 1, 3, none⟩ = false := by simp [World.frozen?, hb5]
        have z4 : wz2.frozen? ⟨w.heap.size + 1 + 1, 4, none⟩ = false := by simp [World.frozen?, hb5]
        obtain ⟨r0, r1, r2, r3, r4⟩ := cells5 (v0 := .string a.key) (v1 := .int .i64 (u1 : Int)) (v2 := .int .i64 (u2 : Int)) (v3 := .int .i64 (u3 : Int)) (v4 := .int .i64 (u4 : Int)) k0 k1 k2 k3 k4
        have hfin := (((((HX3.out.trans hxd).setCell (p := ⟨w.heap.size + 1 + 1, 0, none⟩) (by simp; omega) (.string a.key)).setCell (p := ⟨w.heap.size + 1 + 1, 1, none⟩) (by simp; omega) (.int .i64 (u1 : Int))).setCell (p := ⟨w.heap.size + 1 + 1, 2, none⟩) (by simp; omega) (.int .i64 (u2 : Int))).setCell (p := ⟨w.heap.size + 1 + 1, 3, none⟩) (by simp; omega) (.int .i64 (u3 : Int))).setCell (p := ⟨w.heap.size + 1 + 1, 4, none⟩) (by simp; omega) (.int .i64 (u4 : Int))
        have hkey := HKS.out _ hxd
        refine wpAnyH_ready (rs := [11]) (by kernel_rfl) (by simp) ?_
        refine AllReadyH.cons rfl (fun K hK => ?_) AllReadyH.nil
        go_simp
        refine hK.out _ _ (by simp [World.cell?_setCell_other, hkey]) (fun hHeld => ?_)
        clear hK K
        refine wpAnyH_done (by kernel_rfl) ?_ _
        go_wp2_with fail
        refine bodyPost_ret (v := .agg #[.string a.key, .int .i64 (u1 : Int), .int .i64 (u2 : Int), .int .i64 (u3 : Int), .int .i64 (u4 : Int)]) ?_ rfl ⟨?_, ?_⟩
        · simp [results, Tryz.results58, go_sem, r0, r1, r2, r3, r4]
        · rw [HR.out]
          rfl
        · exact hfin
end Go.Proofs.YtepbamacebjopaaGreatDoor
