/- When one arrives at the earliest, and leaves at the latest: the reference. -/
import Derived.Test.YtmpnilliichpfaaGreatDoorQOutL
import Derived.Test.YtmpnilliichpfaaGreatDoorQG22
import Derived.Test.YtmpnilliichpfaaGreatDoorQNodeK
import Derived.Test.YtmpnilliichpfaaGreatDoorQG13
import Derived.Deep.DeepCutAuto
import Derived.Test.YtmpnilliichpfaaGreatDoorQG1
import Derived.Deep.AppendLies
import Derived.Deep.RegionLawGrows
import Derived.Test.YtmpnilliichpfaaGreatDoorQG14
import Derived.Test.YtmpnilliichpfaaGreatDoorQG11
import Derived.Deep.RegionHeldLaw
import Derived.Laws.EntriesVeiled
namespace Go.Proofs.YtmpnilliichpfaaGreatDoor
open Go.RowKit

theorem lt_heapA {w : World} {k : Nat} {o : Obj} (h : w.heap[k]? = some o) : k < w.heap.size := (Array.getElem?_eq_some_iff.1 h).1
/-- Right roads that are handed in by value, read. -/
structure ValR (w : World) (lo : Nat) (A B C : Option Addr) (nn ca cb cc : Nat) (ns : List Node) (rs : List Arc) (bs : List Ban) : Prop where
  hA : RdArcs w lo B rs
  hal : rs.length ≤ 400
  hB : Rd w lo C 2 encBan bs
  hbl : bs.length ≤ 400
  hC : chk (arcF ns) none rs = 0
theorem ValR.nx {w w' : World} {lo : Nat} {A B C : Option Addr} {nn ca cb cc : Nat} {ns : List Node} {rs : List Arc} {bs : List Ban} (h : ValR w lo A B C nn ca cb cc ns rs bs) (hn : Nx w w') : ValR w' lo A B C nn ca cb cc ns rs bs := ⟨h.hA.nx hn, h.hal, h.hB.nx hn, h.hbl, h.hC⟩
set_option maxRecDepth 100000 in
set_option maxHeartbeats 4000000 in
theorem w_ArriveAt (lo : Nat) (A B C : Option Addr) (nn ca cb cc : Nat) (ns : List Node) (rs : List Arc) (bs : List Ban) (fr to_ : ByteArray) (at_ : Int) (w : World) (hV : ValR w lo A B C nn ca cb cc ns rs bs) (hfr : 0 ≤ nodeI ns fr) (hto : 0 ≤ nodeI ns to_) (hat : 0 ≤ at_ ∧ at_ ≤ 345686399999) :
    Calls Tryz.prog 87 #[.agg #[.slice A nn ca, .slice B rs.length cb, .slice C bs.length cc], .string fr, .string to_, .int .i64 at_] w fun e w' => e = .returned (.int .i64 (arrG (gphOf ns rs bs) (nodeN ns fr) (nodeN ns to_) at_)) ∧ Nx w w' := by
  have HG := hide (gph_ok (bs := bs) hV.hC)
  by_cases he : fr = to_
  · subst he
    have hE := arrG_self HG.out hat.1 (show nodeN ns fr < (gphOf ns rs bs).nn from nodeN_lt hfr)
    rw [hE]
    have te : (fr.toList == fr.toList) = true := by rw [eqS_iff]; exact decide_eq_true rfl
    clear hV hE
    go_enter Tryz.func87, Tryz.ntmps87
    go_wp2_with fail
    go_ret
    exact ⟨rfl, (Nx.refl _).alloc _⟩
  · have te : (fr.toList == to_.toList) = false := by rw [eqS_iff]; exact decide_eq_false he
    have hab : nodeN ns fr ≠ nodeN ns to_ := fun h => he ((node_iff hfr hto).1 h)
    obtain ⟨wa, hwa⟩ : ∃ wa, wa = w.alloc (.cells #[.slice A nn ca, .slice B rs.length cb, .slice C bs.length cc] 30) := ⟨_, rfl⟩
    have hna : Nx w wa := hwa ▸ (Nx.refl w).alloc _
    have hbx : wa.heap[w.heap.size]? = some (.cells #[.slice A nn ca, .slice B rs.length cb, .slice C bs.length cc] 30 (0, 0)) := by rw [hwa]; exact hnew rfl
    have HO := hide (w_outs lo A B C nn ca cb cc ns rs bs fr at_ wa (hV.hA.nx hna) hV.hal (hV.hB.nx hna) hV.hbl hV.hC hfr hat)
    have HBX := hide hbx
    have HA := hide (hV.hA.nx hna)
    have hal := hV.hal
    have HSOL := hide (fun o (h : OutSol (gphOf ns rs bs) (nodeN ns fr) at_ o) => arrG_sol HG.out hat.1 (show nodeN ns fr < (gphOf ns rs bs).nn from nodeN_lt hfr) (show nodeN ns to_ < (gphOf ns rs bs).nn from nodeN_lt hto) h hab)
    have HTO := hide (fun k (hk : k < rs.length) => (show (gphOf ns rs bs).to_ k = nodeN ns to_ ↔ (arcX rs k).to_ = to_ from node_iff (arc_right hV.hC hk).2.1 hto))
    have HGM := hide (show (gphOf ns rs bs).m = rs.length from rfl)
    have r0 : wa.cell? ⟨w.heap.size, 0, none⟩ = some (.slice A nn ca) := (cell_of_row wa _ 0 _ _ _ hbx).trans rfl
    have r1 : wa.cell? ⟨w.heap.size, 1, none⟩ = some (.slice B rs.length cb) := (cell_of_row wa _ 1 _ _ _ hbx).trans rfl
    have r2 : wa.cell? ⟨w.heap.size, 2, none⟩ = some (.slice C bs.length cc) := (cell_of_row wa _ 2 _ _ _ hbx).trans rfl
    clear hV hbx he hab
    generalize gphOf ns rs bs = G at *
    generalize nodeN ns fr = a at *
    generalize nodeN ns to_ = b at *
    generalize arrG G a b at_ = V at *
    generalize hm : rs.length = m at *
    have HM := hide hm
    clear hm hfr hto
    go_enter Tryz.func87, Tryz.ntmps87
    go_wp2_with fail
    rw [← hwa]
    have HWA := hide hwa
    clear hwa
    generalize w.heap.size = gb at *
    go_wp2_with fail
    refine HO.out.mono ?_
    rintro e w1 ⟨g, o, rfl, hsol, hrow, hn1⟩
    have HROW := hide hrow
    have HLE := hide hsol.len
    have HV := hide (HSOL.out o hsol)
    have HBX1 := hide ((hn1.block gb (lt_heapA HBX.out)).trans HBX.out)
    have hnw := hna.trans hn1
    have HA1 := hide (HA.out.nx hn1)
    clear hrow hsol r0 r1 r2 HO HA
    go_wp2_with fail
    go_loopw [9, 21] (fun v i wr => ∃ k : Nat, k ≤ m ∧ i = .int .i64 k ∧ v = .int .i64 (leastTo G o b k) ∧ w1 = wr) (fun _ i _ => m - (intOf i).toNat)
    case atStart => exact ⟨0, Nat.zero_le _, rfl, rfl, rfl⟩
    case round =>
      obtain ⟨k, hk, rfl, rfl, rfl⟩ := hrel
      by_cases hlt : k < m
      · have hkl : k < rs.length := by have := HM.out; omega
        have c0 := intRowO_cell (i := k) HROW.out (by rw [HLE.out, HGM.out]; exact hlt)
        obtain ⟨b', off, rfl, _, hb, hbr, hc⟩ := HA1.out.1.open_ (Nx.refl _) (by have := HM.out; omega)
        have a2 : w1.cell? ⟨b', off + k * 5 + 2, none⟩ = some (.string rs[k].to_) := hc k hkl 2 _ rfl
        have r1 : w1.cell? ⟨gb, 1, none⟩ = some (.slice (some ⟨b', off, none⟩) m cb) := (cell_of_row w1 _ 1 _ _ _ HBX1.out).trans rfl
        have hT := HTO.out k hlt
        rw [arcX_get hkl] at hT
        have HT := hide hT
        have HST := hide (show leastTo G o b (k + 1) = if G.to_ k = b then (if gi o k < leastTo G o b k then gi o k else leastTo G o b k) else leastTo G o b k from rfl)
        have i1 : (0 : Int) ≤ (k : Int) := by omega
        have i2 : (k : Int) < (m : Int) := by omega
        clear hc hT
        generalize rs[k].to_ = kt at *
        generalize leastTo G o b k = L at *
        generalize gi o k = z at *
        by_cases hf : kt = to_
        · have te : (kt.toList == to_.toList) = true := by rw [eqS_iff]; exact decide_eq_true hf
          have hst := HST.out.trans (if_pos (HT.out.2 hf))
          have HS2 := hide hst
          clear hf hst
          go_wp2_with fail
          go_roundw
          case rel => exact ⟨k + 1, by omega, by go_num, by rw [HS2.out]; congr 1; omega, trivial⟩
          case measure => simp [intOf]; omega
        · have te : (kt.toList == to_.toList) = false := by rw [eqS_iff]; exact decide_eq_false hf
          have hst := HST.out.trans (if_neg (fun h => hf (HT.out.1 h)))
          have HS2 := hide hst
          clear hf hst
          go_wp2_with fail
          go_roundw
          case rel => exact ⟨k + 1, by omega, by go_num, by rw [HS2.out], trivial⟩
          case measure => simp [intOf]; omega
      · obtain rfl : m = k := by omega
        go_wp2_with fail
        go_ret
        exact ⟨ret_int (by rw [← HV.out, HGM.out]), hnw⟩
end Go.Proofs.YtmpnilliichpfaaGreatDoor
/- How much is covered from some nodes: the reference. -/
namespace Go.Proofs.YtmpnilliichpfaaGreatDoor
open Go.RowKit

set_option maxRecDepth 100000 in
set_option maxHeartbeats 1000000 in
theorem w_cvo1 (lo : Nat) (A B C : Option Addr) (nn ca cb cc : Nat) (ns : List Node) (rs : List Arc) (bs : List Ban) (q0 q1 q2 q3 : Nat) (s t : ByteArray) (ad wi : Int) (w : World)
    (h0 : w.cell? ⟨q0, 0, none⟩ = some (.slice A nn ca)) (h1 : w.cell? ⟨q0, 1, none⟩ = some (.slice B rs.length cb)) (h2 : w.cell? ⟨q0, 2, none⟩ = some (.slice C bs.length cc)) (h3 : w.cell? ⟨q1, 0, none⟩ = some (.string t)) (h4 : w.cell? ⟨q2, 0, none⟩ = some (.int .i64 ad)) (h5 : w.cell? ⟨q3, 0, none⟩ = some (.int .i64 wi)) (hl2 : q2 < w.heap.size) (hl3 : q3 < w.heap.size)
    (hV : ValR w lo A B C nn ca cb cc ns rs bs) (hs : 0 ≤ nodeI ns s) (ht : 0 ≤ nodeI ns t) (ha : 0 ≤ ad ∧ ad ≤ 345686399999) :
    Calls Tryz.prog 86 #[.string s, .pointer (some ⟨q0, 0, none⟩), .pointer (some ⟨q1, 0, none⟩), .pointer (some ⟨q2, 0, none⟩), .pointer (some ⟨q3, 0, none⟩)] w fun e w' => e = .returned (.bool (reachB ns rs bs ad wi s t)) ∧ Nx w w' := by
  have HA := hide (w_ArriveAt lo A B C nn ca cb cc ns rs bs s t ad w hV hs ht ha)
  have hb := arrS_in (bs := bs) hV.hC hs ht ha
  rw [show arrG (gphOf ns rs bs) (nodeN ns s) (nodeN ns t) ad = arrS ns rs bs s t ad from rfl] at HA
  have HR := hide (show reachB ns rs bs ad wi s t = decide (arrS ns rs bs s t ad < endT ∧ arrS ns rs bs s t ad - ad ≤ wi) from rfl)
  generalize reachB ns rs bs ad wi s t = z at *
  generalize arrS ns rs bs s t ad = x at *
  have HX4 := hide (fun W (h : Nx w W) => (⟨nx_cell h hl2 h4, nx_cell h hl3 h5⟩ : W.cell? ⟨q2, 0, none⟩ = some (.int .i64 ad) ∧ W.cell? ⟨q3, 0, none⟩ = some (.int .i64 wi)))
  clear hV
  generalize rs.length = nr at *
  generalize bs.length = nb at *
  have W1 : IntKind.i64.wrap (x - ad) = x - ad := IntWalk.i64_in _ (by unfold endT at hb; omega)
  by_cases hx : x < endT
  · have t1 : decide (x < 345686400000) = true := decide_eq_true hx
    by_cases hy : x - ad ≤ wi
    · have t2 : decide (x - ad ≤ wi) = true := decide_eq_true hy
      obtain rfl : z = true := by rw [HR.out]; exact decide_eq_true ⟨hx, hy⟩
      clear hx hy HR
      go_enter Tryz.func86, Tryz.ntmps86
      go_wp2_with (go_at_call 87; refine HA.out.mono ?_; rintro e w2 ⟨rfl, hn2⟩; obtain ⟨m4, m5⟩ := HX4.out _ hn2)
      go_ret
      exact ⟨rfl, hn2⟩
    · have t2 : decide (x - ad ≤ wi) = false := decide_eq_false hy
      obtain rfl : z = false := by rw [HR.out]; exact decide_eq_false (fun h => hy h.2)
      clear hx hy HR
      go_enter Tryz.func86, Tryz.ntmps86
      go_wp2_with (go_at_call 87; refine HA.out.mono ?_; rintro e w2 ⟨rfl, hn2⟩; obtain ⟨m4, m5⟩ := HX4.out _ hn2)
      go_ret
      exact ⟨rfl, hn2⟩
  · have t1 : decide (x < 345686400000) = false := decide_eq_false hx
    obtain rfl : z = false := by rw [HR.out]; exact decide_eq_false (fun h => hx h.1)
    clear hx HR
    go_enter Tryz.func86, Tryz.ntmps86
    go_wp2_with (go_at_call 87; refine HA.out.mono ?_; rintro e w2 ⟨rfl, hn2⟩; obtain ⟨m4, m5⟩ := HX4.out _ hn2)
    go_ret
    exact ⟨rfl, hn2⟩
theorem eg_cvo1 : Enters 86 := enters_of Tryz.func86 (by kernel_rfl) rfl
set_option maxRecDepth 100000 in
set_option maxHeartbeats 1000000 in
theorem w_IndexFS4 (g : Nat) (p : ByteArray → Bool) (a1 a2 a3 a4 : Value) (eg : Enters g) (lo : Nat) (A : Option Addr) (c : Nat) (l : List ByteArray) (w : World) (hcl : ∀ y, y ∈ l → ∀ W, Nx w W → Calls Tryz.prog g #[.string y, a1, a2, a3, a4] W fun e w' => e = .returned (.bool (p y)) ∧ Nx W w')
    (hR : Rd w lo A 1 encS l) (hl : l.length ≤ 65536) :
    Calls Tryz.prog 139 #[.slice A l.length c, .func (.func g) #[] #[a1, a2, a3, a4]] w fun e w' => e = .returned (.int .i64 (findI p l)) ∧ Nx w w' := by
  generalize hn : l.length = n at *
  have HR := hide hR
  have HN := hide hn
  have HC0 := hide hcl
  clear hR hn hcl
  unfold Enters at eg
  go_enter Tryz.func139, Tryz.ntmps139
  go_wp2
  go_loopw [5, 8] (fun _ i wr => ∃ k : Nat, k ≤ n ∧ i = .int .i64 k ∧ Nx w wr ∧ findI p l = idxP p (l.drop k) k) (fun _ i _ => n - (intOf i).toNat)
  case atStart => exact ⟨0, Nat.zero_le _, rfl, Nx.refl _, rfl⟩
  case round =>
    obtain ⟨k, hk, rfl, hbw, hq⟩ := hrel
    have HQ := hide hq
    clear hq
    by_cases hlt : k < n
    · have hlt' : k < l.length := by have := HN.out; omega
      obtain ⟨b, off, rfl, _, hb, hbr, hc⟩ := HR.out.open_ hbw (by omega)
      have c0 : wr.cell? ⟨b, off + k, none⟩ = some (.string l[k]) := by have := hc k hlt' 0 _ rfl; simpa using this
      clear hc
      have HD := hide (idxP_drop p l k hlt')
      have hcl := fun W (h : Nx w W) => HC0.out l[k] (List.getElem_mem hlt') W h
      generalize l[k] = y at *
      cases hbig : p y
      all_goals
        have HB := hide hbig
        rw [hbig] at hcl
        have HCL := hide hcl
        clear hbig hcl
        go_wp2_with (go_at_fn g; refine (HCL.out _ hbw).mono ?_; rintro e w2 ⟨rfl, hn2⟩)
      · go_roundw
        case rel => exact ⟨k + 1, by omega, by go_num, hbw.trans hn2, by rw [HQ.out, HD.out, HB.out, if_neg (by simp)]⟩
        case measure => simp [intOf]; omega
      · go_ret
        exact ⟨ret_int (by rw [HQ.out, HD.out, HB.out, if_pos rfl]), hbw.trans hn2⟩
    · go_wp2
      go_ret
      exact ⟨ret_int (by rw [HQ.out, List.drop_of_length_le (by have := HN.out; omega)]; rfl), hbw⟩
set_option maxRecDepth 100000 in
set_option maxHeartbeats 1000000 in
theorem w_ContFS4 (g : Nat) (p : ByteArray → Bool) (a1 a2 a3 a4 : Value) (eg : Enters g) (lo : Nat) (A : Option Addr) (c : Nat) (l : List ByteArray) (w : World) (hcl : ∀ y, y ∈ l → ∀ W, Nx w W → Calls Tryz.prog g #[.string y, a1, a2, a3, a4] W fun e w' => e = .returned (.bool (p y)) ∧ Nx W w')
    (hR : Rd w lo A 1 encS l) (hl : l.length ≤ 65536) :
    Calls Tryz.prog 68 #[.slice A l.length c, .func (.func g) #[] #[a1, a2, a3, a4]] w fun e w' => e = .returned (.bool (l.any p)) ∧ Nx w w' := by
  have HC := hide (w_IndexFS4 g p a1 a2 a3 a4 eg lo A c l w hcl hR hl)
  have HA := hide (idxP_any p l 0)
  rw [show idxP p l 0 = findI p l from rfl] at HA
  generalize findI p l = r at *
  generalize l.any p = z at *
  clear hcl eg hR hl
  generalize l.length = n at *
  have h1 := HA.out
  have h2 : decide (r ≥ 0) = z := h1
  go_enter Tryz.func68, Tryz.ntmps68
  go_wp2_with (go_at_call 139; refine HC.out.mono ?_; rintro e w2 ⟨rfl, hn2⟩)
  go_ret
  exact ⟨rfl, hn2⟩
theorem covS_bd {r : ByteArray → ByteArray → Bool} {l : List ByteArray} : ∀ (ws : List Wgt), (∀ w ∈ ws, 0 ≤ w.many ∧ w.many ≤ 1000000000) → 0 ≤ covS r l ws ∧ covS r l ws ≤ ws.length * 1000000000
  | [], _ => ⟨Int.le_refl _, by simp [covS]⟩
  | w :: ws, h => by
    have h1 := covS_bd (r := r) (l := l) ws (fun x hx => h x (List.mem_cons_of_mem _ hx))
    have h2 := h w (by simp)
    unfold covS
    rw [List.length_cons]
    split <;> omega
theorem covS_drop (r : ByteArray → ByteArray → Bool) (l : List ByteArray) (ws : List Wgt) (k : Nat) (hk : k < ws.length) : covS r l (ws.drop k) = (if l.any (fun s => r s ws[k].node) then ws[k].many else 0) + covS r l (ws.drop (k + 1)) := by
  rw [List.drop_eq_getElem_cons hk, covS]
set_option maxRecDepth 100000 in
set_option maxHeartbeats 2000000 in
theorem w_CoveredOf (lo : Nat) (A B C : Option Addr) (nn ca cb cc : Nat) (ns : List Node) (rs : List Arc) (bs : List Ban) (lo2 : Nat) (D : Option Addr) (cd : Nat) (l : List ByteArray) (lo3 : Nat) (E : Option Addr) (ce : Nat) (ws : List Wgt) (ad wi : Int) (w : World)
    (hV : ValR w lo A B C nn ca cb cc ns rs bs) (hD : Rd w lo2 D 1 encS l) (hl : l.length ≤ 65536) (hls : ∀ s ∈ l, 0 ≤ nodeI ns s) (hE : Rd w lo3 E 2 encW ws) (hw : ws.length ≤ 500) (hwb : ∀ x ∈ ws, 0 ≤ nodeI ns x.node ∧ 0 ≤ x.many ∧ x.many ≤ 1000000000) (ha : 0 ≤ ad ∧ ad ≤ 345686399999) :
    Calls Tryz.prog 28 #[.agg #[.slice A nn ca, .slice B rs.length cb, .slice C bs.length cc], .slice D l.length cd, .slice E ws.length ce, .int .i64 ad, .int .i64 wi] w fun e w' => e = .returned (.int .i64 (covS (reachB ns rs bs ad wi) l ws)) ∧ Nx w w' := by
  obtain ⟨wa, hwa⟩ : ∃ wa, wa = ((w.alloc (.cells #[.slice A nn ca, .slice B rs.length cb, .slice C bs.length cc] 30)).alloc (.cells #[.int .i64 ad] 3)).alloc (.cells #[.int .i64 wi] 3) := ⟨_, rfl⟩
  have hna : Nx w wa := hwa ▸ (((Nx.refl w).alloc _).alloc _).alloc _
  have hsz : wa.heap.size = w.heap.size + 3 := by rw [hwa]; simp
  have b0 : wa.cell? ⟨w.heap.size, 0, none⟩ = some (.slice A nn ca) := by rw [hwa]; go_simp
  have b1 : wa.cell? ⟨w.heap.size, 1, none⟩ = some (.slice B rs.length cb) := by rw [hwa]; go_simp
  have b2 : wa.cell? ⟨w.heap.size, 2, none⟩ = some (.slice C bs.length cc) := by rw [hwa]; go_simp
  have b3 : wa.cell? ⟨w.heap.size + 1, 0, none⟩ = some (.int .i64 ad) := by rw [hwa]; go_simp
  have b4 : wa.cell? ⟨w.heap.size + 2, 0, none⟩ = some (.int .i64 wi) := by rw [hwa]; go_simp
  have HCF := hide (fun q t W (hg : Nx wa W) (hq : W.cell? ⟨q, 0, none⟩ = some (.string t)) (hql : q < W.heap.size) (ht : 0 ≤ nodeI ns t) => w_ContFS4 86 (fun s => reachB ns rs bs ad wi s t) (.pointer (some ⟨w.heap.size, 0, none⟩)) (.pointer (some ⟨q, 0, none⟩)) (.pointer (some ⟨w.heap.size + 1, 0, none⟩)) (.pointer (some ⟨w.heap.size + 2, 0, none⟩)) eg_cvo1 lo2 D cd l W (fun y hy W2 h2 => w_cvo1 lo A B C nn ca cb cc ns rs bs w.heap.size q (w.heap.size + 1) (w.heap.size + 2) y t ad wi W2 (nx_cell (hg.trans h2) (by omega) b0) (nx_cell (hg.trans h2) (by omega) b1) (nx_cell (hg.trans h2) (by omega) b2) (nx_cell h2 hql hq) (nx_cell (hg.trans h2) (by omega) b3) (nx_cell (hg.trans h2) (by omega) b4) (by have := (hg.trans h2).sz; omega) (by have := (hg.trans h2).sz; omega) (hV.nx (hna.trans (hg.trans h2))) (hls y hy) ht ha) (hD.nx (hna.trans hg)) hl)
  have HEE := hide (hE.nx hna)
  have HWB := hide hwb
  have HWA := hide hwa
  have HNA := hide hna
  clear hV hD hls hE hwb ha hwa hna b0 b1 b2 b3 b4
  generalize reachB ns rs bs ad wi = r at *
  generalize rs.length = nr at *
  generalize bs.length = nb at *
  generalize hn : ws.length = n at *
  have HN := hide hn
  clear hn
  generalize l.length = m at *
  go_enter Tryz.func28, Tryz.ntmps28
  go_upto_region 1 with fail
  rw [← HWA.out]
  clear HWA
  generalize w.heap.size = g at *
  go_wp2_with fail
  go_loopw [11, 16] (fun v i wr => ∃ (k : Nat) (s : Int), k ≤ n ∧ i = .int .i64 k ∧ v = .int .i64 s ∧ 0 ≤ s ∧ s ≤ k * 1000000000 ∧ Nx wa wr ∧ covS r l ws = s + covS r l (ws.drop k)) (fun _ i _ => n - (intOf i).toNat)
  case atStart => exact ⟨0, 0, Nat.zero_le _, rfl, rfl, Int.le_refl _, by simp, Nx.refl _, by rw [List.drop_zero]; omega⟩
  case round =>
    obtain ⟨k, s, hk, rfl, rfl, hs0, hs1, hbw, hq⟩ := hrel
    have HQ := hide hq
    clear hq
    by_cases hlt : k < n
    · have hlt' : k < ws.length := by have := HN.out; omega
      obtain ⟨b, off, rfl, _, hb, hbr, hc⟩ := HEE.out.open_ hbw (by omega)
      have c0 : wr.cell? ⟨b, off + k * 2, none⟩ = some (.string ws[k].node) := hc k hlt' 0 _ rfl
      have c1 : wr.cell? ⟨b, off + k * 2 + 1, none⟩ = some (.int .i64 ws[k].many) := hc k hlt' 1 _ rfl
      have hm := HWB.out _ (List.getElem_mem hlt')
      have HDR := hide (covS_drop r l ws k hlt')
      clear hc
      generalize ws[k].many = mk at *
      generalize ws[k].node = nk at *
      obtain ⟨wb, hwb⟩ : ∃ wb, wb = wr.alloc (.cells #[.string nk, .int .i64 mk] 117) := ⟨_, rfl⟩
      have hnb : Nx wr wb := hwb ▸ (Nx.refl wr).alloc _
      have hsb : wb.heap.size = wr.heap.size + 1 := by rw [hwb]; simp
      have k0 : wb.cell? ⟨wr.heap.size, 0, none⟩ = some (.string nk) := by rw [hwb]; go_simp
      have k1 : wb.cell? ⟨wr.heap.size, 1, none⟩ = some (.int .i64 mk) := by rw [hwb]; go_simp
      have HC := hide (HCF.out wr.heap.size nk wb (hbw.trans hnb) k0 (by omega) hm.1)
      have HK1 := hide (fun W (h : Nx wb W) => nx_cell h (show wr.heap.size < wb.heap.size by omega) k1)
      have HWB2 := hide hwb
      clear hwb k0 k1
      have W1 : IntKind.i64.wrap (s + mk) = s + mk := IntWalk.i64_in _ (by omega)
      have HBW := hide (hbw.trans hnb)
      generalize l.any (fun s => r s nk) = z at *
      go_upto_region 5 with fail
      rw [← HWB2.out]
      clear HWB2 c0 c1
      generalize wr.heap.size = g2 at *
      cases z
      · go_wp2_with (go_at_call 68; refine HC.out.mono ?_; rintro e w2 ⟨rfl, hn2⟩)
        go_roundw
        case rel => exact ⟨k + 1, s, by omega, by go_num, rfl, hs0, by omega, HBW.out.trans hn2, by rw [HQ.out, HDR.out]; first | (rw [if_neg (by simp)]; omega) | (rw [if_neg not_false]; omega)⟩
        case measure => simp [intOf]; omega
      · go_wp2_with (go_at_call 68; refine HC.out.mono ?_; rintro e w2 ⟨rfl, hn2⟩; have m1 := HK1.out _ hn2)
        go_roundw
        case rel => exact ⟨k + 1, s + mk, by omega, by go_num, rfl, by omega, by omega, HBW.out.trans hn2, by rw [HQ.out, HDR.out]; first | (rw [if_pos rfl]; omega) | (rw [if_pos trivial]; omega)⟩
        case measure => simp [intOf]; omega
    · go_wp2_with fail
      go_ret
      exact ⟨ret_int (by rw [HQ.out, List.drop_of_length_le (by have := HN.out; omega)]; exact (Int.add_zero _).symm), HNA.out.trans hbw⟩
end Go.Proofs.YtmpnilliichpfaaGreatDoor
/- Some nodes' keys: the stream's. -/
namespace Go.Proofs.YtmpnilliichpfaaGreatDoor
open Go.RowKit

theorem el_SN : ElemOf Tryz.prog 32 9 1 16 := ElemOf.mk' (z := .string ByteArray.empty) Tryz.underlying32 (by kernel_rfl) rfl
def StrKs (s k most : Nat) (w : World) (e : Ending) (w' : World) : Prop := ∃ (D : Option Addr) (cd : Nat) (l : List ByteArray), e = .returned (.slice D l.length cd) ∧ l.length ≤ most ∧ Rd w' w.heap.size D 1 encS l ∧ Gr s w w' ∧ Str w' s (k + 1 + 2 * most)
set_option maxRecDepth 100000 in
set_option maxHeartbeats 4000000 in
theorem w_NodeKeys (s k lo : Nat) (A B C : Option Addr) (n1 n2 ca cb cc : Nat) (ns : List Node) (most : Nat) (w : World) (hS : Str w s k) (hk : k < 600000) (hR : Rd w lo A 3 encNode ns) (hSm : SmallN ns) (h0 : 0 < ns.length) (hl : ns.length ≤ 400) (hlo : s < lo) (hm : most ≤ 1000) :
    Calls Tryz.prog 12 #[.pointer (some ⟨s, 0, none⟩), .agg #[.slice A ns.length ca, .slice B n1 cb, .slice C n2 cc], .int .i64 (most : Int)] w (StrKs s k most w) := by
  have hsl := hS.lt
  obtain ⟨wa, hwa⟩ : ∃ wa, wa = w.alloc (.cells #[.slice A ns.length ca, .slice B n1 cb, .slice C n2 cc] 30) := ⟨_, rfl⟩
  have hna : Nx w wa := hwa ▸ (Nx.refl w).alloc _
  have hgw : w.heap.size < wa.heap.size := by rw [hwa]; simp
  have b0 : wa.cell? ⟨w.heap.size, 0, none⟩ = some (.slice A ns.length ca) := by rw [hwa]; go_simp
  have b1 : wa.cell? ⟨w.heap.size, 1, none⟩ = some (.slice B n1 cb) := by rw [hwa]; go_simp
  have b2 : wa.cell? ⟨w.heap.size, 2, none⟩ = some (.slice C n2 cc) := by rw [hwa]; go_simp
  have hne : w.heap.size ≠ s := by omega
  have HBX := hide (fun W (hg : Gr s wa W) => (⟨World.grownBy.cell (row := some s) hg b0 (by simp; omega), World.grownBy.cell (row := some s) hg b1 (by simp; omega), World.grownBy.cell (row := some s) hg b2 (by simp; omega)⟩ : W.cell? ⟨w.heap.size, 0, none⟩ = some (.slice A ns.length ca) ∧ W.cell? ⟨w.heap.size, 1, none⟩ = some (.slice B n1 cb) ∧ W.cell? ⟨w.heap.size, 2, none⟩ = some (.slice C n2 cc)))
  have HNK := hide (fun k W (hg : Gr s wa W) (hS : Str W s k) (hk : k < 700000) => w_NodeKey s k lo A B C n1 n2 ca cb cc ns W hS hk ((hR.nx hna).gr hg hlo) hSm h0 hl hlo)
  have HSA := hide (hS.nx hna)
  have HWA := hide hwa
  have HNA := hide hna
  have hsa : s < wa.heap.size := by omega
  clear hwa hna b0 b1 b2 hR hS
  have hsz := HNA.out.sz
  generalize ns.length = nn at *
  go_enter Tryz.func12, Tryz.ntmps12
  go_upto_region 1 with fail
  rw [← HWA.out]
  generalize hg : w.heap.size = g at *
  go_wp2_with fail
  refine (w_Range 0 most s k wa HSA.out (by omega) (by omega) (by omega)).mono ?_
  rintro e w1 ⟨r, hr1, hr2, rfl, hg1, hS1⟩
  obtain ⟨n, rfl⟩ := Int.eq_ofNat_of_zero_le hr1
  have HG1 := hide hg1
  have HS1 := hide hS1
  clear hg1 hS1 HSA
  go_wp2_with fail
  go_loopw [7, 11] (fun v u wr => ∃ (j : Nat) (l : List ByteArray), j ≤ n ∧ u = .int .i64 (j : Int) ∧ l.length = j ∧ wr.ownsRow wa.heap.size 9 1 v l.length (l.flatMap encS) ∧ Gr s wa wr ∧ Str wr s (k + 1 + 2 * j)) (fun _ u _ => n - (intOf u).toNat)
  case atStart => exact ⟨0, [], Nat.zero_le _, rfl, rfl, World.ownsRow_nil _ _ _ _, HG1.out, HS1.out⟩
  case round =>
    obtain ⟨j, l, hj, rfl, hlj, hown, hgr, hSr⟩ := hrel
    have HO := hide hown
    have HGR := hide hgr
    have HSR := hide hSr
    have HLJ := hide hlj
    have hszr := hgr.sz
    clear hown hgr hSr hlj
    by_cases hlt : j < n
    · obtain ⟨c0, c1, c2⟩ := HBX.out wr HGR.out
      have tl : decide ((j : Int) < (n : Int)) = true := decide_eq_true (by omega)
      have HA := hide (HNK.out _ wr HGR.out HSR.out (by omega))
      go_wp2_with (first
        | (go_at_call 31; refine HA.out.mono ?_; rintro e w4 ⟨t, rfl, _, hg4, hS4⟩; (have HO4 := hide (own_gr HO.out hg4 hsa)); (have hsz4 := hg4.sz))
        | (at_builtin; refine wpApp2 rfl _ _ _ rfl el_SN encS encS_len encS_one (by omega) (by omega) wa.heap.size _ l rfl (HO4.out.alloc _) _ t _ rfl (hnew rfl) rfl (by have := HLJ.out; omega) (by simp; omega) ?_; intro v9 w9 hown9 hg9 _; (have HO9 := hide hown9); (have HG9 := hide hg9); clear hown9 hg9))
      go_roundw
      case rel =>
        refine ⟨j + 1, l ++ [t], by omega, by go_num, by have := HLJ.out; simp; omega, HO9.out, ((HGR.out.trans hg4).alloc _).grown HG9.out (fun x hx => .inr (own_blk_lt HO4.out x hx)), ?_⟩
        exact ((hS4.nx ((Nx.refl w4).alloc (.cells #[.string t] 9))).row HG9.out (fun x hx => Nat.lt_of_lt_of_le hsa (own_blk_lt HO4.out x hx))).more (by omega)
      case measure => simp [intOf]; omega
    · obtain rfl : n = j := by omega
      obtain ⟨D, cd, rfl, hRd, _⟩ := Rd.of_own encS_len rfl HO.out
      have HRd := hide hRd
      have HLL := hide (show l.length ≤ most by have := HLJ.out; omega)
      clear hRd HO
      go_wp2_with fail
      go_ret
      refine ⟨D, cd, l, rfl, HLL.out, HRd.out.low (by omega), ?_, ?_⟩
      · exact (Gr.of_nx HNA.out).trans HGR.out
      · exact HSR.out.more (by have := HLJ.out; omega)
end Go.Proofs.YtmpnilliichpfaaGreatDoor
/- 'append(x[:len(x):len(x)], y)': a new row, at a step of a region that draws; elements of one cell. Of no program. -/
namespace Go.Proofs.YtmpnilliichpfaaGreatDoor
open Go.RowKit
theorem own_capF {w : World} {base : Nat} {e : TypeId} {K n m c : Nat} {A : Option Addr} {xs : List Value} (h : w.ownsRow base e K (.slice A m c) n xs) : n ≤ c := by
  rcases h.2 with ⟨_, h0⟩ | ⟨g, cap, cur, e1, _, _, hc, _⟩
  · omega
  · injection e1 with _ _ e3
    subst e3
    exact hc
theorem flat_one {α : Type} {enc : α → List Value} {val : α → Value} (henc : ∀ x, enc x = [val x]) (L : List α) : L.flatMap enc = L.map val := by
  induction L with
  | nil => rfl
  | cons x L ih => rw [List.flatMap_cons, henc, ih]; rfl
theorem step_full {α : Type} {P : Program} {w : World} {ops : Array Oper} {o : Oper} {a : Act} {K' : Act → World → Prop} {Q : Exit → Act → World → Prop} {E' : Prop} (hgd : o.guard = none) (s x : Operand) (t : TypeId)
    (ho : o.op = .call { callee := .builtin .append, args := #[s, x], argTypes := #[t, t] })
    {e : TypeId} {bytes : Nat} (E : ElemOf P t e 1 bytes) (enc : α → List Value) (val : α → Value) (henc : ∀ x, enc x = [val x]) (h1c : ∀ x, ∀ v ∈ enc x, v.oneCell' = true) (hB : bytes ≤ 1000)
    (lo : Nat) (N : Option Addr) (L : List α) (hs : a.eval s = .slice N L.length L.length) (hR : Rd w lo N 1 enc L) (g : Nat) (y : α) (cs : Array Value) (hx : a.eval x = .slice (some ⟨g, 0, none⟩) 1 1)
    (hblk : w.heap[g]? = some (.cells cs e (0, 0))) (hcs : cs.toList = enc y) (hlen : L.length ≤ 10000000)
    (h : ∀ v' w', w'.ownsRow w.heap.size e 1 v' (L ++ [y]).length ((L ++ [y]).flatMap enc) → Nx w w' → K' (a.put o.dst v') w') :
    if Region.wanted o (yielded ops a.tmps) = true then Oper.wp P o a w K' Q else E' := by
  obtain ⟨i, z, h1, h2, h3, h4, h5⟩ := E.hi
  refine step_append_grows hgd s x t ho e i z 1 bytes E.ht h1 h2 h3 h4 h5 (by omega) N L.length L.length (L.map val) hs (fun hN => ?_) (by rw [List.length_map, Nat.mul_one]) (fun b hb j u hj => ?_) ⟨g, 0, none⟩ 1 1 (enc y) hx (by rw [henc]; rfl) (news_of hblk hcs) (h1c y) (by omega) (by unfold maxLen; omega) ?_ (fun v' w' ho' hg' => ?_)
  · rcases Nat.eq_zero_or_pos L.length with h0 | h0
    · exact ⟨h0, h0⟩
    · obtain ⟨b, off, e1, _⟩ := hR h0
      rw [hN] at e1; cases e1
  · rw [List.getElem?_map] at hj
    obtain ⟨q, hq, rfl⟩ := Option.map_eq_some_iff.1 hj
    have hjl : j < L.length := by
      rcases Nat.lt_or_ge j L.length with h0 | h0
      · exact h0
      · rw [List.getElem?_eq_none h0] at hq; cases hq
    obtain ⟨b', off, e1, _, _, hc⟩ := hR (by omega)
    rw [hb] at e1
    injection e1 with e1
    subst e1
    have := hc j q hq 0 (val q) (by rw [henc]; rfl)
    rw [Addr.add_lit]
    simpa using this
  · have : (L.length + 1) * bytes ≤ 10000001 * 1000 := Nat.mul_le_mul (by omega) hB
    omega
  · have e1 : (L ++ [y]).length = L.length + 1 := by simp
    refine h v' w' ?_ ((Nx.refl w).grown hg' (fun k hk => by cases hk))
    rw [e1, List.flatMap_append, flat_one henc L]
    simpa using ho'
end Go.Proofs.YtmpnilliichpfaaGreatDoor
/- All choices in order: the reference. -/
namespace Go.Proofs.YtmpnilliichpfaaGreatDoor
open Go.RowKit

/-- The best that was found so far, in its two boxes. -/
def BestR (w : World) (base qM qB : Nat) (acc : List ByteArray × Int) : Prop := w.heap[qM]? = some (.cells #[.int .i64 acc.2] 3 (0, 0)) ∧ ∃ (B : Option Addr) (cb : Nat), w.heap[qB]? = some (.cells #[.slice B acc.1.length cb] 32 (0, 0)) ∧ Rd w base B 1 encS acc.1 ∧ acc.1.length ≤ cb
theorem BestR.step {w w' : World} {base qM qB : Nat} {acc : List ByteArray × Int} (h : BestR w base qM qB acc) (hn : Nx w w') : ∃ (B : Option Addr) (cb : Nat), w'.heap[qB]? = some (.cells #[.slice B acc.1.length cb] 32 (0, 0)) ∧ Rd w' base B 1 encS acc.1 ∧ acc.1.length ≤ cb := by
  obtain ⟨B, cb, h1, h2, h3⟩ := h.2
  exact ⟨B, cb, (hn.block qB (lt_of_heap h1)).trans h1, h2.nx hn, h3⟩
theorem eg_cho1 : Enters 88 := enters_of Tryz.func88 (by kernel_rfl) rfl
section
variable {w0 : World} {q0 qm qw qa qi qM qB qs qt base nn nr nb n m2 ca cb cc ce cs : Nat} {A B C E S : Option Addr} {ad wi many : Int} {sites : List ByteArray} {cov : List ByteArray → Int}
set_option maxRecDepth 100000 in
set_option maxHeartbeats 8000000 in
theorem w_tryO (HBX : Hid (∀ W, Nx w0 W → (W.cell? ⟨qm, 0, none⟩ = some (.int .i64 many) ∧ W.cell? ⟨q0, 0, none⟩ = some (.slice A nn ca) ∧ W.cell? ⟨q0, 1, none⟩ = some (.slice B nr cb) ∧ W.cell? ⟨q0, 2, none⟩ = some (.slice C nb cc)) ∧ (W.cell? ⟨qw, 0, none⟩ = some (.slice E m2 ce) ∧ W.cell? ⟨qa, 0, none⟩ = some (.int .i64 ad) ∧ W.cell? ⟨qi, 0, none⟩ = some (.int .i64 wi) ∧ W.cell? ⟨qs, 0, none⟩ = some (.slice S n cs))))
    (HCO : Hid (∀ W N c so, Nx w0 W → Rd W base N 1 encS so → (∀ s ∈ so, s ∈ sites) → so.length ≤ n → Calls Tryz.prog 28 #[.agg #[.slice A nn ca, .slice B nr cb, .slice C nb cc], .slice N so.length c, .slice E m2 ce, .int .i64 ad, .int .i64 wi] W fun e w' => e = .returned (.int .i64 (cov so)) ∧ Nx W w'))
    (HSI : Hid (Rd w0 0 S 1 encS sites)) (HSN : Hid (sites.length = n)) (hn : n ≤ 1000) (hM : w0.heap.size ≤ qM) (hB : w0.heap.size ≤ qB) (hMB : qM ≠ qB) (hqt : w0.heap.size ≤ qt ∧ qt ≠ qM ∧ qt ≠ qB) (hba : qM < base ∧ qB < base ∧ qt < base) :
    ∀ (d k : Nat) (so : List ByteArray) (N : Option Addr) (c : Nat) (acc : List ByteArray × Int) (w : World), n - k = d → k ≤ n → Nx w0 w → base ≤ w.heap.size → w.cell? ⟨qt, 0, none⟩ = some (.func (.func 88) #[] #[.pointer (some ⟨qm, 0, none⟩), .pointer (some ⟨q0, 0, none⟩), .pointer (some ⟨qw, 0, none⟩), .pointer (some ⟨qa, 0, none⟩), .pointer (some ⟨qi, 0, none⟩), .pointer (some ⟨qM, 0, none⟩), .pointer (some ⟨qB, 0, none⟩), .pointer (some ⟨qs, 0, none⟩), .pointer (some ⟨qt, 0, none⟩)]) → BestR w base qM qB acc → Rd w base N 1 encS so → (∀ s ∈ so, s ∈ sites) → so.length ≤ k →
      Calls Tryz.prog 88 #[.int .i64 (k : Int), .slice N so.length c, .pointer (some ⟨qm, 0, none⟩), .pointer (some ⟨q0, 0, none⟩), .pointer (some ⟨qw, 0, none⟩), .pointer (some ⟨qa, 0, none⟩), .pointer (some ⟨qi, 0, none⟩), .pointer (some ⟨qM, 0, none⟩), .pointer (some ⟨qB, 0, none⟩), .pointer (some ⟨qs, 0, none⟩), .pointer (some ⟨qt, 0, none⟩)] w fun e w' => e = .returned (.tuple #[]) ∧ BestR w' base qM qB (tryG cov many (sites.drop k) so acc) ∧ Kp qM qB w w' := by
  intro d
  induction d using Nat.strongRecOn with
  | _ d IH =>
  intro k so N c acc w hd hk hnx hbs htc hbest hN hsub hsl
  obtain ⟨z1, z2⟩ := HBX.out w hnx
  obtain ⟨m0, r0, r1, r2⟩ := z1
  obtain ⟨x0, x1, x2, x3⟩ := z2
  have HN := hide hN
  have HSUB := hide hsub
  have HSL := hide hsl
  have HNX := hide hnx
  have HBE := hide hbest
  have HTC := hide htc
  clear hN hsub hsl hnx hbest htc
  by_cases hm : (so.length : Int) = many
  · have HG := hide (show tryG cov many (sites.drop k) so acc = updC cov so acc from if_pos hm)
    have HU := hide (show updC cov so acc = if acc.2 < cov so then (so, cov so) else acc from rfl)
    rw [HG.out]
    clear HG IH
    have HCO2 := hide (HCO.out w N c so HNX.out HN.out HSUB.out (by have := HSL.out; omega))
    have tm : ((so.length : Int) == many) = true := by simpa using hm
    have HCL := hide (fun W (h : Nx w W) => w_CloneS base N c so W (HN.out.nx h) (by have := HSL.out; omega))
    obtain ⟨accS, accM⟩ := acc
    have hbM := HBE.out.1
    obtain ⟨Bb, cbb, hbB, hbR, hbl⟩ := HBE.out.2
    have HBM := hide hbM
    have HBB := hide hbB
    have HBR := hide hbR
    clear hbM hbB hbR HBE hm
    generalize updC cov so (accS, accM) = U at *
    generalize cov so = cv at *
    generalize hsl2 : so.length = sl at *
    have HSL2 := hide hsl2
    clear hsl2
    by_cases hlt : accM < cv
    · have hU := HU.out.trans (if_pos hlt)
      subst hU
      have t1 : decide (accM < cv) = true := decide_eq_true hlt
      have t1' : decide (cv > accM) = true := t1
      clear hlt HU
      go_enter Tryz.func88, Tryz.ntmps88
      go_wp2_with fail
      refine HCO2.out.mono ?_
      rintro e w2 ⟨rfl, hn2⟩
      have y0 : w2.cell? ⟨qM, 0, none⟩ = some (.int .i64 accM) := nx_cell hn2 (lt_of_heap HBM.out) ((cell_of_row w qM 0 _ _ _ HBM.out).trans rfl)
      clear m0 r0 r1 r2 x0 x1 x2 x3
      go_wp2_with fail
      refine (HCL.out w2 hn2).mono ?_
      rintro e w3 ⟨v, rfl, hown, hn3⟩
      obtain ⟨A', c', rfl, hRd, _⟩ := Rd.of_own encS_len HSL2.out.symm hown
      have hcap := own_capF hown
      have hn23 := hn2.trans hn3
      have b3 : w3.heap[qB]? = some (.cells #[.slice Bb accS.length cbb] 32 (0, 0)) := (hn23.block qB (lt_of_heap HBB.out)).trans HBB.out
      have b4 : w3.heap[qM]? = some (.cells #[.int .i64 accM] 3 (0, 0)) := (hn23.block qM (lt_of_heap HBM.out)).trans HBM.out
      have c3 : w3.cell? ⟨qB, 0, none⟩ = some (.slice Bb accS.length cbb) := (cell_of_row w3 qB 0 _ _ _ b3).trans rfl
      have c4 : w3.cell? ⟨qM, 0, none⟩ = some (.int .i64 accM) := (cell_of_row w3 qM 0 _ _ _ b4).trans rfl
      have f3 := frozen_blkQ (j := 0) b3
      have f4 := frozen_blkQ (j := 0) b4
      have b4' : (w3.setCell ⟨qB, 0, none⟩ (.slice A' so.length c')).heap[qM]? = some (.cells #[.int .i64 accM] 3 (0, 0)) := (heap_setCell_other w3 ⟨qB, 0, none⟩ qM _ hMB).trans b4
      have c4' : (w3.setCell ⟨qB, 0, none⟩ (.slice A' so.length c')).cell? ⟨qM, 0, none⟩ = some (.int .i64 accM) := (cell_of_row _ qM 0 _ _ _ b4').trans rfl
      have f4' := frozen_blkQ (j := 0) b4'
      have b3' : (w3.setCell ⟨qB, 0, none⟩ (.slice A' so.length c')).heap[qB]? = some (.cells #[.slice A' so.length c'] 32 (0, 0)) := heap_setCell_same w3 qB 0 _ _ _ b3
      have HB3 := hide b3'
      have HB4 := hide b4'
      have HRd := hide hRd
      have HN23 := hide hn23
      have hb2 : base ≤ w2.heap.size := Nat.le_trans hbs hn2.sz
      clear b3 b4 b3' b4' hRd hown hn2 hn3 hn23
      go_wp2_with fail
      have hsz : ((w3.setCell ⟨qB, 0, none⟩ (.slice A' so.length c')).setCell ⟨qM, 0, none⟩ (.int .i64 cv)).heap.size = w3.heap.size := by simp [World.setCell]
      have hk3 : Kp qM qB w3 ((w3.setCell ⟨qB, 0, none⟩ (.slice A' so.length c')).setCell ⟨qM, 0, none⟩ (.int .i64 cv)) := ((Kp.refl qM qB w3).set _ _ (.inr rfl)).set _ _ (.inl rfl)
      refine bodyPost_ret (v := .tuple #[]) (by simp [results, Tryz.results88, go_sem]) rfl ?_
      refine ⟨rfl, ⟨heap_setCell_same _ qM 0 _ _ _ HB4.out, A', c', ?_, (HRd.out.low hb2).kp hk3 hba.1 hba.2.1, (show so.length ≤ c' by rw [HSL2.out]; exact hcap)⟩, (Kp.of_nx HN23.out).trans hk3⟩
      exact (heap_setCell_other _ ⟨qM, 0, none⟩ qB _ (Ne.symm hMB)).trans HB3.out
    · have hU := HU.out.trans (if_neg hlt)
      subst hU
      have t1 : decide (accM < cv) = false := decide_eq_false hlt
      have t1' : decide (cv > accM) = false := t1
      clear hlt HU
      go_enter Tryz.func88, Tryz.ntmps88
      go_wp2_with fail
      refine HCO2.out.mono ?_
      rintro e w2 ⟨rfl, hn2⟩
      have y0 : w2.cell? ⟨qM, 0, none⟩ = some (.int .i64 accM) := nx_cell hn2 (lt_of_heap HBM.out) ((cell_of_row w qM 0 _ _ _ HBM.out).trans rfl)
      clear m0 r0 r1 r2 x0 x1 x2 x3
      go_wp2_with fail
      refine bodyPost_ret (v := .tuple #[]) (by simp [results, Tryz.results88, go_sem]) rfl ?_
      exact ⟨rfl, ⟨(hn2.block qM (lt_of_heap HBM.out)).trans HBM.out, Bb, cbb, (hn2.block qB (lt_of_heap HBB.out)).trans HBB.out, HBR.out.nx hn2, hbl⟩, Kp.of_nx hn2⟩
  · have HG := hide (show tryG cov many (sites.drop k) so acc = tryL cov many (sites.drop k) so acc from if_neg hm)
    rw [HG.out]
    clear HG HCO
    have tm : ((so.length : Int) == many) = false := by simpa using hm
    have HCL := hide (fun W (h : Kp qM qB w W) => w_CloneS base N c so W (HN.out.kp h hba.1 hba.2.1) (by have := HSL.out; omega))
    clear hm
    generalize hT : tryL cov many (sites.drop k) so acc = T
    have HT := hide hT
    clear hT
    have HTCW := hide (fun W (h : Kp qM qB w W) => h.cell HTC.out hqt.2.1 hqt.2.2 (Nat.lt_of_lt_of_le hba.2.2 hbs))
    have HIH := hide IH
    clear IH r0 r1 r2 x0 x1 x2
    have eg := eg_cho1
    unfold Enters at eg
    go_enter Tryz.func88, Tryz.ntmps88
    go_wp2_with fail
    go_loopw [14] (fun u wr => ∃ (i : Nat) (acc' : List ByteArray × Int), k ≤ i ∧ i ≤ n ∧ u = .int .i64 (i : Int) ∧ BestR wr base qM qB acc' ∧ Kp qM qB w wr ∧ tryL cov many (sites.drop i) so acc' = T) (fun u _ => n - (intOf u).toNat)
    case atStart => exact ⟨k, acc, Nat.le_refl _, hk, rfl, HBE.out, Kp.refl _ _ _, HT.out⟩
    case round =>
      obtain ⟨i, acc', hki, hi, rfl, hbe, hkp, hq⟩ := hrel
      have HQ := hide hq
      have HBE2 := hide hbe
      have HKP := hide hkp
      have hnw := hkp.nx HNX.out hM hB
      have hbr : base ≤ wr.heap.size := Nat.le_trans hbs hkp.sz
      clear hq hbe hkp x3
      by_cases hlt : i < n
      · have hlt' : i < sites.length := by have := HSN.out; omega
        obtain ⟨yb, yo, rfl, _, hyb, hyb1, hyc⟩ := HSI.out.open_ hnw (by omega)
        have c0 : wr.cell? ⟨yb, yo + i, none⟩ = some (.string sites[i]) := by have := hyc i hlt' 0 _ rfl; simpa using this
        have HD := hide (tryL_drop cov many sites i hlt' so acc')
        have HSB : Hid (∀ x ∈ so ++ [sites[i]], x ∈ sites) := hide (fun x hx => (List.mem_append.1 hx).elim (HSUB.out x) (fun h => by rw [List.mem_singleton.1 h]; exact List.getElem_mem hlt'))
        clear hyc
        generalize sites[i] = s at *
        have HSW := hide (fun W (h : Kp qM qB wr W) => (⟨HTCW.out W (HKP.out.trans h), (HBX.out W (h.nx hnw hM hB)).2.2.2.2, h.cell c0 (show yb ≠ qM by omega) (show yb ≠ qB by omega) hyb1⟩ : W.cell? ⟨qt, 0, none⟩ = some (.func (.func 88) #[] #[.pointer (some ⟨qm, 0, none⟩), .pointer (some ⟨q0, 0, none⟩), .pointer (some ⟨qw, 0, none⟩), .pointer (some ⟨qa, 0, none⟩), .pointer (some ⟨qi, 0, none⟩), .pointer (some ⟨qM, 0, none⟩), .pointer (some ⟨qB, 0, none⟩), .pointer (some ⟨qs, 0, none⟩), .pointer (some ⟨qt, 0, none⟩)]) ∧ W.cell? ⟨qs, 0, none⟩ = some (.slice (some ⟨yb, yo, none⟩) n cs) ∧ W.cell? ⟨yb, yo + i, none⟩ = some (.string s)))
        have tc := HTCW.out wr HKP.out
        have x3 := (HBX.out wr hnw).2.2.2.2
        have q1 : (0 : Int) ≤ (i : Int) := by omega
        have q2 : (i : Int) < (n : Int) := by omega
        have W1 : IntKind.i64.wrap ((i : Int) + 1) = (i : Int) + 1 := IntWalk.i64_in _ (by omega)
        have IHH := hide (fun k' (hk' : k' ≤ n) (hlt' : i < k') so N c acc w => HIH.out (n - k') (by omega) k' so N c acc w rfl hk')
        go_upto_region 7 with fail
        refine wp_region_held_drew (S := fun w' => w'.cell? ⟨qt, 0, none⟩ = some (.func (.func 88) #[] #[.pointer (some ⟨qm, 0, none⟩), .pointer (some ⟨q0, 0, none⟩), .pointer (some ⟨qw, 0, none⟩), .pointer (some ⟨qa, 0, none⟩), .pointer (some ⟨qi, 0, none⟩), .pointer (some ⟨qM, 0, none⟩), .pointer (some ⟨qB, 0, none⟩), .pointer (some ⟨qs, 0, none⟩), .pointer (some ⟨qt, 0, none⟩)]) ∧ w'.cell? ⟨qs, 0, none⟩ = some (.slice (some ⟨yb, yo, none⟩) n cs) ∧ w'.cell? ⟨yb, yo + i, none⟩ = some (.string s)) (by kernel_rfl) ?_ (fun hHeld => ?_)
        · exact ⟨tc, x3, c0⟩
        clear tc x3 c0
        refine wpAnyH_take (i := 0) (oi := ⟨some 38, _, _, _, _, _⟩) (v := ?_) rfl (by kernel_rfl) (by kernel_rfl) (by kernel_rfl) (fun _ _ _ h => h) (Or.inl ⟨by rfl, ?_⟩) (by assumption) ?_
        rotate_left 1
        · intro w hSw
          (try dsimp only at hSw)
          go_simp
          try with_reducible rfl
        try simp only [Act.put, List.setIfInBounds_toArray, List.set_cons_zero, List.set_cons_succ]
        refine wpAnyH_take (i := 1) (oi := ⟨some 39, _, _, _, _, _⟩) (v := ?_) rfl (by kernel_rfl) (by kernel_rfl) (by kernel_rfl) (fun _ _ _ h => h) (Or.inl ⟨by rfl, ?_⟩) (by assumption) ?_
        rotate_left 1
        · intro w hSw
          (try dsimp only at hSw)
          go_simp
          try with_reducible rfl
        try simp only [Act.put, List.setIfInBounds_toArray, List.set_cons_zero, List.set_cons_succ]
        refine wpAnyH_take (i := 2) (oi := ⟨some 40, _, _, _, _, _⟩) (v := ?_) rfl (by kernel_rfl) (by kernel_rfl) (by kernel_rfl) (fun _ _ _ h => h) (Or.inl ⟨by rfl, ?_⟩) (by assumption) ?_
        rotate_left 1
        · intro w hSw
          (try dsimp only at hSw)
          go_simp
          try with_reducible rfl
        try simp only [Act.put, List.setIfInBounds_toArray, List.set_cons_zero, List.set_cons_succ]
        refine wpAnyH_take (i := 3) (oi := ⟨some 41, _, _, _, _, _⟩) (v := ?_) rfl (by kernel_rfl) (by kernel_rfl) (by kernel_rfl) (fun _ _ _ h => h) (Or.inl ⟨by rfl, ?_⟩) (by assumption) ?_
        rotate_left 1
        · intro w hSw
          (try dsimp only at hSw)
          go_simp
          try with_reducible rfl
        try simp only [Act.put, List.setIfInBounds_toArray, List.set_cons_zero, List.set_cons_succ]
        refine wpAnyH_take (i := 5) (oi := ⟨some 43, _, _, _, _, _⟩) (v := ?_) rfl (by kernel_rfl) (by kernel_rfl) (by kernel_rfl) (fun _ _ _ h => h) (Or.inl ⟨by rfl, ?_⟩) (by assumption) ?_
        rotate_left 1
        · intro w hSw
          (try dsimp only at hSw)
          go_simp
          try with_reducible rfl
        try simp only [Act.put, List.setIfInBounds_toArray, List.set_cons_zero, List.set_cons_succ]
        refine wpAnyH_take (i := 6) (oi := ⟨some 44, _, _, _, _, _⟩) (v := ?_) rfl (by kernel_rfl) (by kernel_rfl) (by kernel_rfl) (fun _ _ _ h => h) (Or.inl ⟨by rfl, ?_⟩) (by assumption) ?_
        rotate_left 1
        · intro w hSw
          (try dsimp only at hSw)
          go_simp
          try with_reducible rfl
        try simp only [Act.put, List.setIfInBounds_toArray, List.set_cons_zero, List.set_cons_succ]
        refine wpAnyH_take (i := 7) (oi := ⟨some 45, _, _, _, _, _⟩) (v := ?_) rfl (by kernel_rfl) (by kernel_rfl) (by kernel_rfl) (fun _ _ _ h => h) (Or.inl ⟨by rfl, ?_⟩) (by assumption) ?_
        rotate_left 1
        · intro w hSw
          (try dsimp only at hSw)
          go_simp
          try with_reducible rfl
        try simp only [Act.put, List.setIfInBounds_toArray, List.set_cons_zero, List.set_cons_succ]
        refine wpAnyH_take (i := 8) (oi := ⟨some 46, _, _, _, _, _⟩) (v := ?_) rfl (by kernel_rfl) (by kernel_rfl) (by kernel_rfl) (fun _ _ _ h => h) (Or.inl ⟨by rfl, ?_⟩) (by assumption) ?_
        rotate_left 1
        · intro w hSw
          (try dsimp only at hSw)
          go_simp
          try with_reducible rfl
        try simp only [Act.put, List.setIfInBounds_toArray, List.set_cons_zero, List.set_cons_succ]
        refine wpAnyH_ready (rs := [4, 9]) (by kernel_rfl) (by simp) ?_
        refine AllReadyH.cons rfl (fun K hK => ?_) (AllReadyH.cons rfl (fun K hK => ?_) AllReadyH.nil)
        · go_simp
          go_at_call 78
          refine (HCL.out _ (HKP.out.trans (Kp.of_nx (Nx.refl wr).drew))).mono ?_
          rintro e w2 ⟨v, rfl, hown, hn2⟩
          have HO2 := hide hown
          have HN2 := hide (((Nx.refl wr).drew.trans hn2).alloc (.cells #[.string s] 9))
          have HBZ := hide (show wr.heap.size ≤ wr.drew.heap.size from Nat.le_refl _)
          clear hown
          go_simp
          refine hK.out _ _ (HSW.out _ (Kp.of_nx ((Nx.refl wr).drew.trans hn2))) (fun hHeld => ?_)
          clear hK K
          try simp only [Act.put, List.setIfInBounds_toArray, List.set_cons_zero, List.set_cons_succ]
          refine wpAnyH_ready (rs := [9]) (by kernel_rfl) (by simp) ?_
          refine AllReadyH.cons rfl (fun K hK => ?_) AllReadyH.nil
          go_simp
          refine hK.out _ _ (HSW.out _ (Kp.of_nx HN2.out)) (fun hHeld => ?_)
          clear hK K
          try simp only [Act.put, List.setIfInBounds_toArray, List.set_cons_zero, List.set_cons_succ]
          refine wpAnyH_ready (rs := [10]) (by kernel_rfl) (by simp) ?_
          refine AllReadyH.cons rfl (fun K hK => ?_) AllReadyH.nil
          refine step_app rfl _ _ _ rfl el_SN encS encS_len encS_one (by omega) (by omega) wr.drew.heap.size _ so rfl (HO2.out.alloc _) _ s _ rfl (hnew rfl) rfl (by have := HSL.out; omega) HN2.out.sz ?_
          intro v6 w6 hown6 hg6 _
          have hn6 : Nx wr w6 := HN2.out.grown hg6 (fun j hj => by have h1 := own_blk_lt HO2.out j hj; have h2 := HBZ.out; omega)
          obtain ⟨N6, c6, rfl, hRd6, _⟩ := Rd.of_own encS_len rfl hown6
          have hb6 : base ≤ w6.heap.size := Nat.le_trans hbr hn6.sz
          have HRd6 := hide (hRd6.low (show base ≤ wr.drew.heap.size from Nat.le_trans hbr HBZ.out))
          clear hRd6 hown6
          refine hK.out _ _ (HSW.out _ (Kp.of_nx hn6)) (fun hHeld => ?_)
          clear hK K
          try simp only [Act.put, List.setIfInBounds_toArray]
          refine wpAnyH_ready (rs := [11]) (by kernel_rfl) (by simp) ?_
          refine AllReadyH.cons rfl (fun K hK => ?_) AllReadyH.nil
          go_simp
          go_at_call 88
          have hcall := IHH.out (i + 1) (by omega) (by omega) (so ++ [s]) N6 c6 acc' w6 (hnw.trans hn6) hb6 (HSW.out _ (Kp.of_nx hn6)).1 ⟨(hn6.block qM (lt_of_heap HBE2.out.1)).trans HBE2.out.1, BestR.step HBE2.out hn6⟩ HRd6.out HSB.out (by have := HSL.out; rw [List.length_append, List.length_singleton]; omega)
          rw [show ((i + 1 : Nat) : Int) = (i : Int) + 1 from by omega] at hcall
          rw [show (so ++ [s]).length = so.length + 1 from by rw [List.length_append, List.length_singleton]] at hcall
          refine hcall.mono ?_
          clear hcall
          rintro e w7 ⟨rfl, hb7, hk7⟩
          have HB7 := hide hb7
          have HK7 := hide hk7
          clear hb7 hk7
          go_simp
          refine hK.out _ _ (HSW.out _ ((Kp.of_nx hn6).trans HK7.out)) (fun hHeld => ?_)
          clear hK K
          try simp only [Act.put, List.setIfInBounds_toArray, List.set_cons_zero, List.set_cons_succ]
          refine wpAnyH_done (by kernel_rfl) ?_ _
          go_wp2_with fail
          go_roundw
          case rel => exact ⟨i + 1, _, by omega, by omega, by go_num, HB7.out, HKP.out.trans ((Kp.of_nx hn6).trans HK7.out), by rw [← HQ.out, HD.out]⟩
          case measure => simp [intOf]; omega
        · go_simp
          have HN1 := hide ((Nx.refl wr).alloc (.cells #[.string s] 9)).drew
          refine hK.out _ _ (HSW.out _ (Kp.of_nx HN1.out)) (fun hHeld => ?_)
          clear hK K
          try simp only [Act.put, List.setIfInBounds_toArray, List.set_cons_zero, List.set_cons_succ]
          refine wpAnyH_ready (rs := [4]) (by kernel_rfl) (by simp) ?_
          refine AllReadyH.cons rfl (fun K hK => ?_) AllReadyH.nil
          go_simp
          go_at_call 78
          refine (HCL.out _ (HKP.out.trans (Kp.of_nx HN1.out))).mono ?_
          rintro e w2 ⟨v, rfl, hown, hn2⟩
          have HO2 := hide hown
          have HN2 := hide (HN1.out.trans hn2)
          have HL2 := hide ((hn2.block wr.heap.size (by simp)).trans (hnew_drew rfl))
          have HBZ := hide (show wr.heap.size ≤ (wr.alloc (.cells #[.string s] 9)).drew.heap.size by simp)
          clear hown
          go_simp
          refine hK.out _ _ (HSW.out _ (Kp.of_nx HN2.out)) (fun hHeld => ?_)
          clear hK K
          try simp only [Act.put, List.setIfInBounds_toArray, List.set_cons_zero, List.set_cons_succ]
          refine wpAnyH_ready (rs := [10]) (by kernel_rfl) (by simp) ?_
          refine AllReadyH.cons rfl (fun K hK => ?_) AllReadyH.nil
          refine step_app rfl _ _ _ rfl el_SN encS encS_len encS_one (by omega) (by omega) (wr.alloc (.cells #[.string s] 9)).drew.heap.size _ so rfl HO2.out _ s _ rfl HL2.out rfl (by have := HSL.out; omega) hn2.sz ?_
          intro v6 w6 hown6 hg6 _
          have hn6 : Nx wr w6 := HN2.out.grown hg6 (fun j hj => by have h1 := own_blk_lt HO2.out j hj; have h2 := HBZ.out; omega)
          obtain ⟨N6, c6, rfl, hRd6, _⟩ := Rd.of_own encS_len rfl hown6
          have hb6 : base ≤ w6.heap.size := Nat.le_trans hbr hn6.sz
          have HRd6 := hide (hRd6.low (show base ≤ (wr.alloc (.cells #[.string s] 9)).drew.heap.size from Nat.le_trans hbr HBZ.out))
          clear hRd6 hown6
          refine hK.out _ _ (HSW.out _ (Kp.of_nx hn6)) (fun hHeld => ?_)
          clear hK K
          try simp only [Act.put, List.setIfInBounds_toArray]
          refine wpAnyH_ready (rs := [11]) (by kernel_rfl) (by simp) ?_
          refine AllReadyH.cons rfl (fun K hK => ?_) AllReadyH.nil
          go_simp
          go_at_call 88
          have hcall := IHH.out (i + 1) (by omega) (by omega) (so ++ [s]) N6 c6 acc' w6 (hnw.trans hn6) hb6 (HSW.out _ (Kp.of_nx hn6)).1 ⟨(hn6.block qM (lt_of_heap HBE2.out.1)).trans HBE2.out.1, BestR.step HBE2.out hn6⟩ HRd6.out HSB.out (by have := HSL.out; rw [List.length_append, List.length_singleton]; omega)
          rw [show ((i + 1 : Nat) : Int) = (i : Int) + 1 from by omega] at hcall
          rw [show (so ++ [s]).length = so.length + 1 from by rw [List.length_append, List.length_singleton]] at hcall
          refine hcall.mono ?_
          clear hcall
          rintro e w7 ⟨rfl, hb7, hk7⟩
          have HB7 := hide hb7
          have HK7 := hide hk7
          clear hb7 hk7
          go_simp
          refine hK.out _ _ (HSW.out _ ((Kp.of_nx hn6).trans HK7.out)) (fun hHeld => ?_)
          clear hK K
          try simp only [Act.put, List.setIfInBounds_toArray, List.set_cons_zero, List.set_cons_succ]
          refine wpAnyH_done (by kernel_rfl) ?_ _
          go_wp2_with fail
          go_roundw
          case rel => exact ⟨i + 1, _, by omega, by omega, by go_num, HB7.out, HKP.out.trans ((Kp.of_nx hn6).trans HK7.out), by rw [← HQ.out, HD.out]⟩
          case measure => simp [intOf]; omega
      · obtain rfl : n = i := by omega
        have hT : acc' = T := by rw [← HQ.out, List.drop_of_length_le (by have := HSN.out; omega)]; rfl
        subst hT
        have x3 := (HBX.out wr hnw).2.2.2.2
        go_wp2_with fail
        go_end0
        exact ⟨rfl, HBE2.out, HKP.out⟩
end
end Go.Proofs.YtmpnilliichpfaaGreatDoor
/- The best choice of all: the reference. -/
namespace Go.Proofs.YtmpnilliichpfaaGreatDoor
open Go.RowKit

/-- The best of all choices. -/
def chooseR (ns : List Node) (rs : List Arc) (bs : List Ban) (sites : List ByteArray) (many : Int) (ws : List Wgt) (ad wi : Int) : List ByteArray × Int := tryG (fun so => covS (reachB ns rs bs ad wi) so ws) many sites [] ([], -1)
set_option maxRecDepth 100000 in
set_option maxHeartbeats 4000000 in
theorem w_ChooseOf (lo : Nat) (A B C : Option Addr) (nn ca cb cc : Nat) (ns : List Node) (rs : List Arc) (bs : List Ban) (lo2 : Nat) (S : Option Addr) (cs : Nat) (sites : List ByteArray) (many : Int) (lo3 : Nat) (E : Option Addr) (ce : Nat) (ws : List Wgt) (ad wi : Int) (w : World)
    (hV : ValR w lo A B C nn ca cb cc ns rs bs) (hD : Rd w lo2 S 1 encS sites) (hl : sites.length ≤ 1000) (hls : ∀ s ∈ sites, 0 ≤ nodeI ns s) (hE : Rd w lo3 E 2 encW ws) (hw : ws.length ≤ 500) (hwb : ∀ x ∈ ws, 0 ≤ nodeI ns x.node ∧ 0 ≤ x.many ∧ x.many ≤ 1000000000) (ha : 0 ≤ ad ∧ ad ≤ 345686399999) :
    Calls Tryz.prog 29 #[.agg #[.slice A nn ca, .slice B rs.length cb, .slice C bs.length cc], .slice S sites.length cs, .int .i64 many, .slice E ws.length ce, .int .i64 ad, .int .i64 wi] w fun e w' => ∃ (Z : Option Addr) (cz : Nat), e = .returned (.tuple #[.slice Z (chooseR ns rs bs sites many ws ad wi).1.length cz, .int .i64 (chooseR ns rs bs sites many ws ad wi).2]) ∧ Rd w' 0 Z 1 encS (chooseR ns rs bs sites many ws ad wi).1 ∧ (chooseR ns rs bs sites many ws ad wi).1.length ≤ cz ∧ Nx w w' := by
  obtain ⟨w0, hw0⟩ : ∃ w0, w0 = (((((w.alloc (.cells #[.slice A nn ca, .slice B rs.length cb, .slice C bs.length cc] 30)).alloc (.cells #[.slice S sites.length cs] 32)).alloc (.cells #[.int .i64 many] 3)).alloc (.cells #[.slice E ws.length ce] 34)).alloc (.cells #[.int .i64 ad] 3)).alloc (.cells #[.int .i64 wi] 3) := ⟨_, rfl⟩
  have hn0 : Nx w w0 := hw0 ▸ ((((((Nx.refl w).alloc _).alloc _).alloc _).alloc _).alloc _).alloc _
  have hsz : w0.heap.size = w.heap.size + 6 := by rw [hw0]; simp
  have b0 : w0.cell? ⟨w.heap.size, 0, none⟩ = some (.slice A nn ca) := by rw [hw0]; go_simp
  have b1 : w0.cell? ⟨w.heap.size, 1, none⟩ = some (.slice B rs.length cb) := by rw [hw0]; go_simp
  have b2 : w0.cell? ⟨w.heap.size, 2, none⟩ = some (.slice C bs.length cc) := by rw [hw0]; go_simp
  have b3 : w0.cell? ⟨w.heap.size + 1, 0, none⟩ = some (.slice S sites.length cs) := by rw [hw0]; go_simp
  have b4 : w0.cell? ⟨w.heap.size + 1 + 1, 0, none⟩ = some (.int .i64 many) := by rw [hw0]; go_simp
  have b5 : w0.cell? ⟨w.heap.size + 1 + 1 + 1, 0, none⟩ = some (.slice E ws.length ce) := by rw [hw0]; go_simp
  have b6 : w0.cell? ⟨w.heap.size + 1 + 1 + 1 + 1, 0, none⟩ = some (.int .i64 ad) := by rw [hw0]; go_simp
  have b7 : w0.cell? ⟨w.heap.size + 1 + 1 + 1 + 1 + 1, 0, none⟩ = some (.int .i64 wi) := by rw [hw0]; go_simp
  have HBX := hide (fun W (h : Nx w0 W) => (⟨⟨nx_cell h (by omega) b4, nx_cell h (by omega) b0, nx_cell h (by omega) b1, nx_cell h (by omega) b2⟩, nx_cell h (by omega) b5, nx_cell h (by omega) b6, nx_cell h (by omega) b7, nx_cell h (by omega) b3⟩ : (W.cell? ⟨w.heap.size + 1 + 1, 0, none⟩ = some (.int .i64 many) ∧ W.cell? ⟨w.heap.size, 0, none⟩ = some (.slice A nn ca) ∧ W.cell? ⟨w.heap.size, 1, none⟩ = some (.slice B rs.length cb) ∧ W.cell? ⟨w.heap.size, 2, none⟩ = some (.slice C bs.length cc)) ∧ (W.cell? ⟨w.heap.size + 1 + 1 + 1, 0, none⟩ = some (.slice E ws.length ce) ∧ W.cell? ⟨w.heap.size + 1 + 1 + 1 + 1, 0, none⟩ = some (.int .i64 ad) ∧ W.cell? ⟨w.heap.size + 1 + 1 + 1 + 1 + 1, 0, none⟩ = some (.int .i64 wi) ∧ W.cell? ⟨w.heap.size + 1, 0, none⟩ = some (.slice S sites.length cs))))
  have HCO := hide (fun W N c so (h : Nx w0 W) (hN : Rd W (w0.heap.size + 1 + 1 + 1) N 1 encS so) (hs : ∀ s ∈ so, s ∈ sites) (hsl : so.length ≤ sites.length) => w_CoveredOf lo A B C nn ca cb cc ns rs bs (w0.heap.size + 1 + 1 + 1) N c so lo3 E ce ws ad wi W (hV.nx (hn0.trans h)) hN (by omega) (fun s hx => hls s (hs s hx)) (hE.nx (hn0.trans h)) hw hwb ha)
  have HSI := hide ((hD.nx hn0).low (Nat.zero_le lo2))
  have HW0 := hide hw0
  have HN0 := hide hn0
  have HR := hide (show chooseR ns rs bs sites many ws ad wi = tryG (fun so => covS (reachB ns rs bs ad wi) so ws) many (sites.drop 0) [] ([], -1) from rfl)
  have hwsz : w.heap.size + 6 ≤ w0.heap.size := by omega
  clear hV hD hls hE hwb ha hw0 hn0 b0 b1 b2 b3 b4 b5 b6 b7
  obtain ⟨cov, hcov⟩ : ∃ cov : List ByteArray → Int, cov = fun so => covS (reachB ns rs bs ad wi) so ws := ⟨_, rfl⟩
  rw [← hcov] at HR
  have HCO := hide (fun W N c so h hN hs hsl => (show Calls Tryz.prog 28 #[.agg #[.slice A nn ca, .slice B rs.length cb, .slice C bs.length cc], .slice N so.length c, .slice E ws.length ce, .int .i64 ad, .int .i64 wi] W fun e w' => e = .returned (.int .i64 (cov so)) ∧ Nx W w' by rw [hcov]; exact HCO.out W N c so h hN hs hsl))
  clear hcov
  generalize chooseR ns rs bs sites many ws ad wi = R at *
  generalize rs.length = nr at *
  generalize bs.length = nb at *
  generalize ws.length = m2 at *
  generalize hn : sites.length = n at *
  have HT := hide (fun (w1 : World) h1 h2 h3 h4 => (show Calls Tryz.prog 88 #[.int .i64 0, .slice none 0 0, .pointer (some ⟨w.heap.size + 1 + 1, 0, none⟩), .pointer (some ⟨w.heap.size, 0, none⟩), .pointer (some ⟨w.heap.size + 1 + 1 + 1, 0, none⟩), .pointer (some ⟨w.heap.size + 1 + 1 + 1 + 1, 0, none⟩), .pointer (some ⟨w.heap.size + 1 + 1 + 1 + 1 + 1, 0, none⟩), .pointer (some ⟨w0.heap.size + 1, 0, none⟩), .pointer (some ⟨w0.heap.size, 0, none⟩), .pointer (some ⟨w.heap.size + 1, 0, none⟩), .pointer (some ⟨w0.heap.size + 1 + 1, 0, none⟩)] w1 fun e w' => e = .returned (.tuple #[]) ∧ BestR w' (w0.heap.size + 1 + 1 + 1) (w0.heap.size + 1) w0.heap.size (tryG cov many (sites.drop 0) [] ([], -1)) ∧ Kp (w0.heap.size + 1) w0.heap.size w1 w' from w_tryO (w0 := w0) (cov := cov) (many := many) HBX HCO HSI (hide hn) hl (by omega) (by omega) (by omega) (by omega) (by omega) n 0 [] none 0 ([], -1) w1 (by omega) (Nat.zero_le _) h1 h2 h3 h4 Rd.nil (fun s hs => absurd hs (by simp)) (Nat.le_refl _)))
  rw [← HR.out] at HT
  clear HR HCO hn
  go_enter Tryz.func29, Tryz.ntmps29
  go_upto_region 1 with fail
  rw [← HW0.out]
  clear HW0
  have HSZ := hide hsz
  clear hsz hwsz
  go_upto_region 5 with fail
  obtain ⟨w1, hw1⟩ : ∃ w1, w1 = ((w0.alloc (.cells #[.slice none 0 0] 32)).alloc (.cells #[.int .i64 (-1)] 3)).alloc (.cells #[.func (.func 88) #[] #[.pointer (some ⟨w.heap.size + 1 + 1, 0, none⟩), .pointer (some ⟨w.heap.size, 0, none⟩), .pointer (some ⟨w.heap.size + 1 + 1 + 1, 0, none⟩), .pointer (some ⟨w.heap.size + 1 + 1 + 1 + 1, 0, none⟩), .pointer (some ⟨w.heap.size + 1 + 1 + 1 + 1 + 1, 0, none⟩), .pointer (some ⟨w0.heap.size + 1, 0, none⟩), .pointer (some ⟨w0.heap.size, 0, none⟩), .pointer (some ⟨w.heap.size + 1, 0, none⟩), .pointer (some ⟨w0.heap.size + 1 + 1, 0, none⟩)]] 142) := ⟨_, rfl⟩
  have hn1 : Nx w0 w1 := hw1 ▸ (((Nx.refl w0).alloc _).alloc _).alloc _
  have hs1 : w1.heap.size = w0.heap.size + 3 := by rw [hw1]; simp
  have d0 : w1.cell? ⟨w0.heap.size + 1 + 1, 0, none⟩ = some (.func (.func 88) #[] #[.pointer (some ⟨w.heap.size + 1 + 1, 0, none⟩), .pointer (some ⟨w.heap.size, 0, none⟩), .pointer (some ⟨w.heap.size + 1 + 1 + 1, 0, none⟩), .pointer (some ⟨w.heap.size + 1 + 1 + 1 + 1, 0, none⟩), .pointer (some ⟨w.heap.size + 1 + 1 + 1 + 1 + 1, 0, none⟩), .pointer (some ⟨w0.heap.size + 1, 0, none⟩), .pointer (some ⟨w0.heap.size, 0, none⟩), .pointer (some ⟨w.heap.size + 1, 0, none⟩), .pointer (some ⟨w0.heap.size + 1 + 1, 0, none⟩)]) := by rw [hw1]; go_simp
  have d1 : w1.heap[w0.heap.size + 1]? = some (.cells #[.int .i64 (-1)] 3 (0, 0)) := by
    rw [hw1]
    exact (((Nx.refl _).alloc _).block (w0.heap.size + 1) (by simp)).trans (hnew (by simp))
  have d2 : w1.heap[w0.heap.size]? = some (.cells #[.slice none 0 0] 32 (0, 0)) := by
    rw [hw1]
    exact ((((Nx.refl _).alloc _).alloc _).block w0.heap.size (by simp)).trans (hnew rfl)
  have HC := hide (HT.out w1 hn1 (by omega) d0 ⟨d1, none, 0, d2, Rd.nil, Nat.le_refl _⟩)
  rw [← hw1]
  have HN1 := hide hn1
  clear hw1 hn1 d1 d2 HT hs1
  go_wp2_with (go_at_call 88; refine HC.out.mono ?_; rintro e w2 ⟨rfl, hb2, hk2⟩)
  obtain ⟨hM2, Z, cz, hB2, hR2, hcz⟩ := hb2
  have y0 : w2.cell? ⟨w0.heap.size, 0, none⟩ = some (.slice Z R.1.length cz) := (cell_of_row w2 _ 0 _ _ _ hB2).trans rfl
  have y1 : w2.cell? ⟨w0.heap.size + 1, 0, none⟩ = some (.int .i64 R.2) := (cell_of_row w2 _ 0 _ _ _ hM2).trans rfl
  have HEND := hide (show Nx w w2 from HN0.out.trans (hk2.nx HN1.out (Nat.le_succ _) (Nat.le_refl _)))
  have HRZ := hide (hR2.low (Nat.zero_le _))
  clear hM2 hB2 hR2 hk2 d0
  go_quiet (fail)
  go_wp2_with fail
  exact bodyPost_ret (v := .tuple #[.slice Z R.1.length cz, .int .i64 R.2]) (by simp [results, Tryz.results29, go_sem]) rfl ⟨Z, cz, rfl, HRZ.out.nx ((Nx.refl w2).drewN _), hcz, HEND.out.drewN _⟩
end Go.Proofs.YtmpnilliichpfaaGreatDoor
