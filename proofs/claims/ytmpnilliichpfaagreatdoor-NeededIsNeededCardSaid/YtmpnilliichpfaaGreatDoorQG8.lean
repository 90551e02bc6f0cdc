/- A ban: the program's search. -/
import Derived.Test.YtmpnilliichpfaaGreatDoorQG6
import Derived.Test.YtmpnilliichpfaaGreatDoorQG3
import Derived.Deep.RegionHeld3
import Derived.Deep.DeepCutAuto
import Derived.Test.YtmpnilliichpfaaGreatDoorQCheckR
import Derived.Test.YtmpnilliichpfaaGreatDoorQG0
import Derived.Test.YtmpnilliichpfaaGreatDoorQG1
import Derived.Sort.Grow
import Derived.StillTailTactics
import Derived.Test.YtmpnilliichpfaaGreatDoorQShelfT
import Derived.Test.YtmpnilliichpfaaGreatDoorRows
import Derived.Deep.QuietTactic
import Derived.BigQuiet
import Derived.Outline
import Derived.Laws.AppendOwn
import Derived.Shelf.SlSortCmp.InsertionK
import Derived.Test.YtmpnilliichpfaaGreatDoorQShelfS
namespace Go.Proofs.YtmpnilliichpfaaGreatDoor
open Go.RowKit

set_option maxRecDepth 100000 in
set_option maxHeartbeats 2000000 in
theorem w_BsfBan (g : Nat) (f : Ban → Int) (x : Ban) (eg : Enters g) (hcl : ∀ (y : Ban) W, Calls Tryz.prog g #[.agg #[.string y.from_, .string y.to_], .agg #[.string x.from_, .string x.to_]] W fun e w' => e = .returned (.int .i64 (f y)) ∧ Nx W w')
    (lo : Nat) (A : Option Addr) (c : Nat) (l : List Ban) (w : World) (hR : Rd w lo A 2 encBan l) (hl : l.length ≤ 65536)
    (hm : ∀ i j, i ≤ j → j < l.length → f (l.getD j default) < 0 → f (l.getD i default) < 0) :
    Calls Tryz.prog 241 #[.slice A l.length c, .agg #[.string x.from_, .string x.to_], .func (.func g) #[] #[]] w fun e w' => ∃ (r : Nat) (is : Bool), e = .returned (.tuple #[.int .i64 (r : Int), .bool is]) ∧ Found (fun i => f (l.getD i default)) l.length r is ∧ Nx w w' := by
  obtain ⟨wa, hwa⟩ : ∃ wa, wa = w.alloc (.cells #[.string x.from_, .string x.to_] 114) := ⟨_, rfl⟩
  have hna : Nx w wa := hwa ▸ (Nx.refl w).alloc _
  have hgw : w.heap.size < wa.heap.size := by rw [hwa]; simp
  have hx0 : wa.cell? ⟨w.heap.size, 0, none⟩ = some (.string x.from_) := by rw [hwa]; go_simp
  have hx1 : wa.cell? ⟨w.heap.size, 1, none⟩ = some (.string x.to_) := by rw [hwa]; go_simp
  replace hR := hR.nx hna
  generalize hn : l.length = n at *
  have HR := hide hR
  have HN := hide hn
  have HC0 := hide hcl
  have HM := hide hm
  clear hR hn hcl hm
  unfold Enters at eg
  have HG := hide (fun i (hi : i < l.length) => (show l.getD i default = l[i] by rw [List.getD_eq_getElem?_getD, List.getElem?_eq_getElem hi]; rfl))
  go_enter Tryz.func241, Tryz.ntmps241
  go_wp2
  rw [← hwa]
  have HWA := hide hwa
  clear hwa
  generalize w.heap.size = gb at *
  go_loopw [9, 10, 11] (fun vi vj _ wr => ∃ i j : Nat, i ≤ j ∧ j ≤ n ∧ vi = .int .i64 i ∧ vj = .int .i64 j ∧ Nx wa wr ∧ (∀ m, m < i → f (l.getD m default) < 0) ∧ (∀ m, j ≤ m → m < n → 0 ≤ f (l.getD m default))) (fun vi vj _ _ => (intOf vj).toNat - (intOf vi).toNat)
  case atStart => exact ⟨0, n, Nat.zero_le _, Nat.le_refl _, rfl, rfl, Nx.refl _, fun m hm => by omega, fun m h1 h2 => by omega⟩
  case round =>
    obtain ⟨i, j, hij, hj, rfl, rfl, hbw, hlo, hhi⟩ := hrel
    have HLO := hide hlo
    have HHI := hide hhi
    clear hlo hhi
    have b0 := nx_cell hbw hgw hx0
    have b1 := nx_cell hbw hgw hx1
    clear hx0 hx1
    by_cases hlt : i < j
    · obtain ⟨h, hh⟩ : ∃ h, h = (i + j) / 2 := ⟨_, rfl⟩
      have qh : ((i : Int) + (j : Int)) / 2 = (h : Int) := by omega
      have hih : i ≤ h := by omega
      have hhj : h < j := by omega
      have hh' : h < l.length := by have := HN.out; omega
      clear hh
      obtain ⟨b, off, rfl, _, hb, hbr, hc⟩ := HR.out.open_ hbw (by omega)
      have c0 : wr.cell? ⟨b, off + h * 2, none⟩ = some (.string l[h].from_) := hc h hh' 0 _ rfl
      have c1 : wr.cell? ⟨b, off + h * 2 + 1, none⟩ = some (.string l[h].to_) := hc h hh' 1 _ rfl
      clear hc
      have HE := hide (HG.out h hh')
      have HCY := hide (HC0.out l[h])
      generalize l[h] = y at *
      go_upto_region 5 with fail
      have k1 : (h : Int) < (n : Int) := by omega
      have k2 : (0 : Int) ≤ (h : Int) := by omega
      have hgr := Nat.lt_of_lt_of_le hgw hbw.sz
      go_cut [31] (fun v wx => ∃ bb : Bool, v = .bool bb ∧ bb = decide (f y < 0) ∧ Nx wr wx)
      case first =>
        go_region_held3 (fun w' => w'.cell? ⟨gb, 0, none⟩ = some (.string x.from_) ∧ w'.cell? ⟨gb, 1, none⟩ = some (.string x.to_) ∧ w'.cell? ⟨b, off + h * 2, none⟩ = some (.string y.from_) ∧ w'.cell? ⟨b, off + h * 2 + 1, none⟩ = some (.string y.to_))
          (first | (go_split_ands; exact ⟨nx_cell hn2 hgr ‹_›, nx_cell hn2 hgr ‹_›, nx_cell hn2 hbr ‹_›, nx_cell hn2 hbr ‹_›⟩) | go_keep)
          (first | (go_at_fn g; refine (HCY.out _).mono ?_; rintro e w2 ⟨rfl, hn2⟩))
        go_wp2
        go_meet
        exact ⟨_, rfl, rfl, (Nx.refl wr).drew.trans hn2⟩
      case rest =>
        obtain ⟨bb, rfl, hbb, hn2⟩ := hcut
        have HBB := hide hbb
        clear hbb
        rcases Bool.eq_false_or_eq_true bb with rfl | rfl
        · have HNG := hide (of_decide_eq_true HBB.out.symm)
          go_wp2_with fail
          go_roundw
          case rel => exact ⟨h + 1, j, by omega, by omega, by go_num, rfl, hbw.trans hn2, fun m hm => HM.out m h (by omega) (by omega) (by rw [HE.out]; exact HNG.out), HHI.out⟩
          case measure => simp [intOf]; omega
        · have HNG := hide (of_decide_eq_false HBB.out.symm)
          go_wp2_with fail
          go_roundw
          case rel => exact ⟨i, h, by omega, by omega, rfl, rfl, hbw.trans hn2, HLO.out, fun m h1 h2 => by
            refine Int.not_lt.1 fun hc => ?_
            have h3 := HM.out h m h1 h2 hc
            rw [HE.out] at h3
            have := HNG.out
            omega⟩
          case measure => simp [intOf]; omega
    · have hij' : i = j := by omega
      subst hij'
      clear hlt hij
      by_cases hin : i < n
      · have hi' : i < l.length := by have := HN.out; omega
        obtain ⟨b, off, rfl, _, hb, hbr, hc⟩ := HR.out.open_ hbw (by omega)
        have c0 : wr.cell? ⟨b, off + i * 2, none⟩ = some (.string l[i].from_) := hc i hi' 0 _ rfl
        have c1 : wr.cell? ⟨b, off + i * 2 + 1, none⟩ = some (.string l[i].to_) := hc i hi' 1 _ rfl
        clear hc
        have HE := hide (HG.out i hi')
        have HCY := hide (HC0.out l[i])
        generalize l[i] = y at *
        have k1 : (i : Int) < (n : Int) := by omega
        have k2 : (0 : Int) ≤ (i : Int) := by omega
        have hgr := Nat.lt_of_lt_of_le hgw hbw.sz
        have hlt2 : decide ((i : Int) < (n : Int)) = true := decide_eq_true (by omega)
        go_upto_region 8 with fail
        go_region_held3 (fun w' => w'.cell? ⟨gb, 0, none⟩ = some (.string x.from_) ∧ w'.cell? ⟨gb, 1, none⟩ = some (.string x.to_) ∧ w'.cell? ⟨b, off + i * 2, none⟩ = some (.string y.from_) ∧ w'.cell? ⟨b, off + i * 2 + 1, none⟩ = some (.string y.to_))
          (first | (go_split_ands; exact ⟨nx_cell hn2 hgr ‹_›, nx_cell hn2 hgr ‹_›, nx_cell hn2 hbr ‹_›, nx_cell hn2 hbr ‹_›⟩) | go_keep)
          (first | (go_at_fn g; refine (HCY.out _).mono ?_; rintro e w2 ⟨rfl, hn2⟩))
        go_wp2_with fail
        go_ret2
        exact ⟨i, _, rfl, ⟨hj, HLO.out, HHI.out, by show _ = (decide (i < n) && decide (f (l.getD i default) = 0)); rw [HE.out, decide_eq_true hin]; first | rfl | (rw [Bool.true_and]; exact beq_eq_decide _ _) | simp⟩, hna.trans (hbw.trans ((Nx.refl wr).drew.trans hn2))⟩
      · have hlt2 : decide ((i : Int) < (n : Int)) = false := decide_eq_false (by omega)
        go_upto_region 8 with fail
        go_quiet (fail)
        go_wp2_with fail
        go_ret2
        exact ⟨i, _, rfl, ⟨hj, HLO.out, HHI.out, by rw [decide_eq_false hin]; rfl⟩, hna.trans (hbw.drewN _)⟩

end Go.Proofs.YtmpnilliichpfaaGreatDoor
/- Arcs one after the other: the program. -/
namespace Go.Proofs.YtmpnilliichpfaaGreatDoor
open Go.RowKit

/-- Roads in a box, read. -/
structure BoxR (w : World) (g lo : Nat) (A B C : Option Addr) (ca cb cc : Nat) (ns : List Node) (rs : List Arc) (bs : List Ban) : Prop where
  g0 : w.cell? ⟨g, 0, none⟩ = some (.slice A ns.length ca)
  g1 : w.cell? ⟨g, 1, none⟩ = some (.slice B rs.length cb)
  g2 : w.cell? ⟨g, 2, none⟩ = some (.slice C bs.length cc)
  gl : g < w.heap.size
  hN : Rd w lo A 3 encNode ns
  hA : RdArcs w lo B rs
  hB : Rd w lo C 2 encBan bs
  nl : ns.length ≤ 400
  al : rs.length ≤ 400
  bl : bs.length ≤ 400
theorem BoxR.nx {w w' : World} {g lo : Nat} {A B C : Option Addr} {ca cb cc : Nat} {ns : List Node} {rs : List Arc} {bs : List Ban} (h : BoxR w g lo A B C ca cb cc ns rs bs) (hn : Nx w w') : BoxR w' g lo A B C ca cb cc ns rs bs :=
  ⟨nx_cell hn h.gl h.g0, nx_cell hn h.gl h.g1, nx_cell hn h.gl h.g2, Nat.lt_of_lt_of_le h.gl hn.sz, h.hN.nx hn, h.hA.nx hn, h.hB.nx hn, h.nl, h.al, h.bl⟩
theorem roads_ok {ns : List Node} {rs : List Arc} {bs : List Ban} (h : roadsF ns rs bs = 0) : nodesF ns = 0 ∧ chk (arcF ns) none rs = 0 ∧ chk (banF rs) none bs = 0 := by
  unfold roadsF at h
  by_cases h0 : nodesF ns = 0
  · rw [if_pos h0] at h
    by_cases h1 : chk (arcF ns) none rs = 0
    · rw [if_pos h1] at h; exact ⟨h0, h1, h⟩
    · rw [if_neg h1] at h; exact absurd h h1
  · rw [if_neg h0] at h; exact absurd h h0

set_option maxRecDepth 100000 in
set_option maxHeartbeats 2000000 in
theorem w_bannedR {w : World} {g lo : Nat} {A B C : Option Addr} {ca cb cc : Nat} {ns : List Node} {rs : List Arc} {bs : List Ban} (h : BoxR w g lo A B C ca cb cc ns rs bs) (hs : bs.Pairwise fun a b => banC a b < 0) (f t : ByteArray) :
    Calls Tryz.prog 189 #[.pointer (some ⟨g, 0, none⟩), .string f, .string t] w fun e w' => e = .returned (.bool (bannedB bs f t)) ∧ Nx w w' := by
  have hB := w_BsfBan 138 (fun y => banC y ⟨f, t⟩) ⟨f, t⟩ (enters_of Tryz.func138 (by kernel_rfl) rfl) (fun y W => w_byBan y ⟨f, t⟩ W) lo C cc bs w h.hB (by have := h.bl; omega) (fun i j hij hj hn => by
    rcases Nat.lt_or_ge i j with h3 | h3
    · exact banC_trans (banB_at hs h3 hj) hn
    · have : i = j := by omega
      subst this; exact hn)
  have g2 := h.g2
  have hB2 : Calls Tryz.prog 241 #[.slice C bs.length cc, .agg #[.string f, .string t], .func (.func 138) #[] #[]] w fun e w' => ∃ r : Nat, e = .returned (.tuple #[.int .i64 (r : Int), .bool (bannedB bs f t)]) ∧ Nx w w' := by
    refine hB.mono ?_
    rintro e w' ⟨r, is, rfl, hF, hn⟩
    refine ⟨r, ?_, hn⟩
    congr 3
    cases hbb : bannedB bs f t with
    | true =>
      obtain ⟨k, hk, e⟩ := bannedB_iff.1 hbb
      have := (found_at hF k hk (by rw [e]; exact banC_zero.2 rfl) (fun i hi => by have := banB_at hs hi hk; rw [e] at this; exact this)).2
      rw [this]
    | false =>
      have : is = false := found_no hF (fun k hk e => by
        have := bannedB_iff.2 ⟨k, hk, banC_zero.1 e⟩
        rw [hbb] at this; cases this)
      rw [this]
  have HB := hide hB2
  clear hB hB2 hs h
  generalize bs.length = n at *
  generalize bannedB bs f t = z at *
  go_enter Tryz.func189, Tryz.ntmps189
  go_wp2_with (go_at_call 241; refine HB.out.mono ?_; rintro e w2 ⟨r, rfl, hn2⟩)
  go_ret
  exact ⟨rfl, hn2⟩

theorem emptyL (f : ByteArray) : f.toList = [] ↔ f = ByteArray.empty := by
  constructor
  · intro h
    have h2 : (f.toList == ByteArray.empty.toList) = true := by rw [h, Lib.toList_data]; rfl
    rw [eqS_iff] at h2
    exact of_decide_eq_true h2
  · rintro rfl
    rw [Lib.toList_data]; rfl
theorem chain_drop (rs : List Arc) (bs : List Ban) (l : List ByteArray) (fr : ByteArray) (k : Nat) (hk : k < l.length) : chainF rs bs fr (prevOf l k) (l.drop k) = if arcI rs l[k] < 0 then 8 else if fr ≠ ByteArray.empty ∧ (arcAt rs l[k]).from_ ≠ fr then 3 else if prevBan bs (prevOf l k) l[k] then 16 else chainF rs bs (arcAt rs l[k]).to_ (prevOf l (k + 1)) (l.drop (k + 1)) := by
  rw [List.drop_eq_getElem_cons hk, chainF]
  have e : prevOf l (k + 1) = some l[k] := by unfold prevOf; simp [List.getElem?_eq_getElem hk]
  rw [e]
set_option maxRecDepth 100000 in
set_option maxHeartbeats 4000000 in
theorem w_chainFault {w : World} {g lo : Nat} {A B C : Option Addr} {ca cb cc : Nat} {ns : List Node} {rs : List Arc} {bs : List Ban} (h : BoxR w g lo A B C ca cb cc ns rs bs) (hsA : SortA rs) (hsB : bs.Pairwise fun a b => banC a b < 0)
    (fr : ByteArray) (lo2 : Nat) (D : Option Addr) (cd : Nat) (l : List ByteArray) (hR : Rd w lo2 D 1 encS l) (hl : l.length ≤ 1000) :
    Calls Tryz.prog 130 #[.pointer (some ⟨g, 0, none⟩), .string fr, .slice D l.length cd] w fun e w' => e = .returned (.int .i64 (chainF rs bs fr none l)) ∧ Nx w w' := by
  have HAR := hide (fun s W (hx : Nx w W) => w_arcR g lo B cb rs s W (h.nx hx).g1 (h.nx hx).hA.1 (by have := h.al; omega) hsA)
  have HBN := hide (fun f t W (hx : Nx w W) => w_bannedR (h.nx hx) hsB f t)
  have HRA := hide h.hA.1
  have HR := hide hR
  have hg1 := h.g1
  have hgl := h.gl
  have hal := h.al
  clear h hR hsA hsB
  generalize hn : l.length = n at *
  generalize hm : rs.length = m at *
  have HN := hide hn
  have HM := hide hm
  clear hn hm
  obtain ⟨V, hV⟩ : ∃ V, V = chainF rs bs fr none l := ⟨_, rfl⟩
  rw [← hV]
  have HV := hide hV
  clear hV
  have tl : decide ((n : Int) > 2000) = false := decide_eq_false (by omega)
  have tl2 : decide ((2000 : Int) < (n : Int)) = false := decide_eq_false (by omega)
  go_enter Tryz.func130, Tryz.ntmps130
  go_wp2_with fail
  go_loopw [1, 16] (fun vf i wr => ∃ (k : Nat) (f : ByteArray), k ≤ n ∧ vf = .string f ∧ i = .int .i64 k ∧ Nx w wr ∧ V = chainF rs bs f (prevOf l k) (l.drop k)) (fun _ i _ => n - (intOf i).toNat)
  case atStart => exact ⟨0, fr, Nat.zero_le _, rfl, rfl, Nx.refl _, HV.out⟩
  case round =>
    obtain ⟨k, f, hk, rfl, rfl, hbw, hq⟩ := hrel
    have HQ := hide hq
    clear hq
    by_cases hlt : k < n
    · have hlt' : k < l.length := by have := HN.out; omega
      have HD := hide (chain_drop rs bs l f k hlt')
      obtain ⟨b, off, rfl, _, hb, hbr, hc⟩ := HR.out.open_ hbw (by have := HN.out; omega)
      have c0 : wr.cell? ⟨b, off + k, none⟩ = some (.string l[k]) := by have := hc k hlt' 0 _ rfl; simpa using this
      have HPC := hide (fun h0 : 0 < k => (show wr.cell? ⟨b, off + (k - 1), none⟩ = some (.string (l[k - 1]'(by omega))) by have := hc (k - 1) (by omega) 0 _ rfl; simpa using this))
      have HPV := hide (fun h0 : 0 < k => (show prevBan bs (prevOf l k) l[k] = bannedB bs (l[k - 1]'(by omega)) l[k] by rw [prevOf_pos _ k h0 (by omega)]; rfl))
      have HP0 := hide (fun h0 : k = 0 => (show prevBan bs (prevOf l k) l[k] = false by rw [show prevOf l k = none by subst h0; rfl]; rfl))
      clear hc
      generalize l[k] = s at *
      generalize prevBan bs (prevOf l k) s = pb at *
      by_cases hf : arcI rs s < 0
      · have tf : decide (arcI rs s < 0) = true := decide_eq_true hf
        have HG := hide (HD.out.trans (if_pos hf))
        clear hf
        go_wp2_with (go_at_call 101; refine (HAR.out s _ hbw).mono ?_; rintro e w2 ⟨rfl, hn2⟩)
        go_ret
        exact ⟨ret_int (by rw [HQ.out, HG.out]), hbw.trans hn2⟩
      obtain ⟨i, hi, ei⟩ : ∃ i : Nat, i < rs.length ∧ arcI rs s = (i : Int) := by
        rcases findI_bd (fun n : Arc => decide (n.key = s)) rs with h | h
        · exact absurd (show arcI rs s < 0 by unfold arcI; omega) hf
        · exact h
      have tf : decide (arcI rs s < 0) = false := decide_eq_false hf
      have ha : arcAt rs s = rs[i] := by
        unfold arcAt
        rw [ei, List.getD_eq_getElem?_getD, List.getElem?_eq_getElem (show (i : Int).toNat < rs.length from hi)]
        rfl
      have HG := hide (HD.out.trans (if_neg hf))
      rw [ha] at HG
      have HARs := hide (fun W hx => HAR.out s W hx)
      rw [ei] at HARs tf
      clear hf ei HD
      have him : i < m := by have := HM.out; omega
      go_wp2_with fail
      refine (HARs.out _ hbw).mono ?_
      rintro e w2 ⟨rfl, hn2⟩
      have hnx2 := hbw.trans hn2
      have gg1 := nx_cell hnx2 hgl hg1
      obtain ⟨ba, offa, rfl, _, hba, hbar, hca⟩ := HRA.out.open_ hnx2 (by omega)
      have a0 : w2.cell? ⟨ba, offa + i * 5, none⟩ = some (.string rs[i].key) := hca i hi 0 _ rfl
      have a1 : w2.cell? ⟨ba, offa + i * 5 + 1, none⟩ = some (.string rs[i].from_) := hca i hi 1 _ rfl
      have a2 : w2.cell? ⟨ba, offa + i * 5 + 2, none⟩ = some (.string rs[i].to_) := hca i hi 2 _ rfl
      have a3 : w2.cell? ⟨ba, offa + i * 5 + 3, none⟩ = some (.int .i64 rs[i].long) := hca i hi 3 _ rfl
      have a4 : w2.cell? ⟨ba, offa + i * 5 + 4, none⟩ = some (.slice rs[i].ka rs[i].knots.length rs[i].kc) := hca i hi 4 _ rfl
      have HPC2 := hide (fun h0 : 0 < k => nx_cell hn2 hbr (HPC.out h0))
      have hb2 := Nat.lt_of_lt_of_le hbr hn2.sz
      clear hca c0 HPC
      generalize rs[i] = x at *
      generalize x.knots.length = xn at *
      have t0 : decide ((i : Int) < 0) = false := decide_eq_false (by omega)
      go_upto_region 10 with fail
      obtain ⟨wk, hwk⟩ : ∃ wk, wk = w2.alloc (.cells #[.string x.key, .string x.from_, .string x.to_, .int .i64 x.long, .slice x.ka xn x.kc] 63) := ⟨_, rfl⟩
      have hnk : Nx w2 wk := hwk ▸ (Nx.refl w2).alloc _
      have hsk : w2.heap.size < wk.heap.size := by rw [hwk]; simp
      have d1 : wk.cell? ⟨w2.heap.size, 1, none⟩ = some (.string x.from_) := by rw [hwk]; go_simp
      have d2 : wk.cell? ⟨w2.heap.size, 2, none⟩ = some (.string x.to_) := by rw [hwk]; go_simp
      rw [← hwk]
      have HWK := hide hwk
      clear hwk a0 a1 a2 a3 a4
      have hnxk := hnx2.trans hnk
      go_cut [40] (fun v wx => ∃ bb : Bool, v = .bool bb ∧ bb = decide (f ≠ ByteArray.empty ∧ x.from_ ≠ f) ∧ wk = wx)
      case first =>
        by_cases hc1 : f = ByteArray.empty
        · have e1 : f.toList = [] := (emptyL f).2 hc1
          have HC := hide hc1
          clear hc1
          go_wp2_with fail
          go_meet
          exact ⟨_, rfl, by rw [decide_eq_false (fun h => h.1 HC.out)], rfl⟩
        · have e1 : ¬ f.toList = [] := fun h => hc1 ((emptyL f).1 h)
          have HC := hide hc1
          clear hc1
          by_cases hc2 : x.from_ = f
          · have e2 : (x.from_.toList == f.toList) = true := by rw [eqS_iff]; exact decide_eq_true hc2
            have HC2 := hide hc2
            clear hc2
            go_wp2_with fail
            go_meet
            exact ⟨_, rfl, by rw [decide_eq_false (fun h => h.2 HC2.out)], rfl⟩
          · have e2 : (x.from_.toList == f.toList) = false := by rw [eqS_iff]; exact decide_eq_false hc2
            have HC2 := hide hc2
            clear hc2
            go_wp2_with fail
            go_meet
            exact ⟨_, rfl, by rw [decide_eq_true ⟨HC.out, HC2.out⟩]; first | rfl | simp [e1], rfl⟩
      case rest =>
        obtain ⟨bb, rfl, hbb, rfl⟩ := hcut
        have HBB := hide hbb
        clear hbb
        rcases Bool.eq_false_or_eq_true bb with rfl | rfl
        · have HG2 := hide (HG.out.trans (if_pos (of_decide_eq_true HBB.out.symm)))
          go_wp2_with fail
          go_ret
          exact ⟨ret_int (by rw [HQ.out, HG2.out]), hnxk⟩
        · have HG2 := hide (HG.out.trans (if_neg (of_decide_eq_false HBB.out.symm)))
          have HPC3 := hide (fun h0 : 0 < k => nx_cell hnk hb2 (HPC2.out h0))
          clear HG HBB HPC2
          go_upto_region 12 with fail
          go_cut [52] (fun v wx => v = .bool pb ∧ Nx wk wx)
          case first =>
            by_cases hk0 : 0 < k
            · have hp := HPC3.out hk0
              have hpv := HPV.out hk0
              generalize (l[k - 1]'(by omega)) = p0 at *
              have k1 : IntKind.i64.wrap ((k : Int) - 1) = (k : Int) - 1 := IntWalk.i64_in _ (by omega)
              have k2 : (1 : Int) ≤ (k : Int) := by omega
              have k3 : ((k : Int) - 1).toNat = k - 1 := by omega
              have k4 : (k : Int) - 1 < (n : Int) := by omega
              have kp : decide ((k : Int) > 0) = true := decide_eq_true (by omega)
              have kp2 : decide ((0 : Int) < (k : Int)) = true := decide_eq_true (by omega)
              have hB2 := HBN.out p0 s _ hnxk
              rw [← hpv] at hB2
              have HB2 := hide hB2
              clear hB2 hpv
              go_wp2_with (go_at_call 189; refine HB2.out.mono ?_; rintro e w4 ⟨rfl, hn4⟩)
              go_meet
              exact ⟨rfl, hn4⟩
            · have kp : decide ((k : Int) > 0) = false := decide_eq_false (by omega)
              have kp2 : decide ((0 : Int) < (k : Int)) = false := decide_eq_false (by omega)
              have hb0 := HP0.out (by omega)
              go_wp2_with fail
              go_meet
              exact ⟨by rw [hb0], Nx.refl _⟩
          case rest =>
            obtain ⟨rfl, hx⟩ := hcut
            have e2 := nx_cell hx hsk d2
            clear d1 d2
            cases hpb : pb
            · rw [hpb, if_neg (by simp)] at HG2
              go_wp2_with fail
              go_roundw
              case rel => exact ⟨k + 1, x.to_, by omega, rfl, by go_num, hnxk.trans hx, by rw [HQ.out, HG2.out]⟩
              case measure => simp [intOf]; omega
            · rw [hpb, if_pos rfl] at HG2
              go_wp2_with fail
              go_ret
              exact ⟨ret_int (by rw [HQ.out, HG2.out]), hnxk.trans hx⟩
    · go_wp2
      go_ret
      exact ⟨ret_int (by rw [HQ.out, List.drop_of_length_le (by have := HN.out; omega)]; rfl), hbw⟩
end Go.Proofs.YtmpnilliichpfaaGreatDoor
/- Plain: what Fastest and Latest answer; a way that is right. -/
namespace Go.Proofs.YtmpnilliichpfaaGreatDoor

/-- What is wrong with right roads' ends and a moment. -/
def endsF (ns : List Node) (rs : List Arc) (bs : List Ban) (f t : ByteArray) (ad : Int) : Int :=
  if roadsF ns rs bs = 0 then (if nodeI ns f < 0 ∨ nodeI ns t < 0 then 8 else if momB ad then 0 else 1) else roadsF ns rs bs
theorem endsF_ok {ns : List Node} {rs : List Arc} {bs : List Ban} {f t : ByteArray} {ad : Int} (h : endsF ns rs bs f t ad = 0) : roadsF ns rs bs = 0 ∧ 0 ≤ nodeI ns f ∧ 0 ≤ nodeI ns t ∧ momB ad = true := by
  unfold endsF at h
  split at h
  · rename_i h0
    split at h
    · exact absurd h (by decide)
    · split at h
      · rename_i h2
        exact ⟨h0, by omega, by omega, h2⟩
      · exact absurd h (by decide)
  · rename_i h0; exact absurd h h0
structure WayA where
  keys : List ByteArray
  lv : Int
  ar : Int
  is : Bool
  fault : Int
/-- A way that is right. -/
structure WayOk (ns : List Node) (rs : List Arc) (bs : List Ban) (f t : ByteArray) (keys : List ByteArray) (lv ar : Int) : Prop where
  chain : chainF rs bs f none keys = 0
  len : keys.length ≤ 400
  here : (stOf rs f none keys).1 = t
  walk : ∃ ts, walkO rs lv keys = some ts ∧ (lv :: ts).getLastD lv = ar
inductive FastIs (ns : List Node) (rs : List Arc) (bs : List Ban) (f t : ByteArray) (ad : Int) : WayA → Prop
  | bad (h : endsF ns rs bs f t ad ≠ 0) : FastIs ns rs bs f t ad ⟨[], 0, 0, false, endsF ns rs bs f t ad⟩
  | none (h : endsF ns rs bs f t ad = 0) (h1 : gi (searchG (gphOf ns rs bs) (nodeN ns f) ad).first (nodeN ns t) < 0) : FastIs ns rs bs f t ad ⟨[], 0, 0, false, 0⟩
  | way (h : endsF ns rs bs f t ad = 0) (h1 : 0 ≤ gi (searchG (gphOf ns rs bs) (nodeN ns f) ad).first (nodeN ns t)) (l : List Nat)
      (hc : Chain rs.length (searchG (gphOf ns rs bs) (nodeN ns f) ad).prev (gi (searchG (gphOf ns rs bs) (nodeN ns f) ad).last (nodeN ns t)) l) (hl : l.length ≤ rs.length) :
      FastIs ns rs bs f t ad ⟨keysOf rs l.reverse, ad, gi (searchG (gphOf ns rs bs) (nodeN ns f) ad).first (nodeN ns t), true, 0⟩
inductive LateIs (ns : List Node) (rs : List Arc) (bs : List Ban) (f t : ByteArray) (by_ : Int) : WayA → Prop
  | bad (h : endsF ns rs bs f t by_ ≠ 0) : LateIs ns rs bs f t by_ ⟨[], 0, 0, false, endsF ns rs bs f t by_⟩
  | none (h : endsF ns rs bs f t by_ = 0) (h1 : ¬ arrG (gphOf ns rs bs) (nodeN ns f) (nodeN ns t) 0 ≤ by_) : LateIs ns rs bs f t by_ ⟨[], 0, 0, false, 0⟩
  | way (h : endsF ns rs bs f t by_ = 0) (L : Int) (h0 : 0 ≤ L) (hL : LeaveOk (gphOf ns rs bs) (nodeN ns f) (nodeN ns t) by_ L) (l : List Nat)
      (hc : Chain rs.length (searchG (gphOf ns rs bs) (nodeN ns f) L).prev (gi (searchG (gphOf ns rs bs) (nodeN ns f) L).last (nodeN ns t)) l) (hl : l.length ≤ rs.length) :
      LateIs ns rs bs f t by_ ⟨keysOf rs l.reverse, L, gi (searchG (gphOf ns rs bs) (nodeN ns f) L).first (nodeN ns t), true, 0⟩
section
variable {ns : List Node} {rs : List Arc} {bs : List Ban} {f t : ByteArray} {ad : Int}
theorem firstV_lt {g : Gph} {a b : Nat} {at_ : Int} : firstV (searchG g a at_) b = arrG g a b at_ := rfl
/-- There is a way back for every node that is reached, and it is right. -/
theorem way_of (h2 : chk (arcF ns) none rs = 0) (hal : rs.length ≤ 400) (hf : 0 ≤ nodeI ns f) (ht : 0 ≤ nodeI ns t) (h0 : 0 ≤ ad) (hz : 0 ≤ gi (searchG (gphOf ns rs bs) (nodeN ns f) ad).first (nodeN ns t)) :
    ∃ l, Chain rs.length (searchG (gphOf ns rs bs) (nodeN ns f) ad).prev (gi (searchG (gphOf ns rs bs) (nodeN ns f) ad).last (nodeN ns t)) l ∧ l.length ≤ rs.length ∧ WayOk ns rs bs f t (keysOf rs l.reverse) ad (gi (searchG (gphOf ns rs bs) (nodeN ns f) ad).first (nodeN ns t)) := by
  have hg := gph_ok (bs := bs) h2
  have hF := search_found hg h0 (show nodeN ns f < (gphOf ns rs bs).nn from nodeN_lt hf)
  obtain ⟨l, w1, w2, w3, w4⟩ := hF.wayTo hg h0 (b := nodeN ns t) (nodeN_lt ht) hz
  refine ⟨l, w1, w2, ?_⟩
  have hll : (keysOf rs l.reverse).length ≤ 400 := by
    unfold keysOf
    rw [List.length_map, List.length_reverse]
    have : l.length ≤ rs.length := w2
    omega
  rcases w4 with ⟨rfl, e1, e2⟩ | ⟨k, l', rfl, e1, e2⟩
  · refine ⟨rfl, hll, (node_iff hf ht).1 e1, [], rfl, ?_⟩
    rw [e2]; rfl
  · obtain ⟨c1, ts, c2, _, c4, c5⟩ := trail_keys h2 hf e2
    have hk : k < rs.length := w3 k (by simp)
    refine ⟨c1, hll, ?_, ts, c2, c4⟩
    rw [c5 k l' rfl]
    exact (node_iff (arc_right h2 hk).2.1 ht).1 e1
theorem chain_uniq_keys {x y : WayA} (h : FastIs ns rs bs f t ad x) (h' : FastIs ns rs bs f t ad y) : x = y := by
  cases h with
  | bad h =>
    cases h' with
    | bad h' => rfl
    | none h' _ => exact absurd h' h
    | way h' _ => exact absurd h' h
  | none h h1 =>
    cases h' with
    | bad h' => exact absurd h h'
    | none h' _ => rfl
    | way h' h2 => exact absurd h1 (Int.not_lt.2 h2)
  | way h h1 l hc hl =>
    cases h' with
    | bad h' => exact absurd h h'
    | none h' h2 => exact absurd h2 (Int.not_lt.2 h1)
    | way h' h2 l' hc' hl' => rw [hc.uniq hc']
theorem arr_le (h2 : chk (arcF ns) none rs = 0) (hf : 0 ≤ nodeI ns f) (ht : 0 ≤ nodeI ns t) (h0 : 0 ≤ ad) (he : ad < endT) :
    (gi (searchG (gphOf ns rs bs) (nodeN ns f) ad).first (nodeN ns t) < 0 ∧ arrG (gphOf ns rs bs) (nodeN ns f) (nodeN ns t) ad = endT) ∨
    (0 ≤ gi (searchG (gphOf ns rs bs) (nodeN ns f) ad).first (nodeN ns t) ∧ arrG (gphOf ns rs bs) (nodeN ns f) (nodeN ns t) ad = gi (searchG (gphOf ns rs bs) (nodeN ns f) ad).first (nodeN ns t) ∧ gi (searchG (gphOf ns rs bs) (nodeN ns f) ad).first (nodeN ns t) < endT) := by
  have hg := gph_ok (bs := bs) h2
  have hF := search_found hg h0 (show nodeN ns f < (gphOf ns rs bs).nn from nodeN_lt hf)
  by_cases hz : gi (searchG (gphOf ns rs bs) (nodeN ns f) ad).first (nodeN ns t) < 0
  · exact .inl ⟨hz, if_pos hz⟩
  · refine .inr ⟨by omega, if_neg hz, ?_⟩
    by_cases e : nodeN ns t = nodeN ns f
    · rw [e, hF.f0.1]; exact he
    · rcases hF.f1 (nodeN ns t) (nodeN_lt ht) e with ⟨h1, _⟩ | ⟨k, h1, h2, h3, h4, h5, h6⟩
      · omega
      · rw [h5]
        exact ((hF.rch k h1 h2).ge hg h0).2
/-- What the law asks of a fastest way. -/
theorem FastIs.law {x : WayA} (h : FastIs ns rs bs f t ad x) (hal : rs.length ≤ 400) :
    x.fault = endsF ns rs bs f t ad ∧ (endsF ns rs bs f t ad ≠ 0 → x.is = false ∧ x.keys = []) ∧
    (endsF ns rs bs f t ad = 0 → x.is = decide (arrG (gphOf ns rs bs) (nodeN ns f) (nodeN ns t) ad < endT) ∧ (x.is = true → x.lv = ad ∧ x.ar = arrG (gphOf ns rs bs) (nodeN ns f) (nodeN ns t) ad ∧ WayOk ns rs bs f t x.keys ad x.ar)) := by
  cases h with
  | bad h => exact ⟨rfl, fun _ => ⟨rfl, rfl⟩, fun h' => absurd h' h⟩
  | none h h1 =>
    refine ⟨h.symm, fun h' => absurd h h', fun _ => ⟨?_, fun e => by cases e⟩⟩
    obtain ⟨o1, o2, o3, o4⟩ := endsF_ok h
    have hb := momB_true.1 o4
    rcases arr_le (bs := bs) (roads_ok o1).2.1 o2 o3 hb.1 (by unfold endT; omega) with ⟨_, e⟩ | ⟨e, _⟩
    · rw [e]; exact (decide_eq_false (by omega)).symm
    · omega
  | way h h1 l hc hl =>
    refine ⟨h.symm, fun h' => absurd h h', fun _ => ?_⟩
    obtain ⟨o1, o2, o3, o4⟩ := endsF_ok h
    have hb := momB_true.1 o4
    obtain ⟨l', w1, w2, w3⟩ := way_of (bs := bs) (roads_ok o1).2.1 hal o2 o3 hb.1 h1
    have el := hc.uniq w1
    subst el
    rcases arr_le (bs := bs) (roads_ok o1).2.1 o2 o3 hb.1 (by unfold endT; omega) with ⟨e, _⟩ | ⟨_, e, e2⟩
    · omega
    · exact ⟨(decide_eq_true (by rw [e]; exact e2)).symm, fun _ => ⟨rfl, e.symm, w3⟩⟩
theorem LateIs.law {x : WayA} (h : LateIs ns rs bs f t ad x) (hal : rs.length ≤ 400) (L : Int) (hL : endsF ns rs bs f t ad = 0 → LeaveOk (gphOf ns rs bs) (nodeN ns f) (nodeN ns t) ad L) :
    x.fault = endsF ns rs bs f t ad ∧ (endsF ns rs bs f t ad ≠ 0 → x.is = false ∧ x.keys = []) ∧
    (endsF ns rs bs f t ad = 0 → x.is = decide (0 ≤ L) ∧ (x.is = true → x.lv = L ∧ 0 ≤ L ∧ L ≤ ad ∧ x.ar = arrG (gphOf ns rs bs) (nodeN ns f) (nodeN ns t) L ∧ WayOk ns rs bs f t x.keys L x.ar)) := by
  cases h with
  | bad h => exact ⟨rfl, fun _ => ⟨rfl, rfl⟩, fun h' => absurd h' h⟩
  | none h h1 =>
    refine ⟨h.symm, fun h' => absurd h h', fun _ => ⟨?_, fun e => by cases e⟩⟩
    obtain ⟨o1, o2, o3, o4⟩ := endsF_ok h
    have hb := momB_true.1 o4
    have hK := hL h
    refine (decide_eq_false fun h0 => h1 ?_).symm
    have h3 := hK.high
    exact Int.le_trans (arrG_mono (gph_ok (bs := bs) (roads_ok o1).2.1) (Int.le_refl 0) h0 (by unfold endT; omega) (nodeN_lt o2) (nodeN_lt o3)) (hK.ok h0)
  | way h L' h0 hL' l hc hl =>
    refine ⟨h.symm, fun h' => absurd h h', fun _ => ?_⟩
    obtain ⟨o1, o2, o3, o4⟩ := endsF_ok h
    have hb := momB_true.1 o4
    have hK := hL h
    have hg := gph_ok (bs := bs) (roads_ok o1).2.1
    have hbb : ad < endT := by unfold endT; omega
    have e : L' = L := hL'.uniq hg (nodeN_lt o2) (nodeN_lt o3) hbb hK
    subst e
    have h3 := hK.high
    rcases arr_le (bs := bs) (roads_ok o1).2.1 o2 o3 h0 (show L' < endT by omega) with ⟨_, e⟩ | ⟨e1, e, e2⟩
    · have := hK.ok h0; omega
    · obtain ⟨l', w1, w2, w3⟩ := way_of (bs := bs) (roads_ok o1).2.1 hal o2 o3 h0 e1
      have el := hc.uniq w1
      subst el
      exact ⟨(decide_eq_true h0).symm, fun _ => ⟨rfl, h0, h3, e.symm, w3⟩⟩
end
end Go.Proofs.YtmpnilliichpfaaGreatDoor
/- Worlds that only draw and lay blocks. Of no program. -/
namespace Go.Proofs.YtmpnilliichpfaaGreatDoor
open Go.RowKit Go.Sort

/-- Draws, and new blocks that stay as they were laid. -/
def Lays (w w' : World) : Prop := ∃ q os, w' = grow (w.drewN q) os
theorem Lays.refl (w : World) : Lays w w := ⟨0, #[], by simp [grow]; rfl⟩
theorem Lays.trans {a b c : World} (h : Lays a b) (k : Lays b c) : Lays a c := by
  obtain ⟨q, os, rfl⟩ := h
  obtain ⟨q', os', rfl⟩ := k
  refine ⟨q + q', os ++ os', ?_⟩
  have e : (grow (a.drewN q) os).drewN q' = grow ((a.drewN q).drewN q') os := rfl
  rw [e, grow_grow, World.drewN_drewN]
theorem Lays.drew {a w : World} (h : Lays a w) : Lays a w.drew := h.trans ⟨1, #[], by simp [grow]; rfl⟩
theorem Lays.drewN {a w : World} (h : Lays a w) (n : Nat) : Lays a (w.drewN n) := h.trans ⟨n, #[], by simp [grow]; rfl⟩
theorem Lays.alloc {a w : World} (h : Lays a w) (o : Obj) : Lays a (w.alloc o) := h.trans ⟨0, #[o], by rw [alloc_eq_grow]; rfl⟩
theorem Lays.nx {a w : World} (h : Lays a w) : Nx a w := by
  obtain ⟨q, os, rfl⟩ := h
  refine ⟨rfl, rfl, rfl, by simp [grow], fun k hk => ?_⟩
  show ((a.heap ++ os)[k]?) = _
  rw [Array.getElem?_append_left (by exact hk)]
theorem Lays.cell {a w : World} (h : Lays a w) {p : Addr} {v : Value} (hc : a.cell? p = some v) : w.cell? p = some v :=
  (Below.cell h.nx (World.block_lt_of_cell? a _ hc)).trans hc

theorem region_still_tail {P : Program} {id : Nat} {Q : Exit → Act → World → Prop} {a : Act} {w : World} {l : List Oper} (n : Nat) (hm : P.follows .mixedOrders = true) (hB : Region.lexTailB .any l.toArray n = true)
    (h : wpStill P l.toArray w.drew (fun a' => wpList P l.toArray Q (l.drop n) a' w.drew) (l.take n) a) : (Code.region id l.toArray true).wp P Q a w := wp_region_still_tail n hm hB h

end Go.Proofs.YtmpnilliichpfaaGreatDoor
/- strconv.Itoa for every number; the library's table stays. -/
namespace Go.Proofs.YtmpnilliichpfaaGreatDoor
open Go.RowKit

abbrev PowTab (w : World) : Prop := Lib.TabIs Tryz.prog w "internal/strconv.uint64pow10" .u64 Lib.pow10Tab
theorem tab_nx {P : Program} {w w' : World} {name : String} {k : IntKind} {zs : List Int} (h : Lib.TabIs P w name k zs) (hn : Nx w w') : Lib.TabIs P w' name k zs := by
  unfold Lib.TabIs World.var? at h ⊢
  cases hg : P.globalNamed name with
  | none => rw [hg] at h; simp at h
  | some g =>
    rw [hg] at h
    simp only [Option.bind_some] at h ⊢
    cases hb : w.heap[g]? with
    | none => rw [hb] at h; simp at h
    | some o =>
      rw [hn.block g (Array.getElem?_eq_some_iff.1 hb).1]
      exact h
def itoaS (n : Int) : ByteArray := ⟨(Lib.itoa n).toArray⟩
theorem w_ItoaN (n : Int) (h0 : -9223372036854775808 ≤ n) (h1 : n ≤ 9223372036854775807) (w : World) (ht : PowTab w) : Calls Tryz.prog 117 #[.int .i64 n] w fun e w' => e = .returned (.string (itoaS n)) ∧ Nx w w' := by
  refine (Any.strconv_Itoa Tryz.itoaM n h0 h1 w ht).mono ?_
  rintro e w' ⟨rfl, k, os, rfl⟩
  exact ⟨rfl, Lays.nx ⟨k, os, rfl⟩⟩
end Go.Proofs.YtmpnilliichpfaaGreatDoor
/- Plain: the nodes that are reached in a time. -/
namespace Go.Proofs.YtmpnilliichpfaaGreatDoor

structure PairS where
  name : ByteArray
  val : ByteArray
instance : Inhabited PairS := ⟨⟨default, default⟩⟩
def encPair (p : PairS) : List Value := [.string p.name, .string p.val]
theorem encPair_len (p : PairS) : (encPair p).length = 2 := rfl
theorem encPair_one (x : PairS) : ∀ v ∈ encPair x, v.oneCell' = true := by
  intro v hv; simp [encPair] at hv; rcases hv with rfl | rfl <;> rfl
/-- The nodes that are reached: when one is at each of them, from k on. -/
def rOf (v : Nat → Int) (ad wi : Int) : List Node → Nat → List PairS
  | [], _ => []
  | n :: l, k => if v k < endT ∧ v k - ad ≤ wi then ⟨n.key, itoaS (v k - ad)⟩ :: rOf v ad wi l (k + 1) else rOf v ad wi l (k + 1)
theorem rOf_drop (v : Nat → Int) (ad wi : Int) (ns : List Node) (k : Nat) (hk : k < ns.length) : rOf v ad wi (ns.drop k) k = if v k < endT ∧ v k - ad ≤ wi then ⟨ns[k].key, itoaS (v k - ad)⟩ :: rOf v ad wi (ns.drop (k + 1)) (k + 1) else rOf v ad wi (ns.drop (k + 1)) (k + 1) := by
  rw [List.drop_eq_getElem_cons hk, rOf]
theorem rOf_len (v : Nat → Int) (ad wi : Int) : ∀ (l : List Node) (k : Nat), (rOf v ad wi l k).length ≤ l.length
  | [], _ => Nat.le_refl _
  | n :: l, k => by
    unfold rOf
    have := rOf_len v ad wi l (k + 1)
    split
    · rw [List.length_cons, List.length_cons]; omega
    · rw [List.length_cons]; omega
/-- When one is at a node, found or not. -/
theorem arr_ix {ns : List Node} {rs : List Arc} {bs : List Ban} {i k : Nat} {ad : Int} (h2 : chk (arcF ns) none rs = 0) (hi : i < ns.length) (hk : k < ns.length) (h0 : 0 ≤ ad) (he : ad < endT) :
    (gi (searchG (gphOf ns rs bs) i ad).first k < 0 ∧ arrG (gphOf ns rs bs) i k ad = endT) ∨
    (0 ≤ gi (searchG (gphOf ns rs bs) i ad).first k ∧ arrG (gphOf ns rs bs) i k ad = gi (searchG (gphOf ns rs bs) i ad).first k ∧ gi (searchG (gphOf ns rs bs) i ad).first k < endT ∧ ad ≤ gi (searchG (gphOf ns rs bs) i ad).first k) := by
  have hg := gph_ok (bs := bs) h2
  have hF := search_found hg h0 (show i < (gphOf ns rs bs).nn from hi)
  by_cases hz : gi (searchG (gphOf ns rs bs) i ad).first k < 0
  · exact .inl ⟨hz, if_pos hz⟩
  · refine .inr ⟨by omega, if_neg hz, ?_⟩
    by_cases e : k = i
    · rw [e, hF.f0.1]; omega
    · rcases hF.f1 k hk e with ⟨h1, _⟩ | ⟨j, h1, h2, h3, h4, h5, h6⟩
      · omega
      · rw [h5]
        have := (hF.rch j h1 h2).ge hg h0
        omega
/-- The program's test is the reference's. -/
theorem reach_test {z a ad wi : Int} (h : (z < 0 ∧ a = endT) ∨ (0 ≤ z ∧ a = z ∧ z < endT ∧ ad ≤ z)) : (0 ≤ z ∧ z - ad ≤ wi) ↔ (a < endT ∧ a - ad ≤ wi) := by
  rcases h with ⟨h1, h2⟩ | ⟨h1, h2, h3, _⟩ <;> omega
/-- What is wrong with what Reach is asked. -/
def reachF (ns : List Node) (rs : List Arc) (bs : List Ban) (f : ByteArray) (ad wi : Int) : Int := if endsF ns rs bs f f ad = 0 then (if outB wi 0 86400000 then 1 else 0) else endsF ns rs bs f f ad
def reachL (ns : List Node) (rs : List Arc) (bs : List Ban) (f : ByteArray) (ad wi : Int) : List PairS := if reachF ns rs bs f ad wi = 0 then rOf (fun k => arrG (gphOf ns rs bs) (nodeN ns f) k ad) ad wi ns 0 else []
end Go.Proofs.YtmpnilliichpfaaGreatDoor
/- Where a node or an arc is: the reference's search. -/
namespace Go.Proofs.YtmpnilliichpfaaGreatDoor
open Go.RowKit

set_option maxRecDepth 100000 in
set_option maxHeartbeats 1000000 in
theorem w_IndexFN (g : Nat) (p : Node → Bool) (cap : Value) (eg : Enters g) (lo : Nat) (A : Option Addr) (c : Nat) (l : List Node) (w : World) (hcl : ∀ (y : Node) W, Nx w W → Calls Tryz.prog g #[.agg #[.string y.key, .int .i64 y.x, .int .i64 y.y], cap] W fun e w' => e = .returned (.bool (p y)) ∧ Nx W w')
    (hR : Rd w lo A 3 encNode l) (hl : l.length ≤ 65536) :
    Calls Tryz.prog 147 #[.slice A l.length c, .func (.func g) #[] #[cap]] w fun e w' => e = .returned (.int .i64 (findI p l)) ∧ Nx w w' := by
  generalize hn : l.length = n at *
  have HR := hide hR
  have HN := hide hn
  have HC0 := hide hcl
  clear hR hn hcl
  unfold Enters at eg
  go_enter Tryz.func147, Tryz.ntmps147
  go_wp2
  go_loopw [5, 8] (fun _ i wr => ∃ k : Nat, k ≤ n ∧ i = .int .i64 k ∧ Nx w wr ∧ findI p l = idxP p (l.drop k) k) (fun _ i _ => n - (intOf i).toNat)
  case atStart => exact ⟨0, Nat.zero_le _, rfl, Nx.refl _, rfl⟩
  case round =>
    obtain ⟨k, hk, rfl, hbw, hq⟩ := hrel
    have HQ := hide hq
    clear hq
    by_cases hlt : k < n
    · have hlt' : k < l.length := by have := HN.out; omega
      obtain ⟨b, off, rfl, _, hb, hbr, hc⟩ := HR.out.open_ hbw (by omega)
      have c0 : wr.cell? ⟨b, off + k * 3, none⟩ = some (.string l[k].key) := hc k hlt' 0 _ rfl
      have c1 : wr.cell? ⟨b, off + k * 3 + 1, none⟩ = some (.int .i64 l[k].x) := hc k hlt' 1 _ rfl
      have c2 : wr.cell? ⟨b, off + k * 3 + 2, none⟩ = some (.int .i64 l[k].y) := hc k hlt' 2 _ rfl
      clear hc
      have HD := hide (idxP_drop p l k hlt')
      have hcl := fun W (h : Nx w W) => HC0.out l[k] W h
      generalize l[k] = y at *
      cases hbig : p y
      all_goals
        have HB := hide hbig
        rw [hbig] at hcl
        have HCL := hide hcl
        clear hbig hcl
        go_wp2_with (go_at_fn g; refine (HCL.out _ hbw).mono ?_; rintro e w2 ⟨rfl, hn2⟩)
      · go_roundw
        case rel => exact ⟨k + 1, by omega, by go_num, hbw.trans hn2, by rw [HQ.out, HD.out, HB.out, if_neg (by simp)]⟩
        case measure => simp [intOf]; omega
      · go_ret
        exact ⟨ret_int (by rw [HQ.out, HD.out, HB.out, if_pos rfl]), hbw.trans hn2⟩
    · go_wp2
      go_ret
      exact ⟨ret_int (by rw [HQ.out, List.drop_of_length_le (by have := HN.out; omega)]; rfl), hbw⟩
set_option maxRecDepth 100000 in
set_option maxHeartbeats 1000000 in
theorem w_IndexFA (g : Nat) (p : Arc → Bool) (cap : Value) (eg : Enters g) (lo : Nat) (A : Option Addr) (c : Nat) (l : List Arc) (w : World) (hcl : ∀ (y : Arc) W, Nx w W → Calls Tryz.prog g #[.agg #[.string y.key, .string y.from_, .string y.to_, .int .i64 y.long, .slice y.ka y.knots.length y.kc], cap] W fun e w' => e = .returned (.bool (p y)) ∧ Nx W w')
    (hR : Rd w lo A 5 encArc l) (hl : l.length ≤ 65536) :
    Calls Tryz.prog 131 #[.slice A l.length c, .func (.func g) #[] #[cap]] w fun e w' => e = .returned (.int .i64 (findI p l)) ∧ Nx w w' := by
  generalize hn : l.length = n at *
  have HR := hide hR
  have HN := hide hn
  have HC0 := hide hcl
  clear hR hn hcl
  unfold Enters at eg
  go_enter Tryz.func131, Tryz.ntmps131
  go_wp2
  go_loopw [5, 8] (fun _ i wr => ∃ k : Nat, k ≤ n ∧ i = .int .i64 k ∧ Nx w wr ∧ findI p l = idxP p (l.drop k) k) (fun _ i _ => n - (intOf i).toNat)
  case atStart => exact ⟨0, Nat.zero_le _, rfl, Nx.refl _, rfl⟩
  case round =>
    obtain ⟨k, hk, rfl, hbw, hq⟩ := hrel
    have HQ := hide hq
    clear hq
    by_cases hlt : k < n
    · have hlt' : k < l.length := by have := HN.out; omega
      obtain ⟨b, off, rfl, _, hb, hbr, hc⟩ := HR.out.open_ hbw (by omega)
      have c0 : wr.cell? ⟨b, off + k * 5, none⟩ = some (.string l[k].key) := hc k hlt' 0 _ rfl
      have c1 : wr.cell? ⟨b, off + k * 5 + 1, none⟩ = some (.string l[k].from_) := hc k hlt' 1 _ rfl
      have c2 : wr.cell? ⟨b, off + k * 5 + 2, none⟩ = some (.string l[k].to_) := hc k hlt' 2 _ rfl
      have c3 : wr.cell? ⟨b, off + k * 5 + 3, none⟩ = some (.int .i64 l[k].long) := hc k hlt' 3 _ rfl
      have c4 : wr.cell? ⟨b, off + k * 5 + 4, none⟩ = some (.slice l[k].ka l[k].knots.length l[k].kc) := hc k hlt' 4 _ rfl
      clear hc
      have HD := hide (idxP_drop p l k hlt')
      have hcl := fun W (h : Nx w W) => HC0.out l[k] W h
      generalize l[k] = y at *
      cases hbig : p y
      all_goals
        have HB := hide hbig
        rw [hbig] at hcl
        have HCL := hide hcl
        clear hbig hcl
        go_wp2_with (go_at_fn g; refine (HCL.out _ hbw).mono ?_; rintro e w2 ⟨rfl, hn2⟩)
      · go_roundw
        case rel => exact ⟨k + 1, by omega, by go_num, hbw.trans hn2, by rw [HQ.out, HD.out, HB.out, if_neg (by simp)]⟩
        case measure => simp [intOf]; omega
      · go_ret
        exact ⟨ret_int (by rw [HQ.out, HD.out, HB.out, if_pos rfl]), hbw.trans hn2⟩
    · go_wp2
      go_ret
      exact ⟨ret_int (by rw [HQ.out, List.drop_of_length_le (by have := HN.out; omega)]; rfl), hbw⟩

theorem w_NodeAt1 (s : ByteArray) (y : Node) (q : Nat) (w : World) (hq : w.cell? ⟨q, 0, none⟩ = some (.string s)) (hql : q < w.heap.size) :
    Calls Tryz.prog 148 #[.agg #[.string y.key, .int .i64 y.x, .int .i64 y.y], .pointer (some ⟨q, 0, none⟩)] w fun e w' => e = .returned (.bool (decide (y.key = s))) ∧ Nx w w' := by
  have hq2 : ∀ o, (w.alloc o).cell? ⟨q, 0, none⟩ = some (.string s) := fun o => nx_cell ((Nx.refl w).alloc o) hql hq
  go_enter Tryz.func148, Tryz.ntmps148
  go_wp2
  go_ret
  exact ⟨congrArg (fun b => Ending.returned (.bool b)) (eqS_iff _ _), (Nx.refl _).alloc _⟩
set_option maxHeartbeats 1000000 in
theorem w_NodeAt (lo : Nat) (A B C : Option Addr) (n1 n2 c1 c2 c3 : Nat) (l : List Node) (s : ByteArray) (w : World) (hR : Rd w lo A 3 encNode l) (hl : l.length ≤ 65536) :
    Calls Tryz.prog 81 #[.agg #[.slice A l.length c1, .slice B n1 c2, .slice C n2 c3], .string s] w fun e w' => e = .returned (.int .i64 (nodeI l s)) ∧ Nx w w' := by
  obtain ⟨wa, hwa⟩ : ∃ wa, wa = (w.alloc (.cells #[.slice A l.length c1, .slice B n1 c2, .slice C n2 c3] 30)).alloc (.cells #[.string s] 9) := ⟨_, rfl⟩
  have hna : Nx w wa := hwa ▸ ((Nx.refl w).alloc _).alloc _
  have hsz : wa.heap.size = w.heap.size + 1 + 1 := by rw [hwa]; simp
  have hq : wa.cell? ⟨w.heap.size + 1, 0, none⟩ = some (.string s) := by rw [hwa]; go_simp
  have hf : wa.cell? ⟨w.heap.size, 0, none⟩ = some (.slice A l.length c1) := by rw [hwa]; go_simp
  have HB := hide (w_IndexFN 148 (fun y => decide (y.key = s)) (.pointer (some ⟨w.heap.size + 1, 0, none⟩)) (enters_of Tryz.func148 (by kernel_rfl) rfl) lo A c1 l wa
    (fun y W h => w_NodeAt1 s y _ W (nx_cell h (by omega) hq) (Nat.lt_of_lt_of_le (by omega) h.sz)) (hR.nx hna) hl)
  clear hR hq
  generalize l.length = n at *
  go_enter Tryz.func81, Tryz.ntmps81
  go_wp2_with fail
  rw [← hwa]
  have HWA := hide hwa
  clear hwa
  go_wp2_with (go_at_call 147; refine HB.out.mono ?_; rintro e w2 ⟨rfl, hn2⟩)
  go_ret
  exact ⟨rfl, hna.trans hn2⟩

theorem w_ArcAt1 (s : ByteArray) (y : Arc) (q : Nat) (w : World) (hq : w.cell? ⟨q, 0, none⟩ = some (.string s)) (hql : q < w.heap.size) :
    Calls Tryz.prog 132 #[.agg #[.string y.key, .string y.from_, .string y.to_, .int .i64 y.long, .slice y.ka y.knots.length y.kc], .pointer (some ⟨q, 0, none⟩)] w fun e w' => e = .returned (.bool (decide (y.key = s))) ∧ Nx w w' := by
  have hq2 : ∀ o, (w.alloc o).cell? ⟨q, 0, none⟩ = some (.string s) := fun o => nx_cell ((Nx.refl w).alloc o) hql hq
  go_enter Tryz.func132, Tryz.ntmps132
  go_wp2
  go_ret
  exact ⟨congrArg (fun b => Ending.returned (.bool b)) (eqS_iff _ _), (Nx.refl _).alloc _⟩
set_option maxHeartbeats 1000000 in
theorem w_ArcAt (lo : Nat) (A B C : Option Addr) (n1 n2 c1 c2 c3 : Nat) (l : List Arc) (s : ByteArray) (w : World) (hR : Rd w lo B 5 encArc l) (hl : l.length ≤ 65536) :
    Calls Tryz.prog 59 #[.agg #[.slice A n1 c1, .slice B l.length c2, .slice C n2 c3], .string s] w fun e w' => e = .returned (.int .i64 (arcI l s)) ∧ Nx w w' := by
  obtain ⟨wa, hwa⟩ : ∃ wa, wa = (w.alloc (.cells #[.slice A n1 c1, .slice B l.length c2, .slice C n2 c3] 30)).alloc (.cells #[.string s] 9) := ⟨_, rfl⟩
  have hna : Nx w wa := hwa ▸ ((Nx.refl w).alloc _).alloc _
  have hsz : wa.heap.size = w.heap.size + 1 + 1 := by rw [hwa]; simp
  have hq : wa.cell? ⟨w.heap.size + 1, 0, none⟩ = some (.string s) := by rw [hwa]; go_simp
  have hf : wa.cell? ⟨w.heap.size, 1, none⟩ = some (.slice B l.length c2) := by rw [hwa]; go_simp
  have HB := hide (w_IndexFA 132 (fun y => decide (y.key = s)) (.pointer (some ⟨w.heap.size + 1, 0, none⟩)) (enters_of Tryz.func132 (by kernel_rfl) rfl) lo B c2 l wa
    (fun y W h => w_ArcAt1 s y _ W (nx_cell h (by omega) hq) (Nat.lt_of_lt_of_le (by omega) h.sz)) (hR.nx hna) hl)
  clear hR hq
  generalize l.length = n at *
  go_enter Tryz.func59, Tryz.ntmps59
  go_wp2_with fail
  rw [← hwa]
  have HWA := hide hwa
  clear hwa
  go_wp2_with (go_at_call 131; refine HB.out.mono ?_; rintro e w2 ⟨rfl, hn2⟩)
  go_ret
  exact ⟨rfl, hna.trans hn2⟩
end Go.Proofs.YtmpnilliichpfaaGreatDoor
/- The stream's object and its smallest methods. -/
namespace Go.Proofs.YtmpnilliichpfaaGreatDoor
open Go.RowKit

/-- Block s is a stream whose counter is at most k; its numbers lie below s. -/
def Str (w : World) (s k : Nat) : Prop :=
  ∃ (A : Option Addr) (n c i : Nat), i ≤ k ∧ n ≤ 9223372036854775807 ∧ w.heap[s]? = some (.cells #[.slice A n c, .int .i64 (i : Int)] 25 (0, 0)) ∧
    (0 < n → ∃ b off, A = some ⟨b, off, none⟩ ∧ b < s ∧ ∀ j, j < n → ∃ z : Int, w.cell? ⟨b, off + j, none⟩ = some (.int .i64 z) ∧ -9223372036854775808 ≤ z ∧ z ≤ 9223372036854775807)

theorem Str.lt {w : World} {s k : Nat} (h : Str w s k) : s < w.heap.size := by
  obtain ⟨A, n, c, i, _, _, hh, _⟩ := h
  rcases Nat.lt_or_ge s w.heap.size with hlt | hge
  · exact hlt
  · rw [Array.getElem?_eq_none hge] at hh; cases hh
theorem Str.more {w : World} {s k k' : Nat} (h : Str w s k) (hk : k ≤ k') : Str w s k' := by
  obtain ⟨A, n, c, i, hi, r⟩ := h
  exact ⟨A, n, c, i, Nat.le_trans hi hk, r⟩
theorem Str.nx {w w' : World} {s k : Nat} (h : Str w s k) (hn : Nx w w') : Str w' s k := by
  have hlt := h.lt
  obtain ⟨A, n, c, i, hi, hn2, hh, hc⟩ := h
  refine ⟨A, n, c, i, hi, hn2, (hn.block s hlt).trans hh, fun hp => ?_⟩
  obtain ⟨b, off, e, hb, hz⟩ := hc hp
  refine ⟨b, off, e, hb, fun j hj => ?_⟩
  obtain ⟨z, hz1, hz2⟩ := hz j hj
  exact ⟨z, (Below.cell hn (p := ⟨b, _, none⟩) (by show b < _; omega)).trans hz1, hz2⟩

theorem Str.step {w : World} {s k' m c i : Nat} {A : Option Addr} (hh : w.heap[s]? = some (.cells #[.slice A m c, .int .i64 (i : Int)] 25 (0, 0))) (hi : i < k') (hm : m ≤ 9223372036854775807)
    (hc : 0 < m → ∃ b off, A = some ⟨b, off, none⟩ ∧ b < s ∧ ∀ j, j < m → ∃ z : Int, w.cell? ⟨b, off + j, none⟩ = some (.int .i64 z) ∧ -9223372036854775808 ≤ z ∧ z ≤ 9223372036854775807) :
    Str (w.setCell ⟨s, 1, none⟩ (.int .i64 ((i : Int) + 1))) s k' := by
  refine ⟨A, m, c, i + 1, by omega, hm, heap_set hh, fun hp => ?_⟩
  obtain ⟨b, off, e, hb, hz⟩ := hc hp
  refine ⟨b, off, e, hb, fun j hj => ?_⟩
  obtain ⟨z, h1, h2⟩ := hz j hj
  exact ⟨z, by rw [cell_set (by omega)]; exact h1, h2⟩
theorem Str.drewN {w : World} {s k : Nat} (h : Str w s k) (n : Nat) : Str (w.drewN n) s k := h.nx ((Nx.refl w).drewN n)

/-- A row above the stream has been written. -/
theorem Str.row {w w' : World} {s k : Nat} {row : Option Nat} (h : Str w s k) (hg : w.grownBy w' row) (hr : ∀ j, row = some j → s < j) : Str w' s k := by
  have hlt := h.lt
  obtain ⟨A, n, c, i, hi, hn2, hh, hc⟩ := h
  refine ⟨A, n, c, i, hi, hn2, (hg.block s hlt (fun e => by have := hr s e.symm; omega)).trans hh, fun hp => ?_⟩
  obtain ⟨b, off, e, hb, hz⟩ := hc hp
  refine ⟨b, off, e, hb, fun j hj => ?_⟩
  obtain ⟨z, hz1, hz2⟩ := hz j hj
  exact ⟨z, hg.cell hz1 (fun e => by have := hr b e.symm; omega), hz2⟩

/-- A number from 0 to n - 1 (0 where n is less than 1). -/
def Lt0 (n : Int) (w : World) (e : Ending) (w' : World) : Prop := ∃ r : Int, 0 ≤ r ∧ (r < n ∨ r = 0) ∧ e = .returned (.int .i64 r) ∧ w = w'

set_option maxHeartbeats 400000 in
theorem w_Below (x n : Int) (w : World) (hn : n ≤ 4294967296) :
    Calls Tryz.prog 118 #[.int .i64 x, .int .i64 n] w (Lt0 n w) := by
  by_cases h1 : n < 1
  · go_enter Tryz.func118, Tryz.ntmps118
    go_wp2
    go_ret
    exact ⟨0, by omega, .inr rfl, rfl, rfl⟩
  · have b1 : x.tmod n < n := Int.tmod_lt_of_pos x (by omega)
    have b2 : -n < x.tmod n := by have := Int.lt_tmod_of_pos x (b := n) (by omega); omega
    by_cases h2 : x.tmod n < 0
    · go_enter Tryz.func118, Tryz.ntmps118
      go_wp2
      go_ret
      exact ⟨_, by omega, .inl (by omega), rfl, rfl⟩
    · go_enter Tryz.func118, Tryz.ntmps118
      go_wp2
      go_ret
      exact ⟨_, by omega, .inl (by omega), rfl, rfl⟩

/-- The stream's methods: a number from low to high; the stream goes on by m. -/
def StrInt (low high : Int) (s k : Nat) (w : World) (e : Ending) (w' : World) : Prop :=
  ∃ r : Int, low ≤ r ∧ r ≤ high ∧ e = .returned (.int .i64 r) ∧ Gr s w w' ∧ Str w' s k

set_option maxHeartbeats 1000000 in
theorem w_Next (n : Int) (s k : Nat) (w : World) (hS : Str w s k) (hk : k < 1000000) (hn : 1 ≤ n ∧ n ≤ 4294967296) :
    Calls Tryz.prog 48 #[.pointer (some ⟨s, 0, none⟩), .int .i64 n] w (StrInt 0 (n - 1) s (k + 1) w) := by
  obtain ⟨A, m, c, i, hi, hm, hh, hc⟩ := hS
  have c0 : w.cell? ⟨s, 0, none⟩ = some (.slice A m c) := cell_of_row w s 0 _ _ _ hh
  have c1 : w.cell? ⟨s, 1, none⟩ = some (.int .i64 (i : Int)) := cell_of_row w s 1 _ _ _ hh
  have f1 : w.frozen? ⟨s, 1, none⟩ = false := by simp [World.frozen?, hh]
  have HH := hide hh
  have HC := hide hc
  clear hc hh
  by_cases hm0 : m = 0
  · subst hm0
    go_enter Tryz.func48, Tryz.ntmps48
    go_wp2_with (go_at_call 118; refine (w_Below _ _ _ (by omega)).mono ?_; rintro e w' ⟨r, hr1, hr2, rfl, rfl⟩)
    go_ret
    exact ⟨r, hr1, by omega, rfl, (Gr.refl _ _).setS (.inl rfl) _, Str.step HH.out (by omega) (by omega) HC.out⟩
  · have hmp : 0 < m := by omega
    obtain ⟨b, off, rfl, hb, hz⟩ := HC.out hmp
    obtain ⟨z, hz1, hz2, hz3⟩ := hz (i % m) (Nat.mod_lt _ hmp)
    clear hz
    go_enter Tryz.func48, Tryz.ntmps48
    have hst : (w.setCell ⟨s, 1, none⟩ (.int .i64 ((i : Int) + 1))).cell? ⟨b, off + i % m, none⟩ = some (.int .i64 z) := by
      rw [World.cell?_setCell_other _ _ _ _ (by intro h; injection h with h1 h2; omega)]; exact hz1
    have t1 : ((i : Int)).tmod (m : Int) = (i : Int) % (m : Int) := Int.tmod_eq_emod_of_nonneg (by omega)
    have t2 : ((i : Int)).tdiv (m : Int) = (i : Int) / (m : Int) := Int.tdiv_eq_ediv_of_nonneg (by omega)
    have t3 : IntKind.i64.wrap ((i : Int)) = (i : Int) := IntWalk.i64_in _ (by omega)
    have t4 : i % m < m := Nat.mod_lt _ hmp
    go_wp2_with fail
    go_quiet (fail)
    go_wp2_with fail
    go_quiet (fail)
    go_wp2_with fail
    refine (w_Below _ _ _ (by omega)).mono ?_
    rintro e w' ⟨r, hr1, hr2, rfl, rfl⟩
    go_wp2_with fail
    refine (w_Below _ _ _ (by omega)).mono ?_
    rintro e w' ⟨r', hr1', hr2', rfl, rfl⟩
    go_wp2_with fail
    go_ret
    exact ⟨r', hr1', by omega, rfl, ((Gr.refl _ _).setS (.inl rfl) _).drewN _, (Str.step HH.out (by omega) (by omega) HC.out).drewN _⟩

set_option maxHeartbeats 400000 in
theorem w_Range (l h : Int) (s k : Nat) (w : World) (hS : Str w s k) (hk : k < 1000000) (hl : -4294967296 ≤ l ∧ l ≤ h ∧ h < 4294967296) (hn : h - l < 4294967296) :
    Calls Tryz.prog 66 #[.pointer (some ⟨s, 0, none⟩), .int .i64 l, .int .i64 h] w (StrInt l h s (k + 1) w) := by
  go_enter Tryz.func66, Tryz.ntmps66
  go_wp2_with (go_at_call 48; refine (w_Next _ _ _ _ hS hk (by omega)).mono ?_; rintro e w' ⟨r, hr1, hr2, rfl, hg, hS'⟩)
  go_ret
  exact ⟨_, by omega, by omega, rfl, hg, hS'⟩

/-- A stream's method that answers a bool. -/
def StrBool (s k : Nat) (w : World) (e : Ending) (w' : World) : Prop :=
  ∃ r : Bool, e = .returned (.bool r) ∧ Gr s w w' ∧ Str w' s k

set_option maxHeartbeats 400000 in
theorem w_Flip (n : Int) (s k : Nat) (w : World) (hS : Str w s k) (hk : k < 1000000) (hn : 1 ≤ n ∧ n ≤ 4294967296) :
    Calls Tryz.prog 16 #[.pointer (some ⟨s, 0, none⟩), .int .i64 n] w (StrBool s (k + 1) w) := by
  go_enter Tryz.func16, Tryz.ntmps16
  go_wp2_with (go_at_call 48; refine (w_Next _ _ _ _ hS hk hn).mono ?_; rintro e w' ⟨r, hr1, hr2, rfl, hg, hS'⟩)
  go_ret
  exact ⟨_, rfl, hg, hS'⟩

/-- A stream's method that answers one of some values. -/
def StrOf (cs : List Value) (s k : Nat) (w : World) (e : Ending) (w' : World) : Prop :=
  ∃ v, v ∈ cs ∧ e = .returned v ∧ Gr s w w' ∧ Str w' s k

set_option maxHeartbeats 400000 in
theorem w_Pick (g m : Nat) (cs : Array Value) (s k : Nat) (w : World) (hS : Str w s k) (hk : k < 1000000) (hg : w.heap[g]? = some (.cells cs 3 (0, 0))) (hne : g ≠ s) (hm : cs.size = m) (h0 : 0 < m) (h1 : m < 1000) :
    Calls Tryz.prog 15 #[.pointer (some ⟨s, 0, none⟩), .slice (some ⟨g, 0, none⟩) m m] w (StrOf cs.toList s (k + 1) w) := by
  go_enter Tryz.func15, Tryz.ntmps15
  go_wp2_with (go_at_call 48; refine (w_Next _ _ _ _ hS hk (by omega)).mono ?_; rintro e w' ⟨r, hr1, hr2, rfl, hgr, hS'⟩; (obtain ⟨q, rfl⟩ := Int.eq_ofNat_of_zero_le hr1); (have hcell : w'.cell? ⟨g, q, none⟩ = some (cs[q]'(by omega)) := World.grownBy.cell hgr ((cell_of_row w g q _ _ _ hg).trans (Array.getElem?_eq_getElem (by omega))) (by simp; omega)))
  go_ret
  exact ⟨_, Array.getElem_mem_toList _, rfl, hgr, hS'⟩
end Go.Proofs.YtmpnilliichpfaaGreatDoor
/- The stream's methods that pick a number. -/
namespace Go.Proofs.YtmpnilliichpfaaGreatDoor
open Go.RowKit

/-- A number of some list. -/
def StrIn (zs : List Int) (s k : Nat) (w : World) (e : Ending) (w' : World) : Prop := ∃ r ∈ zs, e = .returned (.int .i64 r) ∧ Gr s w w' ∧ Str w' s k
/-- 's.Pick(..)' of numbers that lie in a block of their own. -/
theorem w_PickI (g : Nat) (zs : List Int) (cs : Array Value) (s k : Nat) (w : World) (hS : Str w s k) (hk : k < 1000000) (hg : w.heap[g]? = some (.cells cs 3 (0, 0))) (hne : g ≠ s) (hcs : cs.toList = zs.map (Value.int .i64)) (h0 : zs ≠ []) (h1 : zs.length < 1000) :
    Calls Tryz.prog 15 #[.pointer (some ⟨s, 0, none⟩), .slice (some ⟨g, 0, none⟩) zs.length zs.length] w (StrIn zs s (k + 1) w) := by
  refine (w_Pick g zs.length cs s k w hS hk hg hne (by rw [← Array.length_toList, hcs, List.length_map]) (List.length_pos_iff.2 h0) h1).mono ?_
  rintro e w' ⟨v, hv, rfl, hg, hs⟩
  rw [hcs] at hv
  obtain ⟨z, hz, rfl⟩ := List.mem_map.1 hv
  exact ⟨z, hz, rfl, hg, hs⟩

set_option maxHeartbeats 1000000 in
theorem w_Odd (l h : Int) (s k : Nat) (w : World) (hS : Str w s k) (hk : k < 900000) (hl : -4294967296 ≤ l ∧ l ≤ h ∧ h < 4294967296) (hn : h - l < 4294967296) :
    Calls Tryz.prog 63 #[.pointer (some ⟨s, 0, none⟩), .int .i64 l, .int .i64 h] w (StrInt (-1099511627776) 1099511627776 s (k + 2) w) := by
  go_enter Tryz.func63, Tryz.ntmps63
  go_wp2_with (first
    | (go_at_call 16; refine (w_Flip _ _ _ _ hS (by omega) (by omega)).mono ?_; rintro e w1 ⟨b, rfl, hg1, hS1⟩)
    | (go_at_call 66; refine (w_Range _ _ _ _ _ hS1 (by omega) hl hn).mono ?_; rintro e w2 ⟨r, hr1, hr2, rfl, hg2, hS2⟩)
    | (go_at_call 15; refine (w_PickI _ [l - 1, h + 1, l, h, -1099511627776, 1099511627776] _ _ _ _ (hS1.nx ((Nx.refl _).alloc _)) (by omega) (hnew rfl) (by have := hS1.lt; omega) rfl (by simp) (by simp)).mono ?_; rintro e w2 ⟨r, hr, rfl, hg2, hS2⟩))
  · go_ret
    have hr' : r = l - 1 ∨ r = h + 1 ∨ r = l ∨ r = h ∨ r = -1099511627776 ∨ r = 1099511627776 := by simpa using hr
    exact ⟨r, by omega, by omega, rfl, (hg1.alloc _).trans hg2, hS2⟩
  · go_ret
    exact ⟨r, by omega, by omega, rfl, hg1.trans hg2, hS2⟩

end Go.Proofs.YtmpnilliichpfaaGreatDoor
/- 'out = append(out, ys...)' on a row of the call's own. Of no program. -/
namespace Go.Proofs.YtmpnilliichpfaaGreatDoor
open Go.RowKit

theorem run_append_nilsrc {P : Program} (w : World) (base : Nat) (t ty e : TypeId) (i : TypeInfo) (size : Nat) (ht : P.underlying t = some (.slice e)) (hi : P.info? e = some i)
    (v : Value) (n : Nat) (xs : List Value) (hown : w.ownsRow base e size v n xs) (c : Nat) : (Builtin.append_ #[t, t] ty #[v, .slice none 0 c]).run P w = .ok v w := by
  rcases hown.2 with ⟨rfl, rfl⟩ | ⟨g, cap, cur, rfl, _, _, hnc, _⟩
  · simp [Builtin.append_, run_underlying ht, sizeOf, typeInfo, hi, Builtin.lenOf, Builtin.firstCells]
  · simp [Builtin.append_, run_underlying ht, sizeOf, typeInfo, hi, Builtin.lenOf, Builtin.firstCells, hnc, storeCells]
/-- 'out = append(out, ys...)'. -/
theorem wpAppL {α : Type} {P : Program} {w : World} {ops : Array Oper} {rest : List Oper} {o : Oper} {a : Act} {Q : Exit → Act → World → Prop} (hgd : o.guard = none) (s x : Operand) (t : TypeId)
    (ho : o.op = .call { callee := .builtin .append, args := #[s, x], argTypes := #[t, t] })
    {e : TypeId} {K bytes : Nat} (E : ElemOf P t e K bytes) (enc : α → List Value) (hk : ∀ x, (enc x).length = K) (h1c : ∀ x, ∀ v ∈ enc x, v.oneCell' = true) (hK : 0 < K) (hB : bytes ≤ 1000)
    (base : Nat) (v : Value) (L : List α) (hs : a.eval s = v) (hown : w.ownsRow base e K v L.length (L.flatMap enc)) (A : Option Addr) (c : Nat) (ys : List α) (hx : a.eval x = .slice A ys.length c)
    {lo : Nat} (hR : Rd w lo A K enc ys) (hlen : L.length + ys.length ≤ 10000000) (hbase : base ≤ w.heap.size)
    (h : ∀ v' w', w'.ownsRow base e K v' (L ++ ys).length ((L ++ ys).flatMap enc) → w.grownBy w' v.ownBlock → wpList P ops Q rest (a.put o.dst v') w') : wpList P ops Q (o :: rest) a w := by
  obtain ⟨i, z, h1, h2, h3, h4, h5⟩ := E.hi
  cases A with
  | none =>
    have hy : ys = [] := by
      rcases ys with _ | ⟨y, ys⟩
      · rfl
      · obtain ⟨b, off, e, _⟩ := hR (by simp); cases e
    subst hy
    refine wpList_plain hgd fun K' hK' => ?_
    have hrun := run_append_nilsrc (P := P) w base t o.type e i K E.ht h1 v L.length _ hown c
    unfold Oper.wp execOp
    simp only [ho, resolve, invoke, builtin, Sem.run_bind, Sem.run_pure, Result.andThen_ok, List.map_toArray, List.map_cons, List.map_nil, hs, hx, List.length_nil, hrun]
    exact hK' _ _ (h v w (by simpa using hown) (World.grownBy.refl _ _))
  | some ad =>
    refine wpList_append_own w hgd s x t ho base e i z K bytes E.ht h1 h2 h3 h4 h5 hK v L.length _ hs hown ad ys.length c (ys.flatMap enc) hx (flat_len hk) ?_ ?_ (by unfold maxLen; omega) ?_ hbase ?_
    · intro j u hu
      have hj : j < ys.length * K := by have := (List.getElem?_eq_some_iff.1 hu).1; rw [flat_len hk] at this; exact this
      have hyl : 0 < ys.length := by
        rcases Nat.eq_zero_or_pos ys.length with h0 | h0
        · rw [h0] at hj; omega
        · exact h0
      obtain ⟨b, off, e, _, _, hc⟩ := hR hyl
      injection e with e; subst e
      have hq : j / K < ys.length := (Nat.div_lt_iff_lt_mul hK).2 hj
      have hr : j % K < K := Nat.mod_lt _ hK
      have e1 : j / K * K + j % K = j := by rw [Nat.mul_comm]; exact Nat.div_add_mod j K
      have hu2 : (enc ys[j / K])[j % K]? = some u := by
        have h6 : (enc ys[j / K])[j % K]? = some ((enc ys[j / K])[j % K]'(by rw [hk]; exact hr)) := List.getElem?_eq_getElem _
        have h7 := flat_get (xs := ys) hk (j / K) _ (List.getElem?_eq_getElem hq) (j % K) _ h6
        rw [e1, hu] at h7
        rw [h6, ← h7]
      have := hc (j / K) _ (List.getElem?_eq_getElem hq) (j % K) u hu2
      have e2 : (⟨b, off, none⟩ : Addr).add j = ⟨b, off + j, none⟩ := by unfold Addr.add; split <;> simp_all
      rw [e2, ← e1, ← Nat.add_assoc]
      exact this
    · intro u hu
      obtain ⟨y, _, hy⟩ := List.mem_flatMap.1 hu
      exact h1c y u hy
    · have : (L.length + ys.length) * bytes ≤ 10000000 * 1000 := Nat.mul_le_mul hlen hB
      omega
    · intro v' w' ho' hg' _
      exact h v' w' (by simpa using ho') hg'

end Go.Proofs.YtmpnilliichpfaaGreatDoor
/- Rounding down: the program's and the reference's. -/
namespace Go.Proofs.YtmpnilliichpfaaGreatDoor
open Go.RowKit

theorem w_Down (a b : Int) (w : World) (hb : 1 ≤ b ∧ b ≤ 4611686018427387904) (ha : -4611686018427387904 ≤ a ∧ a ≤ 4611686018427387904) :
    Calls Tryz.prog 152 #[.int .i64 a, .int .i64 b] w fun e w' => e = .returned (.int .i64 (a / b)) ∧ w = w' := by
  have q1 := tdiv_bd a b hb.1
  have q2 : -4611686018427387904 ≤ a.tdiv b ∧ a.tdiv b ≤ 4611686018427387904 := by split at q1 <;> omega
  clear q1
  have b1 : a.tmod b < b := Int.tmod_lt_of_pos a (by omega)
  have b2 : -b < a.tmod b := by have := Int.lt_tmod_of_pos a (b := b) (by omega); omega
  by_cases h : a.tmod b < 0
  · go_enter Tryz.func152, Tryz.ntmps152
    go_wp2
    go_ret
    exact ⟨ret_int (floor_neg a b hb.1 h), rfl⟩
  · go_enter Tryz.func152, Tryz.ntmps152
    go_wp2
    go_ret
    exact ⟨ret_int (floor_pos a b hb.1 (by omega)), rfl⟩

theorem w_floor (a b : Int) (w : World) (hb : 1 ≤ b ∧ b ≤ 4611686018427387904) (ha : -4611686018427387904 ≤ a ∧ a ≤ 4611686018427387904) :
    Calls Tryz.prog 248 #[.int .i64 a, .int .i64 b] w fun e w' => e = .returned (.int .i64 (a / b)) ∧ w = w' := by
  have q1 := tdiv_bd a b hb.1
  have q2 : -4611686018427387904 ≤ a.tdiv b ∧ a.tdiv b ≤ 4611686018427387904 := by split at q1 <;> omega
  clear q1
  have b1 : a.tmod b < b := Int.tmod_lt_of_pos a (by omega)
  have b2 : -b < a.tmod b := by have := Int.lt_tmod_of_pos a (b := b) (by omega); omega
  by_cases h : a.tmod b < 0
  · go_enter Tryz.func248, Tryz.ntmps248
    go_wp2
    go_ret
    exact ⟨ret_int (floor_neg a b hb.1 h), rfl⟩
  · go_enter Tryz.func248, Tryz.ntmps248
    go_wp2
    go_ret
    exact ⟨ret_int (floor_pos a b hb.1 (by omega)), rfl⟩

end Go.Proofs.YtmpnilliichpfaaGreatDoor
/- A row of the call's own, as the sort's contracts read it. Of no program. -/
namespace Go.Proofs.YtmpnilliichpfaaGreatDoor
open Go.RowKit Go.Sort Go.Proofs Go.Shelf

section
variable {α : Type} [Inhabited α] {enc : α → List Value} {K : Nat}
theorem flatK_toList (hk : ∀ x, (enc x).length = K) (hK : 0 < K) (d : Array α) : (flatK enc K d).toList = d.toList.flatMap enc := by
  apply List.ext_getElem?
  intro t
  by_cases ht : t < d.size * K
  · have h1 : t / K < d.size := (Nat.div_lt_iff_lt_mul hK).2 ht
    have h2 : t % K < K := Nat.mod_lt _ hK
    have e : t / K * K + t % K = t := by rw [Nat.mul_comm]; exact Nat.div_add_mod t K
    have hx : d.toList[t / K]? = some d[t / K]! := by
      rw [Array.getElem?_toList, getElem!_pos d _ h1, Array.getElem?_eq_getElem h1]
    have hu : (enc d[t / K]!)[t % K]? = some (enc d[t / K]!)[t % K]! := by
      have h5 : t % K < (enc d[t / K]!).length := by rw [hk]; exact h2
      rw [getElem!_pos (enc d[t / K]!) (t % K) h5]
      exact List.getElem?_eq_getElem h5
    have h3 := flat_get (xs := d.toList) hk (t / K) _ hx (t % K) _ hu
    rw [e] at h3
    rw [h3, Array.getElem?_toList]
    have hs : t < (flatK enc K d).size := by rw [size_flatK]; exact ht
    rw [Array.getElem?_eq_getElem hs, ← getElem!_pos (flatK enc K d) t hs, get_flatK _ _ _ _ ht]
  · rw [List.getElem?_eq_none (by rw [Array.length_toList, size_flatK]; omega), List.getElem?_eq_none (by rw [flat_len hk, Array.length_toList]; omega)]

variable {w : World} {base g cap n : Nat} {e : TypeId} {xs : List α}
theorem holds_of_own (hk : ∀ x, (enc x).length = K) (hK : 0 < K) (hn : xs.length = n) (h : w.ownsRow base e K (.slice (some ⟨g, 0, none⟩) n cap) n (xs.flatMap enc)) : HoldsK enc K w g 0 xs.toArray := by
  intro j hj
  rw [size_flatK] at hj
  have hj' : j < n * K := by rw [← hn]; simpa using hj
  have hs : j < (flatK enc K xs.toArray).size := by rw [size_flatK]; exact hj
  refine ⟨?_, by rw [Nat.zero_add]; exact h.frozenAt j⟩
  rw [Nat.zero_add, h.cellAt j hj', ← flatK_toList hk hK xs.toArray, Array.getElem?_toList, Array.getElem?_eq_getElem hs, getElem!_pos (flatK enc K xs.toArray) j hs]
  rfl

theorem own_of_sorted (hk : ∀ x, (enc x).length = K) (hK : 0 < K) (h : w.ownsRow base e K (.slice (some ⟨g, 0, none⟩) n cap) n (xs.flatMap enc)) (ys : List α) (hy : ys.length = n) (m : Nat) (os : Array Obj) :
    (sortWorldK enc K w g 0 m ys.toArray os).ownsRow base e K (.slice (some ⟨g, 0, none⟩) n cap) n (ys.flatMap enc) ∧ Gr g w (sortWorldK enc K w g 0 m ys.toArray os) := by
  have hlt := (h.lt g rfl)
  have hF : (flatK enc K ys.toArray).size = n * K := by rw [size_flatK]; simp [hy]
  constructor
  · rcases h.2 with ⟨h0, _⟩ | ⟨g', cap', cur, hv, hg, hh, hnc, hcm, hcs, ht⟩
    · cases h0
    · cases hv
      refine ⟨by rw [flat_len hk, hy], .inr ⟨g, cap, putCells id 0 (flatK enc K ys.toArray) cur, rfl, hlt.1, ?_, hnc, hcm, by simp [putCells, hcs], ?_⟩⟩
      · unfold sortWorldK
        rw [heap_grow_old _ _ (by simpa [putRowK] using hlt.2)]
        simp [putRowK, putRow, mapBlock, Sort.ahead, Array.getElem?_modify, hh, onCells]
      · have hle : n * K ≤ cur.size := by rw [hcs]; exact Nat.mul_le_mul_right K hnc
        apply List.ext_getElem?
        intro j
        by_cases hj : j < n * K
        · rw [List.getElem?_take_of_lt hj, Array.getElem?_toList]
          have hjc : j < cur.size := by omega
          have hs : j < (flatK enc K ys.toArray).size := by rw [hF]; exact hj
          have e1 := flatK_toList hk hK ys.toArray
          have e2 : (ys.flatMap enc)[j]? = some (flatK enc K ys.toArray)[j]! := by
            show (ys.toArray.toList.flatMap enc)[j]? = _
            rw [← e1, Array.getElem?_toList, Array.getElem?_eq_getElem hs, getElem!_pos (flatK enc K ys.toArray) j hs]
          rw [e2]
          simp [putCells, hjc, hF, hj]
        · rw [List.getElem?_take_eq_none (by omega), List.getElem?_eq_none (by rw [flat_len hk, hy]; omega)]
  · refine ⟨rfl, rfl, rfl, by simp [sortWorldK, putRowK, grow], fun k hkk hne => ?_⟩
    unfold sortWorldK
    rw [heap_grow_old _ _ (by simpa [putRowK] using hkk)]
    have : g ≠ k := fun e => hne (by rw [e])
    simp [putRowK, putRow, mapBlock, Sort.ahead, Array.getElem?_modify, this]
end

end Go.Proofs.YtmpnilliichpfaaGreatDoor
/- The stable sort of what is left, of fewer than 20; products and quotients of 64 bits. -/
namespace Go.Proofs.YtmpnilliichpfaaGreatDoor
open Go.RowKit Go.Sort Go.Proofs Go.Shelf

theorem w_isNaNU (a : Int) (w : World) : Calls Tryz.prog 260 #[.int .u64 a] w fun e w' => e = .returned (.bool false) ∧ w = w' := by
  go_enter Tryz.func260, Tryz.ntmps260
  go_wp2
  go_ret
  exact ⟨rfl, rfl⟩
theorem w_CompareU (a b : Int) (w : World) : Calls Tryz.prog 223 #[.int .u64 a, .int .u64 b] w fun e w' => e = .returned (.int .i64 (cmpI a b)) ∧ w = w' := by
  by_cases h1 : a < b
  · go_enter Tryz.func223, Tryz.ntmps223
    go_wp2_with (go_at_call 260; refine (w_isNaNU _ _).mono ?_; rintro e w' ⟨rfl, rfl⟩)
    go_ret
    exact ⟨ret_int (by unfold cmpI; simp [h1]), rfl⟩
  · by_cases h2 : b < a
    · go_enter Tryz.func223, Tryz.ntmps223
      go_wp2_with (go_at_call 260; refine (w_isNaNU _ _).mono ?_; rintro e w' ⟨rfl, rfl⟩)
      go_ret
      exact ⟨ret_int (by unfold cmpI; simp [h1, h2]), rfl⟩
    · go_enter Tryz.func223, Tryz.ntmps223
      go_wp2_with (go_at_call 260; refine (w_isNaNU _ _).mono ?_; rintro e w' ⟨rfl, rfl⟩)
      go_ret
      exact ⟨ret_int (by unfold cmpI; rw [if_neg (by omega), if_neg (by omega)]), rfl⟩

/-- A number with what is left of it. -/
def encRest (p : Nat × Int) : List Value := [.int .i64 (p.1 : Int), .int .u64 p.2]
theorem encRest_len (p : Nat × Int) : (encRest p).length = 2 := rfl
theorem encRest_one (p : Nat × Int) : ∀ v ∈ encRest p, v.oneCell' = true := by
  intro v hv; simp [encRest] at hv; rcases hv with rfl | rfl <;> rfl
theorem w_cmpRest (x y : Nat × Int) (w : World) : Calls Tryz.prog 222 #[.agg (encRest x).toArray, .agg (encRest y).toArray] w fun e w' => e = .returned (.int .i64 (cmpI y.2 x.2)) ∧ Lays w w' := by
  unfold encRest
  go_enter Tryz.func222, Tryz.ntmps222
  go_wp2_with (go_at_call 223; refine (w_CompareU _ _ _).mono ?_; rintro e w' ⟨rfl, rfl⟩)
  go_ret
  exact ⟨rfl, ((Lays.refl _).alloc _).alloc _⟩
def restC (x y : Nat × Int) : Int := cmpI y.2 x.2
theorem restC_lt (x y : Nat × Int) : ltOf restC x y = true ↔ y.2 < x.2 := by unfold ltOf restC; rw [decide_eq_true_eq]; unfold cmpI; split <;> (try split) <;> omega
/-- Those ahead come first. -/
def Ahead (a b : Nat × Int) : Prop := b.2 < a.2 ∨ (a.2 = b.2 ∧ a.1 < b.1)
theorem rest_stable (d : Array (Nat × Int)) (hS : d.toList.Pairwise (fun a b => a.1 < b.1)) : (insertionSort (ltOf restC) d 0 d.size).toList.Perm d.toList ∧ (insertionSort (ltOf restC) d 0 d.size).toList.Pairwise Ahead :=
  ins_stable (ltOf restC) (R := Ahead) (S := fun a b => a.1 < b.1) (fun x y h => .inl ((restC_lt x y).1 h)) (fun x y h1 h2 => by
    have h3 : ¬ y.2 < x.2 := fun h => by rw [(restC_lt x y).2 h] at h2; cases h2
    unfold Ahead; omega) (fun x y z h1 h2 => by unfold Ahead at *; omega) d hS

set_option maxHeartbeats 1000000 in
theorem w_SortRests {w : World} {base b cap n : Nat} (xs : List (Nat × Int)) (hn : xs.length = n) (hsz : n < 20) (hS : xs.Pairwise (fun a b => a.1 < b.1)) (h : w.ownsRow base 299 2 (.slice (some ⟨b, 0, none⟩) n cap) n (xs.flatMap encRest)) :
    Calls Tryz.prog 221 #[.slice (some ⟨b, 0, none⟩) n cap, .func (.func 222) #[] #[]] w fun en w' => en = .returned (.tuple #[]) ∧
      ∃ ys : List (Nat × Int), ys.Perm xs ∧ ys.Pairwise Ahead ∧ w'.ownsRow base 299 2 (.slice (some ⟨b, 0, none⟩) n cap) n (ys.flatMap encRest) ∧ Gr b w w' := by
  have hlt := (h.lt b rfl)
  have e1 : xs.toArray.size = n := by simpa using hn
  have hH := holds_of_own encRest_len (by omega) hn h
  have hc : CmpLays Tryz.prog 222 #[] encRest 2 restC b 0 xs.toArray.size w := fun m os dk _ x y => by
    rw [Array.append_empty]
    exact w_cmpRest x y _
  have hs := AnyQ.insertionSortCmpFunc Tryz.insRest 2 Tryz.isAgg299 Tryz.sizeOf299 encRest encRest_len encRest_one restC 222 #[] b 0 cap 0 xs.toArray.size xs.toArray w (enters_of Tryz.func222 (by kernel_rfl) rfl) hc hH hlt.2 (Nat.zero_le _) (Nat.le_refl _) (by omega)
  change Calls Tryz.prog 287 _ _ _ at hs
  rw [e1] at hs
  have HS := hide (hs.mono fun en w' ⟨he, m, os, hw⟩ => (show en = Ending.returned (.tuple #[]) ∧ ∃ ys : List (Nat × Int), ys.Perm xs ∧ ys.Pairwise Ahead ∧ w'.ownsRow base 299 2 (.slice (some ⟨b, 0, none⟩) n cap) n (ys.flatMap encRest) ∧ Gr b w w' from by
    have hst := rest_stable xs.toArray (by simpa using hS)
    rw [e1] at hst
    refine ⟨he, (insertionSort (ltOf restC) xs.toArray 0 n).toList, by simpa using hst.1, hst.2, ?_⟩
    have := own_of_sorted encRest_len (by omega) h (insertionSort (ltOf restC) xs.toArray 0 n).toList (by rw [hst.1.length_eq]; simpa using hn) m os
    rw [hw]
    simpa using this))
  clear hs hc hH h hlt e1 hn hS
  have HT := hide (show Calls Tryz.prog 259 #[.slice (some ⟨b, 0, none⟩) n cap, .int .i64 n, .func (.func 222) #[] #[]] w fun en w' => en = .returned (.tuple #[]) ∧
      ∃ ys : List (Nat × Int), ys.Perm xs ∧ ys.Pairwise Ahead ∧ w'.ownsRow base 299 2 (.slice (some ⟨b, 0, none⟩) n cap) n (ys.flatMap encRest) ∧ Gr b w w' from by
    have t1 : decide ((20 : Int) ≤ (n : Int)) = false := decide_eq_false (by omega)
    have t2 : decide ((20 : Int) < (n : Int)) = false := decide_eq_false (by omega)
    go_enter Tryz.func259, Tryz.ntmps259
    go_wp2_with fail
    refine wp_loop_rounds 1 ?_
    rw [rounds_succ]
    go_wp2_with (go_at_call 287; refine (HS.out).mono ?_; rintro e w1 ⟨rfl, hw1⟩)
    refine wp_loop_rounds 1 ?_
    rw [rounds_succ]
    go_wp2_with fail
    go_end0
    exact ⟨rfl, hw1⟩)
  go_enter Tryz.func221, Tryz.ntmps221
  go_wp2_with (go_at_call 259; refine (HT.out).mono ?_; rintro e w1 ⟨rfl, hw1⟩)
  go_end0
  exact ⟨rfl, hw1⟩
end Go.Proofs.YtmpnilliichpfaaGreatDoor
