/- jitlaw1.CostsFair returns true. -/
import Derived.Test.YtjhmgkoghapocaaDoorLawCFa
import Derived.Test.YtjhmgkoghapocaaDoorFairP
import Derived.Deep.CutBlock
namespace Go.Proofs.YtjhmgkoghapocaaDoor
open Go.RowKit Go.Sort Go.Shelf

/-- What is told, as it is drawn. -/
def Telling (wk : World) (s n : Nat) (v : Value) (wx : World) : Prop :=
  ∃ ds : List Due, ds.length = n ∧ wx.ownsRow wk.heap.size 36 2 v ds.length (ds.flatMap encDue) ∧ Gr s wk wx ∧ Str wx s (50 + n)

set_option maxRecDepth 100000 in
set_option maxHeartbeats 3000000 in
theorem w_lawCF (A : Option Addr) (n c : Nat) (w : World) (hn : n ≤ 9223372036854775807)
    (hL : 0 < n → ∃ b off, A = some ⟨b, off, none⟩ ∧ b < w.heap.size ∧ ∀ j, j < n → ∃ z : Int, w.cell? ⟨b, off + j, none⟩ = some (.int .i64 z) ∧ -9223372036854775808 ≤ z ∧ z ≤ 9223372036854775807) :
    Calls Tryd.prog 3 #[.slice A n c] w (TrueNx w) := by
  have hS0 : Str (w.alloc (.cells #[.slice A n c, .int .i64 0] 25)) w.heap.size 0 := str_new A n c w hn hL
  clear hL
  go_enter Tryd.func3, Tryd.ntmps3
  go_wp2_with fail
  refine (w_Costs _ _ _ hS0 (by omega)).mono ?_
  rintro e w1 ⟨A1, c1, l, B, c', cs, rfl, hl, hSm, hcl, hR, hC, hg1, hS1⟩
  have hg01 : Gr w.heap.size w w1 := (Gr.of_nx ((Nx.refl w).alloc _)).trans hg1
  have hs1 := hS1.lt
  have HR : Hid (Rd w1 (w.heap.size + 1) A1 1 encS l) := hide (by simpa using hR)
  have HC : Hid (Rd w1 (w.heap.size + 1) B 1 encI cs) := hide (by simpa using hC)
  have HSm := hide hSm
  clear hR hC hS0 hg1 hSm
  go_upto_region 5 with (first
    | (go_at_call 7; refine (w_Fair _ _ _ _ _ _ _ _ _ HR.out HSm.out HC.out (by omega) (by omega)).mono ?_; rintro e w2 ⟨A3, c3, ds, rfl, hz, hnz, hRD, hn2⟩; (have HZ := hide hz); (have HN := hide hnz); clear hz hnz)
    | (go_at_call 8; refine (w_FairFault _ _ _ _ _ _ _ _ _ (HR.out.nx hn2) HSm.out (HC.out.nx hn2) (by omega) (by omega)).mono ?_; rintro e w3 ⟨rfl, hn3⟩))
  have hn13 := hn2.trans hn3
  have HRD := hide (hRD.nx hn3)
  clear hRD hn2 hn3
  go_cut [57] (fun u wx => u = .bool false ∧ Nx w3 wx)
  case first =>
    by_cases h0 : fairF l cs = 0
    · have hR := HZ.out h0
      have hl5 : l.length ≤ 5 := by
        obtain ⟨h1, h2, _⟩ := fairF_right h0
        rcases Nat.lt_or_ge 5 l.length with h4 | h4
        · have : 2 ^ 6 ≤ 2 ^ l.length := Nat.pow_le_pow_right (by omega) h4
          omega
        · exact h4
      have hdl : ds.length ≤ 65536 := by
        obtain ⟨zs, _, he⟩ := hR
        rw [he, List.length_zipWith]
        omega
      have HFo : ∀ w', Nx w3 w' → Calls Tryd.prog 10 #[.slice A1 l.length c1, .slice B cs.length c'] w' fun e w'' => ∃ (A' : Option Addr) (c4 : Nat), e = .returned (.slice A' ds.length c4) ∧ Rd w'' w'.heap.size A' 2 encDue ds ∧ Nx w' w'' := by
        intro w' hn
        refine (w_FairOf _ _ _ _ _ _ _ _ _ ((HR.out.nx hn13).nx hn) ((HC.out.nx hn13).nx hn) hl5 h0).mono ?_
        rintro e w'' ⟨A', c4, ds', he, hf, hr, hx⟩
        rw [hf.unique hR] at he hr
        exact ⟨A', c4, he, hr, hx⟩
      have HG := hide HFo
      have HD := hide hdl
      have t1 : (fairF l cs != fairF l cs) = false := by simp
      have t2 : (fairF l cs == 0) = true := by rw [h0]; rfl
      have t3 : (fairF l cs != 0) = false := by rw [h0]; rfl
      clear HFo hdl hl5 hR HZ HN h0
      generalize fairF l cs = F at *
      go_wp2_with (first
        | (go_at_call 10; refine (HG.out _ (Nx.refl _)).mono ?_; rintro e w4 ⟨A4, c4, rfl, hR4, hn4⟩)
        | (go_at_call 9; refine (w_EqualD _ _ _ _ _ _ _ _ (HRD.out.nx hn4) hR4 HD.out).mono ?_; rintro e w5 ⟨rfl, hn5⟩))
      go_meet
      exact ⟨rfl, hn4.trans hn5⟩
    · have hd := HN.out h0
      have t1 : (fairF l cs != fairF l cs) = false := by simp
      have t2 : (fairF l cs == 0) = false := by simpa using h0
      have t3 : (fairF l cs != 0) = true := by simpa using h0
      clear HZ HN HRD h0
      subst hd
      generalize fairF l cs = F at *
      go_wp2
      go_meet
      exact ⟨rfl, Nx.refl _⟩
  case rest =>
    obtain ⟨rfl, hx⟩ := hcut
    have hn1c := hn13.trans hx
    clear HZ HN HRD hn13 hx
    have HRk := hide (HR.out.nx hn1c)
    have HCk := hide (HC.out.nx hn1c)
    have hgk := hg01.then_nx hn1c
    have hSk := hS1.nx hn1c
    clear HR HC hg01 hS1
    obtain ⟨wk, hwk⟩ : ∃ wk, wk = wc := ⟨_, rfl⟩
    subst hwk
    have hsk := hSk.lt
    clear hn1c
    generalize hF : fairF l cs = F at *
    have HF := hide hF
    clear hF
    go_upto_block 0 with fail
    go_cut [9] (fun v wx => Telling wk w.heap.size l.length v wx)
    case first =>
      have hown0 : wk.ownsRow wk.heap.size 36 2 (.slice none 0 0) ([] : List Due).length (([] : List Due).flatMap encDue) := ⟨rfl, .inl ⟨rfl, rfl⟩⟩
      have HO := hide hown0
      generalize hnl : l.length = m at *
      have HNL := hide hnl
      clear hown0 hnl HF HSm
      go_wp2_with fail
      go_loopw [9, 60] (fun v i wr => ∃ (k : Nat) (ds : List Due), k ≤ m ∧ i = .int .i64 k ∧ ds.length = k ∧ wr.ownsRow wk.heap.size 36 2 v ds.length (ds.flatMap encDue) ∧ Gr w.heap.size wk wr ∧ Str wr w.heap.size (50 + k)) (fun _ i _ => m - (intOf i).toNat)
      case atStart => exact ⟨0, [], Nat.zero_le _, rfl, rfl, HO.out, Gr.refl _ _, hSk⟩
      case round =>
        clear HO
        obtain ⟨k, ds, hk, rfl, hdk, hown, hgr, hSr⟩ := hrel
        have HDK := hide hdk
        have hszr := hgr.sz
        clear hdk
        by_cases hlt : k < m
        · have hlt' : k < l.length := by have := HNL.out; omega
          obtain ⟨b, off, rfl, hbl, hb, _, hc⟩ := HRk.out.open_ (Nx.refl wk) (by omega)
          have c0 : wr.cell? ⟨b, off + k, none⟩ = some (.string l[k]) := by
            have := hc k hlt' 0 _ rfl
            exact World.grownBy.cell hgr (by simpa using this) (by simp; omega)
          clear hc
          generalize l[k] = ky at *
          have q1 : (0 : Int) ≤ (k : Int) := by omega
          have q2 : (k : Int) < (m : Int) := by omega
          go_wp2_with fail
          refine (w_PickI _ [0, 2, 5, 50, 101, -3] _ _ _ _ (hSr.nx ((Nx.refl _).alloc _)) (by omega) (hnew rfl) (by omega) rfl (by simp) (by simp)).mono ?_
          rintro e w2 ⟨x, hx, rfl, hg2, hS2⟩
          have hown2 := own_gr (hown.alloc (.cells #[.int .i64 0, .int .i64 2, .int .i64 5, .int .i64 50, .int .i64 101, .int .i64 (-3)] 3)) hg2 hsk
          have hgr2 := (hgr.alloc _).trans hg2
          have hsz2 := hgr2.sz
          clear hown hgr hSr hx c0
          go_wp2_with (at_builtin; refine wpApp rfl _ _ _ rfl el_Due encDue encDue_len encDue_one (by omega) (by omega) wk.heap.size _ ds rfl (hown2.alloc _) _ ⟨ky, x⟩ _ rfl (hnew rfl) rfl (by have := HDK.out; omega) (by simp; omega) ?_; intro v3 w3 hown3 hg3)
          have hgr3 := (hgr2.alloc (.cells #[.string ky, .int .i64 x] 36)).grown hg3 (fun j hj => .inr (own_blk_lt hown2 j hj))
          have hS3 := (hS2.nx ((Nx.refl _).alloc (.cells #[.string ky, .int .i64 x] 36))).row hg3 (fun j hj => by have := own_blk_lt hown2 j hj; omega)
          go_roundw
          case rel => exact ⟨k + 1, ds ++ [⟨ky, x⟩], by omega, by go_num, by rw [List.length_append, HDK.out]; rfl, hown3, hgr3, hS3⟩
          case measure => simp [intOf]; omega
        · have ek : k = m := by omega
          subst ek
          go_wp2
          go_meet
          exact ⟨ds, HDK.out, hown, hgr, hSr⟩
    case rest =>
      obtain ⟨ds, hdk, hown, hgr, hSr⟩ := hcut
      refine ‹∀ (a : Act) (w_1 : World), Code.wp _ _ _ a w_1 → _› _ _ ?_
      obtain rfl := HF.out
      exact st_CF13 hgk hgr hSr (Nat.le_refl _) (by omega) hsk HRk.out HSm.out HCk.out hown hl hcl (by omega) _ _ _ _ _ _ _ _ _ _ _ _ _ _ _ _ _ _ _ _ _ _ _ _ _ _ _ _ _ _ _ _ _ _ _ _ _ _ _ _ _ _ _ _ _ _ _ _ _ _ _ _ _ _ _ _ _ _ _ _ _ _ _ _ _ _ _ _ _ _ _ _ _ _ _ _ _ _ _ _ _ _ _ _ _ _ _ _ _ _ _ _ _ _ _ _ _ _ _ _ _ _ _ _ _ _ _ _ _ _ _ _ _ _ _ _ _ _ _ _ _ _ _ _ _ _ _ _ _ _ _ _ _ _ _ _ _ _ _ _ _ _ _ _ _ _ _ _ _ _ _ _ _ _ _ _ _ _ _ _ _ _ _ _ _ _ _ _ _
end Go.Proofs.YtjhmgkoghapocaaDoor
