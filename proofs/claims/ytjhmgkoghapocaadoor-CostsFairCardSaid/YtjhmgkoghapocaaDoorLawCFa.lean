/- jitlaw1.CostsFair, its second part: what is told is turned. -/
import Derived.Test.YtjhmgkoghapocaaDoorLawCFb
import Derived.Test.YtjhmgkoghapocaaDoorFairOf
namespace Go.Proofs.YtjhmgkoghapocaaDoor
open Go.RowKit Go.Sort Go.Shelf

/-- What is told, behind the turn. -/
def Told (wk : World) (s k : Nat) (v : Value) (wx : World) : Prop :=
  ∃ (D : Option Addr) (c : Nat) (ds : List Due), v = .slice D ds.length c ∧ ds.length ≤ 6 ∧ Rd wx 0 D 2 encDue ds ∧ Gr s wk wx ∧ Str wx s (k + 3)
def Flipped (wk : World) (s k : Nat) (v : Value) (ds : List Due) (u : Value) (wx : World) : Prop :=
  ∃ b : Bool, u = .bool b ∧ (b = true → 0 < ds.length) ∧ wx.ownsRow wk.heap.size 36 2 v ds.length (ds.flatMap encDue) ∧ Gr s wk wx ∧ Str wx s (k + 1)

set_option maxRecDepth 100000 in
set_option maxHeartbeats 2000000 in
theorem st_CF13 {w wk wc : World} {s k : Nat} {A B : Option Addr} {c c' : Nat} {l : List ByteArray} {cs : List Int} {ds : List Due} {v : Value} (hgw : Gr s w wk) (hgk : Gr s wk wc) (hS : Str wc s k) (hs : w.heap.size ≤ s) (hk : k < 500000) (hsk : s < wk.heap.size)
    (hR : Rd wk (s + 1) A 1 encS l) (hSm : Small l) (hC : Rd wk (s + 1) B 1 encI cs) (hown : wc.ownsRow wk.heap.size 36 2 v ds.length (ds.flatMap encDue)) (hl : l.length ≤ 6) (hcl : cs.length ≤ 40) (hdl : ds.length ≤ 6) (u0 u1 u2 u6 u7 u10 u11 u12 u13 u14 u15 u16 u17 u18 u19 u20 u21 u22 u23 u24 u25 u26 u27 u28 u29 u30 u31 u32 u33 u34 u35 u36 u37 u38 u39 u40 u41 u42 u43 u44 u45 u46 u47 u48 u49 u50 u51 u52 u53 u54 u55 u56 u57 u58 u59 u60 u61 u62 u63 u64 u65 u66 u67 u68 u69 u70 u71 u72 u73 u74 u75 u76 u77 u78 u79 u80 u81 u82 u83 u84 u85 u86 u87 u88 u89 u90 u91 u92 u93 u94 u95 u96 u97 u98 u99 u100 u101 u102 u103 u104 u105 u106 u107 u108 u109 u110 u111 u112 u113 u114 u115 u116 u117 u118 u119 u120 u121 u122 u123 u124 u125 u126 u127 u128 u129 u130 u131 u132 u133 u134 u135 u136 u137 u138 u139 u140 u141 u142 u143 u144 u145 u146 u147 u148 u149 u150 u151 u152 u153 u154 u155 u156 u157 u158 u159 u160 u161 u162 u163 u164 u165 u166 u167 u168 u169 u170 u171 u172 u173 : Value) :
    Code.wp Tryd.prog (codeCF 13) (bodyPost Tryd.prog Tryd.f3 (TrueNx w)) ⟨#[u0, u1, u2, .pointer (some ⟨s, 0, none⟩), .slice A l.length c, .slice B cs.length c', u6, u7, .int .i64 (fairF l cs), v, u10, u11, u12, u13, u14, u15, u16, u17, u18, u19, u20, u21, u22, u23, u24, u25, u26, u27, u28, u29, u30, u31, u32, u33, u34, u35, u36, u37, u38, u39, u40, u41, u42, u43, u44, u45, u46, u47, u48, u49, u50, u51, u52, u53, u54, u55, u56, u57, u58, u59, u60, u61, u62, u63, u64, u65, u66, u67, u68, u69, u70, u71, u72, u73, u74, u75, u76, u77, u78, u79, u80, u81, u82, u83, u84, u85, u86, u87, u88, u89, u90, u91, u92, u93, u94, u95, u96, u97, u98, u99, u100, u101, u102, u103, u104, u105, u106, u107, u108, u109, u110, u111, u112, u113, u114, u115, u116, u117, u118, u119, u120, u121, u122, u123, u124, u125, u126, u127, u128, u129, u130, u131, u132, u133, u134, u135, u136, u137, u138, u139, u140, u141, u142, u143, u144, u145, u146, u147, u148, u149, u150, u151, u152, u153, u154, u155, u156, u157, u158, u159, u160, u161, u162, u163, u164, u165, u166, u167, u168, u169, u170, u171, u172, u173], []⟩ wc := by
  conv => arg 2; whnf
  have HR := hide hR
  have HC := hide hC
  have HSm := hide hSm
  clear hR hC hSm
  have hkw := hgk.sz
  have HO := hide hown
  rcases hown.2 with ⟨rfl, h0⟩ | ⟨g, cap, cur, rfl, hgg, _⟩
  · clear hown
    go_upto_if 79 with fail
    go_cut [9] (fun u wx => Told wk s k u wx)
    case first =>
      go_wp2
      go_meet
      have := List.length_eq_zero_iff.1 h0
      subst this
      exact ⟨none, 0, [], rfl, by simp, Rd.nil, hgk, hS.more (by omega)⟩
    case rest =>
      obtain ⟨D, c2, ds', rfl, hdl', hRD, hgx, hSx⟩ := hcut
      refine ‹∀ (a : Act) (w_1 : World), Code.wp _ _ _ a w_1 → _› _ _ ?_
      exact st_CF15 (hgw.trans hgx) hSx hs (by omega) ((HR.out.gr hgx (by omega)).low (Nat.zero_le _)) HSm.out ((HC.out.gr hgx (by omega)).low (Nat.zero_le _)) hRD hl hcl hdl' _ _ _ _ _ _ _ _ _ _ _ _ _ _ _ _ _ _ _ _ _ _ _ _ _ _ _ _ _ _ _ _ _ _ _ _ _ _ _ _ _ _ _ _ _ _ _ _ _ _ _ _ _ _ _ _ _ _ _ _ _ _ _ _ _ _ _ _ _ _ _ _ _ _ _ _ _ _ _ _ _ _ _ _ _ _ _ _ _ _ _ _ _ _ _ _ _ _ _ _ _ _ _ _ _ _ _ _ _ _ _ _ _ _ _ _ _ _ _ _ _ _ _ _ _ _ _ _ _ _ _ _ _ _ _ _ _ _ _ _ _ _ _ _ _ _ _ _ _ _ _ _ _ _ _ _ _ _ _ _ _ _ _ _ _ _ _ _ _
  clear hown
  rcases Nat.eq_zero_or_pos ds.length with h | h
  · have t1 : decide ((ds.length : Int) > 0) = false := by rw [h]; rfl
    have t2 : ¬ (0 : Int) < (ds.length : Int) := by omega
    have HH := hide h
    clear h
    go_upto_if 79 with fail
    go_cut [9] (fun u wx => Told wk s k u wx)
    case first =>
      go_wp2
      go_meet
      have := List.length_eq_zero_iff.1 HH.out
      subst this
      exact ⟨_, _, [], rfl, by simp, Rd.nil, hgk, hS.more (by omega)⟩
    case rest =>
      obtain ⟨D, c2, ds', rfl, hdl', hRD, hgx, hSx⟩ := hcut
      refine ‹∀ (a : Act) (w_1 : World), Code.wp _ _ _ a w_1 → _› _ _ ?_
      exact st_CF15 (hgw.trans hgx) hSx hs (by omega) ((HR.out.gr hgx (by omega)).low (Nat.zero_le _)) HSm.out ((HC.out.gr hgx (by omega)).low (Nat.zero_le _)) hRD hl hcl hdl' _ _ _ _ _ _ _ _ _ _ _ _ _ _ _ _ _ _ _ _ _ _ _ _ _ _ _ _ _ _ _ _ _ _ _ _ _ _ _ _ _ _ _ _ _ _ _ _ _ _ _ _ _ _ _ _ _ _ _ _ _ _ _ _ _ _ _ _ _ _ _ _ _ _ _ _ _ _ _ _ _ _ _ _ _ _ _ _ _ _ _ _ _ _ _ _ _ _ _ _ _ _ _ _ _ _ _ _ _ _ _ _ _ _ _ _ _ _ _ _ _ _ _ _ _ _ _ _ _ _ _ _ _ _ _ _ _ _ _ _ _ _ _ _ _ _ _ _ _ _ _ _ _ _ _ _ _ _ _ _ _ _ _ _ _ _ _ _ _
  · have HP := hide h
    have t2 : (0 : Int) < (ds.length : Int) := by omega
    have t1 : decide ((ds.length : Int) > 0) = true := by simpa using h
    clear h
    go_upto_if 79 with (go_at_call 12; refine (w_Flip _ _ _ _ hS (by omega) (by omega)).mono ?_; rintro e wq ⟨fl, rfl, hgq, hS1⟩)
    have hown1 := own_gr HO.out hgq hsk
    have hg1 := hgk.trans hgq
    clear hS hgk HO hgq
    go_cut [9] (fun u wx => Told wk s k u wx)
    case first =>
      cases fl with
      | false =>
        have HO := hide hown1
        clear hown1
        go_wp2
        go_meet
        obtain ⟨D, c2, ev, hRD, _⟩ := Rd.of_own encDue_len rfl HO.out
        exact ⟨D, c2, ds, ev, hdl, hRD.low (Nat.zero_le _), hg1, hS1.more (by omega)⟩
      | true =>
        have hp := HP.out
        have hsz1 := hg1.sz
        have d0 := own_cell encDue_len rfl hown1 0 hp 0 _ rfl
        simp only [Nat.zero_mul, Nat.zero_add] at d0
        have HO := hide hown1
        have hdl' : ds.length ≤ 6 := hdl
        clear hown1
        generalize hky : ds[0].key = ky at *
        clear hky hp
        have hs1 := hS1.lt
        go_wp2_with fail
        refine (w_Some _ [ky, ⟨#[122, 122]⟩] _ _ _ _ (hS1.nx ((Nx.refl _).alloc _)) (by omega) (hnew rfl) (by omega) rfl (by simp) (by simp)).mono ?_
        rintro e w2 ⟨x, hx, rfl, hg2, hS2⟩
        have HO2 := hide (own_gr (HO.out.alloc (.cells #[.string ky, .string ⟨#[122, 122]⟩] 9)) hg2 hsk)
        have hg12 := (hg1.alloc (.cells #[.string ky, .string ⟨#[122, 122]⟩] 9)).trans hg2
        have hs2 := hS2.lt
        clear HO d0 hx
        go_wp2_with fail
        refine (w_PickI _ [0, 1000000001] _ _ _ _ (hS2.nx ((Nx.refl _).alloc _)) (by omega) (hnew rfl) (by omega) rfl (by simp) (by simp)).mono ?_
        rintro e w3 ⟨z, hz, rfl, hg3, hS3⟩
        have HO3 := hide (own_gr (HO2.out.alloc (.cells #[.int .i64 0, .int .i64 1000000001] 3)) hg3 hsk)
        have hg13 := (hg12.alloc (.cells #[.int .i64 0, .int .i64 1000000001] 3)).trans hg3
        have hg1z := hg13.sz
        clear HO2 hz hg2 hg3 hg12
        have hda := own_cell encDue_len rfl HO3.out 0 HP.out 0 _ rfl
        have hdb := own_cell encDue_len rfl HO3.out 0 HP.out 1 _ rfl
        simp only [Nat.zero_mul, Nat.zero_add] at hda hdb
        have hO4 := own_set encDue_len rfl HO3.out 0 HP.out 0 (by omega) (.string x) ⟨x, ds[0].cents⟩ rfl 0 (by omega)
        have hO5 := own_set encDue_len (by rw [List.length_set]) hO4 0 (by rw [List.length_set]; exact HP.out) 1 (by omega) (.int .i64 z) ⟨x, z⟩ (by simp [encDue]) 1 (by omega)
        have hlt3 := (HO3.out.lt g rfl).2
        have f0 : w3.frozen? ⟨g, 0, none⟩ = false := HO3.out.frozenAt _
        have f1 : (w3.setCell ⟨g, 0, none⟩ (.string x)).frozen? ⟨g, 1, none⟩ = false := hO4.frozenAt _
        have hdc : (w3.setCell ⟨g, 0, none⟩ (.string x)).cell? ⟨g, 1, none⟩ = some (.int .i64 ds[0].cents) := by
          have := own_cell encDue_len (by rw [List.length_set]) hO4 0 (by rw [List.length_set]; exact HP.out) 1 (.int .i64 ds[0].cents) (by simp [encDue])
          simpa using this
        have HO5 := hide hO5
        have hg4 := (hg13.setS (p := ⟨g, 0, none⟩) (.inr hgg) (.string x)).setS (p := ⟨g, 1, none⟩) (.inr hgg) (.int .i64 z)
        have hS4 := (hS3.row ((Gr.refl g _).setS (p := ⟨g, 0, none⟩) (.inl rfl) (.string x)) (fun j hj => by injection hj with hj; omega)).row ((Gr.refl g _).setS (p := ⟨g, 1, none⟩) (.inl rfl) (.int .i64 z)) (fun j hj => by injection hj with hj; omega)
        clear hO4 hO5 HO3 hg13 hS3
        generalize ds[0].cents = oc at *
        generalize ds[0].key = ok at *
        go_wp2_with fail
        go_meet
        obtain ⟨D, c2, ev, hRD, _⟩ := Rd.of_own encDue_len (by rw [List.length_set, List.length_set]) HO5.out
        exact ⟨D, c2, _, by rw [← ev], by rw [List.length_set, List.length_set]; exact hdl', hRD.low (Nat.zero_le _), hg4, hS4.more (by omega)⟩
    case rest =>
      obtain ⟨D, c2, ds', rfl, hdl', hRD, hgx, hSx⟩ := hcut
      refine ‹∀ (a : Act) (w_1 : World), Code.wp _ _ _ a w_1 → _› _ _ ?_
      exact st_CF15 (hgw.trans hgx) hSx hs (by omega) ((HR.out.gr hgx (by omega)).low (Nat.zero_le _)) HSm.out ((HC.out.gr hgx (by omega)).low (Nat.zero_le _)) hRD hl hcl hdl' _ _ _ _ _ _ _ _ _ _ _ _ _ _ _ _ _ _ _ _ _ _ _ _ _ _ _ _ _ _ _ _ _ _ _ _ _ _ _ _ _ _ _ _ _ _ _ _ _ _ _ _ _ _ _ _ _ _ _ _ _ _ _ _ _ _ _ _ _ _ _ _ _ _ _ _ _ _ _ _ _ _ _ _ _ _ _ _ _ _ _ _ _ _ _ _ _ _ _ _ _ _ _ _ _ _ _ _ _ _ _ _ _ _ _ _ _ _ _ _ _ _ _ _ _ _ _ _ _ _ _ _ _ _ _ _ _ _ _ _ _ _ _ _ _ _ _ _ _ _ _ _ _ _ _ _ _ _ _ _ _ _ _ _ _ _ _ _ _
end Go.Proofs.YtjhmgkoghapocaaDoor
