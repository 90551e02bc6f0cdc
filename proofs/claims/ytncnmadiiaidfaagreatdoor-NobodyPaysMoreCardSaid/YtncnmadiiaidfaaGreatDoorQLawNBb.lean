/- jitkeep1.NobodyPaysMore from its region 5 on. -/
import Derived.Test.YtncnmadiiaidfaaGreatDoorQG24
import Derived.Test.YtncnmadiiaidfaaGreatDoorQBills
import Derived.Test.YtncnmadiiaidfaaGreatDoorQG34
import Derived.Test.YtncnmadiiaidfaaGreatDoorQPasF
import Derived.Test.YtncnmadiiaidfaaGreatDoorQContD
import Derived.Test.YtncnmadiiaidfaaGreatDoorQReady
import Derived.Test.YtncnmadiiaidfaaGreatDoorQG1
import Derived.Deep.DeepCutAuto
import Derived.BigQuiet
namespace Go.Proofs.YtncnmadiiaidfaaGreatDoor
open Go.RowKit

noncomputable def codeNB (r : Nat) : Code := fromReg r (Tryz.f3.body.getD .skip)
/-- What stands fast once the draws are right. -/
structure NbB (w wb : World) (s : Nat) (D X C : Option Addr) (b5 : Nat) (zs : List Zone) (p : Price) (xs : List Pass) (ts : List Jour) : Prop where
  z : RdZones wb (s + 1) D zs
  zl : zs.length ≤ 100
  x : RdPasses wb (s + 1) X xs
  xl : xs.length ≤ 300
  j : RdJours wb (s + 1) C ts
  jl : ts.length ≤ 8
  pk : p.key.size ≤ 1000000
  pb : wb.heap[b5]? = some (.cells (encP p).toArray 29 (0, 0))
  bs : s < b5
  st : ∃ k, k < 100000 ∧ Str wb s k
  sw : w.heap.size ≤ s
  gr : Gr s w wb
theorem NbB.nx {w wb wc : World} {s : Nat} {D X C : Option Addr} {b5 : Nat} {zs : List Zone} {p : Price} {xs : List Pass} {ts : List Jour} (h : NbB w wb s D X C b5 zs p xs ts) (hn : Nx wb wc) : NbB w wc s D X C b5 zs p xs ts :=
  ⟨h.z.nx hn, h.zl, h.x.nx hn, h.xl, h.j.nx hn, h.jl, h.pk, (hn.block b5 (Array.getElem?_eq_some_iff.1 h.pb).1).trans h.pb, h.bs, (by obtain ⟨k, h1, h2⟩ := h.st; exact ⟨k, h1, h2.nx hn⟩), h.sw, h.gr.trans (Gr.of_nx hn)⟩
theorem NbB.cells {w wb : World} {s : Nat} {D X C : Option Addr} {b5 : Nat} {zs : List Zone} {k0 : ByteArray} {p1 p2 p3 p4 p5 p6 p7 p8 p9 : Int} {xs : List Pass} {ts : List Jour} (h : NbB w wb s D X C b5 zs ⟨k0, p1, p2, p3, p4, p5, p6, p7, p8, p9⟩ xs ts) (W : World) (hn : Nx wb W) : (fun w' : World => w'.cell? ⟨b5, 0, none⟩ = some (.string k0) ∧ w'.cell? ⟨b5, 1, none⟩ = some (.int .i64 p1) ∧ w'.cell? ⟨b5, 2, none⟩ = some (.int .i64 p2) ∧ w'.cell? ⟨b5, 3, none⟩ = some (.int .i64 p3) ∧ w'.cell? ⟨b5, 4, none⟩ = some (.int .i64 p4) ∧ w'.cell? ⟨b5, 5, none⟩ = some (.int .i64 p5) ∧ w'.cell? ⟨b5, 6, none⟩ = some (.int .i64 p6) ∧ w'.cell? ⟨b5, 7, none⟩ = some (.int .i64 p7) ∧ w'.cell? ⟨b5, 8, none⟩ = some (.int .i64 p8) ∧ w'.cell? ⟨b5, 9, none⟩ = some (.int .i64 p9)) W := by
  have hpb := h.pb
  have hb5 := (Array.getElem?_eq_some_iff.1 hpb).1
  exact ⟨nx_cell hn hb5 (cell_of_row wb b5 0 _ _ _ hpb), nx_cell hn hb5 (cell_of_row wb b5 1 _ _ _ hpb), nx_cell hn hb5 (cell_of_row wb b5 2 _ _ _ hpb), nx_cell hn hb5 (cell_of_row wb b5 3 _ _ _ hpb), nx_cell hn hb5 (cell_of_row wb b5 4 _ _ _ hpb), nx_cell hn hb5 (cell_of_row wb b5 5 _ _ _ hpb), nx_cell hn hb5 (cell_of_row wb b5 6 _ _ _ hpb), nx_cell hn hb5 (cell_of_row wb b5 7 _ _ _ hpb), nx_cell hn hb5 (cell_of_row wb b5 8 _ _ _ hpb), nx_cell hn hb5 (cell_of_row wb b5 9 _ _ _ hpb)⟩
theorem fault_nil {zs : List Zone} {p : Price} {xs : List Pass} {l : List Jour} (h : faultB zs p xs l = 0) : faultB zs p [] l = 0 := by
  obtain ⟨h1, h2, h3⟩ := orI_zero3 h
  have e : passF zs [] = 0 := by
    unfold passF
    rw [(passF_zero h1).1]; rfl
  unfold faultB
  rw [e, h2, h3]; rfl
theorem fault_ann {zs : List Zone} {p : Price} {xs : List Pass} {l : List Jour} {cap : Int} (hc : 0 < cap ∧ cap ≤ 1000000000) (h : faultB zs p xs l = 0) : faultB zs p [annP cap] l = 0 := by
  obtain ⟨h1, h2, h3⟩ := orI_zero3 h
  have e : passF zs [annP cap] = 0 := by
    unfold passF
    rw [(passF_zero h1).1, if_pos rfl]; exact ann_ok hc
  unfold faultB
  rw [e, h2, h3]; rfl
set_option maxRecDepth 100000 in
set_option maxHeartbeats 4000000 in
theorem w_annBills (D C : Option Addr) (c1 cl : Nat) (zs : List Zone) (p : Price) (ts : List Jour) (cap : Int) (k g : Nat) (W : World) (hcap : 0 < cap ∧ cap ≤ 1000000000) (hzl : zs.length ≤ 100) (hpk : p.key.size ≤ 1000000)
    (hz : RdZones W 0 D zs) (hj : RdJours W 0 C ts) (hjl : ts.length ≤ 8) (hr : Rd W 0 (some ⟨g, 0, none⟩) 7 encX [annP cap]) (hk : k < 4) (hFA : faultB zs p [annP cap] ts = 0) :
    Calls Tryz.prog 16 #[.slice D zs.length c1, aggP p, .slice (some ⟨g, 0, none⟩) 1 1, .slice C ts.length cl, .int .i64 (k : Int)] W fun e w' => ∃ (R : Option Addr) (cR : Nat) (ys : List Due), e = .returned (.tuple #[.slice R ys.length cR, .int .i64 0]) ∧ (∀ d ∈ ys, d.key = ⟨#[97, 110, 110]⟩ → d.cents ≤ cap) ∧ Rd w' 0 R 2 encDue ys ∧ ys.length ≤ 65536 ∧ Nx W w' := by
  have hd : outB (k : Int) 0 4000 = false := by
    unfold outB
    have h1 : ¬ (k : Int) < 0 := by omega
    have h2 : ¬ (4000 : Int) < (k : Int) := by omega
    simp [h1, h2]
  obtain ⟨_, hpO, hxO, hjO, hsR⟩ := faultB_zero hFA
  have hX : RdPasses W 0 (some ⟨g, 0, none⟩) [annP cap] := ⟨hr, fun x hx => by
    rw [List.mem_singleton.1 hx]
    exact ⟨Rd.nil, ann_small cap, Nat.zero_le _, (by decide : ((⟨#[112, 122]⟩ : ByteArray)).size ≤ 1000000), (by decide : ((⟨#[97, 110, 110]⟩ : ByteArray)).size ≤ 1000000)⟩⟩
  have h := w_BillsO D (some ⟨g, 0, none⟩) C c1 1 cl zs p [annP cap] ts (k : Int) W hz hzl hpk hX (by simp) hj (by omega) hFA hd
  rw [List.length_singleton] at h
  refine h.mono ?_
  rintro e w' ⟨O, R, cR, ys, hO, rfl, hy, hR, hl, hn⟩
  exact ⟨R, cR, ys, rfl, ann_bill hcap.1 hpO (hxO _ (by simp)) hjO hO hsR (k : Int) hy, hR.low (Nat.zero_le _), hl, hn⟩
set_option maxRecDepth 100000 in
set_option maxHeartbeats 4000000 in
theorem st_NB5 {D X C : Option Addr} {s b5 nz c1 nx cx nt cl : Nat} {zs : List Zone} {p : Price} {xs : List Pass} {ts : List Jour} {w wb : World} (hC : NbB w wb s D X C b5 zs p xs ts) (hnz : zs.length = nz) (hnx : xs.length = nx) (hnt : ts.length = nt) (h0 : faultB zs p xs ts = 0) {u0 u1 u2 u8 u9 u10 u11 u12 u13 u14 u15 u16 u17 u18 u19 u20 u21 u22 u23 u24 u25 u26 u27 u28 u29 u30 u31 u32 u33 u34 u35 u36 u37 u38 u39 u40 u41 u42 u43 u44 u45 u46 u47 u48 u49 u50 u51 u52 u53 u54 u55 u56 u57 u58 u59 u60 u61 u62 u63 u64 u65 u66 u67 u68 u69 u70 u71 u72 u73 u74 u75 u76 u77 u78 u79 u80 u81 u82 u83 u84 u85 u86 u87 u88 u89 u90 u91 u92 u93 u94 u95 u96 u97 u98 u99 u100 u101 u102 u103 u104 u105 u106 u107 u108 u109 u110 u111 u112 u113 u114 u115 u116 u117 u118 u119 u120 u121 u122 u123 u124 u125 u126 u127 u128 u129 u130 u131 u132 u133 u134 u135 u136 u137 u138 u139 u140 u141 u142 u143 u144 u145 u146 u147 u148 u149 u150 u151 u152 u153 u154 u155 u156 u157 u158 u159 u160 u161 u162 u163 : Value} :
    Code.wp Tryz.prog (codeNB 5) (bodyPost Tryz.prog Tryz.f3 (TrueNx w)) ⟨#[u0, u1, u2, .pointer (some ⟨s, 0, none⟩), .slice D nz c1, .pointer (some ⟨b5, 0, none⟩), .slice X nx cx, .slice C nt cl, u8, u9, u10, u11, u12, u13, u14, u15, u16, u17, u18, u19, u20, u21, u22, u23, u24, u25, u26, u27, u28, u29, u30, u31, u32, u33, u34, u35, u36, u37, u38, u39, u40, u41, u42, u43, u44, u45, u46, u47, u48, u49, u50, u51, u52, u53, u54, u55, u56, u57, u58, u59, u60, u61, u62, u63, u64, u65, u66, u67, u68, u69, u70, u71, u72, u73, u74, u75, u76, u77, u78, u79, u80, u81, u82, u83, u84, u85, u86, u87, u88, u89, u90, u91, u92, u93, u94, u95, u96, u97, u98, u99, u100, u101, u102, u103, u104, u105, u106, u107, u108, u109, u110, u111, u112, u113, u114, u115, u116, u117, u118, u119, u120, u121, u122, u123, u124, u125, u126, u127, u128, u129, u130, u131, u132, u133, u134, u135, u136, u137, u138, u139, u140, u141, u142, u143, u144, u145, u146, u147, u148, u149, u150, u151, u152, u153, u154, u155, u156, u157, u158, u159, u160, u161, u162, u163], []⟩ wb := by
  conv => arg 2; whnf
  dsimp only
  have hjl := hC.jl
  have hjn : nt ≤ 8 := by omega
  have HCH := hide hC
  obtain ⟨hzS, hpO, hxO, hjO, hsR⟩ := faultB_zero h0
  have HPO := hide hpO
  have HJO := hide hjO
  have HSR := hide hsR
  have HA := hide (fun W (hn : Nx wb W) => w_FaresO D X C c1 cx cl zs p xs ts W ((hC.z.low (Nat.zero_le _)).nx hn) hC.zl hC.pk ((hC.x.low (Nat.zero_le _)).nx hn) hC.xl ((hC.j.low (Nat.zero_le _)).nx hn) (by omega) h0)
  have HN := hide (fun W (hn : Nx wb W) => w_FaresO D none C c1 0 cl zs p [] ts W ((hC.z.low (Nat.zero_le _)).nx hn) hC.zl hC.pk ⟨Rd.nil, fun x hx => by cases hx⟩ (by simp) ((hC.j.low (Nat.zero_le _)).nx hn) (by omega) (fault_nil h0))
  rw [hnz, hnx, hnt] at HA
  rw [hnz, hnt, List.length_nil] at HN
  have HLE := hide (fun (O : List Jour) (hO : IsOrd ts O) (k : Nat) (hk : k < ts.length) => cost_le (zs := zs) (xs := xs) hpO hxO hO hsR (List.getElem_mem hk))
  obtain ⟨L1, hL1⟩ : ∃ L1 : List Jour → List Due, L1 = fun O => faresL zs p xs O ts := ⟨_, rfl⟩
  obtain ⟨L2, hL2⟩ : ∃ L2 : List Jour → List Due, L2 = fun O => faresL zs p [] O ts := ⟨_, rfl⟩
  have HLL : Hid (∀ (O : List Jour) (_ : IsOrd ts O) (k : Nat), k < nt → ∃ (t : Jour) (v1 v2 : Int), ts[k]? = some t ∧ (L1 O)[k]? = some ⟨t.ride, v1⟩ ∧ (L2 O)[k]? = some ⟨t.ride, v2⟩ ∧ 0 ≤ v1 ∧ v1 ≤ v2) := hide (fun O hO k hk => by
    have hk' : k < ts.length := by omega
    have h := HLE.out O hO k hk'
    refine ⟨ts[k], _, _, List.getElem?_eq_getElem hk', ?_, ?_, h.1, h.2⟩
    · rw [hL1]; simp [faresL, hk']
    · rw [hL2]; simp [faresL, hk'])
  have e1 : ∀ O, faresL zs p xs O ts = L1 O := fun O => by rw [hL1]
  have e2 : ∀ O, faresL zs p [] O ts = L2 O := fun O => by rw [hL2]
  simp only [e1] at HA
  simp only [e2] at HN
  have H00 := hide h0
  have HNZ := hide hnz
  have HNT := hide hnt
  clear hL1 hL2 e1 e2 HLE hzS hpO hxO hjO hsR h0 hnz hnx hnt hC hjl
  obtain ⟨k0, p1, p2, p3, p4, p5, p6, p7, p8, p9⟩ := p
  dsimp only [aggP] at HA HN
  obtain ⟨g0, g1, g2, g3, g4, g5, g6, g7, g8, g9⟩ := HCH.out.cells wb (Nx.refl wb)
  go_upto_region 6 with (go_at_call 14; refine (HA.out _ (Nx.refl _)).mono ?_; rintro e w1 ⟨O, R, cR, hO, rfl, hR, hn1⟩)
  clear g0 g1 g2 g3 g4 g5 g6 g7 g8 g9 HA
  have HN1 := hide hn1
  have HO := hide hO
  have HR := hide hR
  obtain ⟨g0, g1, g2, g3, g4, g5, g6, g7, g8, g9⟩ := HCH.out.cells w1 HN1.out
  clear hn1 hO hR
  go_upto_region 7 with (go_at_call 14; refine (HN.out _ HN1.out).mono ?_; rintro e w2 ⟨O2, R2, cR2, hO2, rfl, hR2, hn2⟩)
  clear g0 g1 g2 g3 g4 g5 g6 g7 g8 g9 HN
  have hOO : O = O2 := ord_uniq (HO.out.1.trans hO2.1.symm) HO.out.2 hO2.2
  subst hOO
  have HN12 := hide hn2
  have HN2 := hide (HN1.out.trans hn2)
  have HR2 := hide hR2
  clear hn2 hO2 hR2
  have tn : ((nt : Int) != (nt : Int)) = false := by simp
  have tn2 : ((nt : Int) == (nt : Int)) = true := by simp
  go_upto_region 10 with fail
  have HRJ := hide (HCH.out.j.1.nx HN2.out)
  go_loopw [12, 88] (fun _ i wr => ∃ k : Nat, k ≤ nt ∧ i = .int .i64 k ∧ Nx w2 wr) (fun _ i _ => nt - (intOf i).toNat)
  case atStart => exact ⟨0, Nat.zero_le _, rfl, Nx.refl _⟩
  case round =>
    obtain ⟨k, hk, rfl, hnr⟩ := hrel
    by_cases hlt : k < nt
    · obtain ⟨t, v1, v2, hst, hs1, hs2, hv0, hv1⟩ := HLL.out O HO.out k hlt
      obtain ⟨ht1, ht2⟩ := List.getElem?_eq_some_iff.1 hst
      obtain ⟨hl1, hl2⟩ := List.getElem?_eq_some_iff.1 hs1
      obtain ⟨hm1, hm2⟩ := List.getElem?_eq_some_iff.1 hs2
      obtain ⟨bt, ot, rfl, _, hbt, hbtr, hct⟩ := HRJ.out.open_ hnr (by omega)
      obtain ⟨ba, oa, rfl, _, hba, hbar, hca⟩ := HR.out.open_ (HN12.out.trans hnr) (by omega)
      obtain ⟨bn, on_, rfl, _, hbn, hbnr, hcn⟩ := HR2.out.open_ hnr (by omega)
      have c0 : wr.cell? ⟨bt, ot + k * 6, none⟩ = some (.string t.ride) := ht2 ▸ hct k ht1 0 _ rfl
      have c1 : wr.cell? ⟨ba, oa + k * 2, none⟩ = some (.string t.ride) := by have h := hca k hl1 0 _ rfl; rw [hl2] at h; exact h
      have c2 : wr.cell? ⟨ba, oa + k * 2 + 1, none⟩ = some (.int .i64 v1) := by have h := hca k hl1 1 _ rfl; rw [hl2] at h; exact h
      have c3 : wr.cell? ⟨bn, on_ + k * 2, none⟩ = some (.string t.ride) := by have h := hcn k hm1 0 _ rfl; rw [hm2] at h; exact h
      have c4 : wr.cell? ⟨bn, on_ + k * 2 + 1, none⟩ = some (.int .i64 v2) := by have h := hcn k hm1 1 _ rfl; rw [hm2] at h; exact h
      have i1 : (0 : Int) ≤ (k : Int) := by omega
      have i2 : (k : Int) < (nt : Int) := by omega
      have te : (t.ride.toList == t.ride.toList) = true := by simp
      have q1 : ¬ v2 < v1 := by omega
      have q2 : decide (v2 < v1) = false := decide_eq_false q1
      have q3 : ¬ v1 < 0 := by omega
      have q4 : decide (v1 < 0) = false := decide_eq_false q3
      clear hst hs1 hs2 ht2 hl2 hm2 hct hca hcn
      go_wp2_with fail
      go_quiet (fail)
      go_wp2_with fail
      go_roundw
      case rel => exact ⟨k + 1, by omega, by go_num, hnr.drewN _⟩
      case measure => simp [intOf]; omega
    · have ek : nt = k := by omega
      subst ek
      have HNR := hide hnr
      have HCR := hide (HCH.out.nx (HN2.out.trans hnr))
      clear hnr HCH HLL HR HR2 HRJ HN1 HN12 HN2 tn tn2 hlt hk
      obtain ⟨kk, hkk, hss⟩ := HCR.out.st
      have HSS := hide hss
      have hsl := hss.lt
      clear hss
      go_upto_region 15 with fail
      go_cut [13] (fun v wx => ∃ (b13 : Nat) (cap : Int), v = .pointer (some ⟨b13, 0, none⟩) ∧ 0 < cap ∧ cap ≤ 900 ∧ wx.heap[b13]? = some (.cells #[.string ⟨#[112, 122]⟩, .string ⟨#[97, 110, 110]⟩, .int .i64 0, .int .i64 345686400000, .slice none 0 0, .int .i64 100, .int .i64 cap] 55 (0, 0)) ∧ ∃ wq, Gr s wq wx ∧ NbB w wq s D X C b5 zs ⟨k0, p1, p2, p3, p4, p5, p6, p7, p8, p9⟩ xs ts)
      case first =>
        go_wp2_with (go_at_call 15; refine (w_PickI _ [1, 300, 900] _ _ _ _ (HSS.out.nx ((Nx.refl _).alloc _)) (by omega) (hnew rfl) (by omega) rfl (by simp) (by simp)).mono ?_; rintro e w6 ⟨cap, hcap, rfl, hg6, hS6⟩; (have HG6 := hide ((Gr.of_nx ((Nx.refl wr).alloc _)).trans hg6)); (have HS6 := hide hS6); (have HC6 := hide hcap); clear hg6 hS6 hcap)
        go_meet
        have hcc := HC6.out
        simp only [List.mem_cons, List.not_mem_nil, or_false] at hcc
        exact ⟨_, cap, rfl, by omega, by omega, hnew rfl, wr, HG6.out.trans (Gr.of_nx ((Nx.refl w6).alloc _)), HCR.out⟩
      case rest =>
      obtain ⟨b13, cap, rfl, hc0, hc1, hb13, wq, hgq, hCq⟩ := hcut
      obtain ⟨w5, hw5⟩ : ∃ w5, w5 = wc := ⟨_, rfl⟩
      rw [← hw5] at hb13 hgq ⊢
      have HB13 := hide hb13
      have hb13l := (Array.getElem?_eq_some_iff.1 hb13).1
      have HGQ := hide hgq
      have HCQ := hide hCq
      have HPC := hide (fun (W : World) (hn : Nx w5 W) => (show (fun w' : World => w'.cell? ⟨b5, 0, none⟩ = some (.string k0) ∧ w'.cell? ⟨b5, 1, none⟩ = some (.int .i64 p1) ∧ w'.cell? ⟨b5, 2, none⟩ = some (.int .i64 p2) ∧ w'.cell? ⟨b5, 3, none⟩ = some (.int .i64 p3) ∧ w'.cell? ⟨b5, 4, none⟩ = some (.int .i64 p4) ∧ w'.cell? ⟨b5, 5, none⟩ = some (.int .i64 p5) ∧ w'.cell? ⟨b5, 6, none⟩ = some (.int .i64 p6) ∧ w'.cell? ⟨b5, 7, none⟩ = some (.int .i64 p7) ∧ w'.cell? ⟨b5, 8, none⟩ = some (.int .i64 p8) ∧ w'.cell? ⟨b5, 9, none⟩ = some (.int .i64 p9)) W from by
        have hpb := HCQ.out.pb
        have hpb5 := (hgq.block b5 (Array.getElem?_eq_some_iff.1 hpb).1 (by intro e; injection e with e; have := HCQ.out.bs; omega)).trans hpb
        have hb5 := (Array.getElem?_eq_some_iff.1 hpb5).1
        exact ⟨nx_cell hn hb5 (cell_of_row w5 b5 0 _ _ _ hpb5), nx_cell hn hb5 (cell_of_row w5 b5 1 _ _ _ hpb5), nx_cell hn hb5 (cell_of_row w5 b5 2 _ _ _ hpb5), nx_cell hn hb5 (cell_of_row w5 b5 3 _ _ _ hpb5), nx_cell hn hb5 (cell_of_row w5 b5 4 _ _ _ hpb5), nx_cell hn hb5 (cell_of_row w5 b5 5 _ _ _ hpb5), nx_cell hn hb5 (cell_of_row w5 b5 6 _ _ _ hpb5), nx_cell hn hb5 (cell_of_row w5 b5 7 _ _ _ hpb5), nx_cell hn hb5 (cell_of_row w5 b5 8 _ _ _ hpb5), nx_cell hn hb5 (cell_of_row w5 b5 9 _ _ _ hpb5)⟩))
      clear hb13 hgq hCq hw5 HCR HSS HNR
      have hcap : 0 < cap ∧ cap ≤ 1000000000 := ⟨hc0, by omega⟩
      have hFA := fault_ann hcap H00.out
      have HFA := hide hFA
      have HCAP := hide hcap
      have HBI : Hid (∀ (k : Nat), k < 4 → ∀ (g : Nat) (W : World), Nx w5 W → Rd W 0 (some ⟨g, 0, none⟩) 7 encX [annP cap] → Calls Tryz.prog 16 #[.slice D nz c1, .agg #[.string k0, .int .i64 p1, .int .i64 p2, .int .i64 p3, .int .i64 p4, .int .i64 p5, .int .i64 p6, .int .i64 p7, .int .i64 p8, .int .i64 p9], .slice (some ⟨g, 0, none⟩) 1 1, .slice C nt cl, .int .i64 (k : Int)] W fun e w' => ∃ (R : Option Addr) (cR : Nat) (ys : List Due), e = .returned (.tuple #[.slice R ys.length cR, .int .i64 0]) ∧ (∀ d ∈ ys, d.key = ⟨#[97, 110, 110]⟩ → d.cents ≤ cap) ∧ Rd w' 0 R 2 encDue ys ∧ ys.length ≤ 65536 ∧ Nx W w') := hide (fun k hk g W hn hr => by
        have hjl := HCQ.out.jl
        have h := w_annBills D C c1 cl zs ⟨k0, p1, p2, p3, p4, p5, p6, p7, p8, p9⟩ ts cap k g W HCAP.out HCQ.out.zl HCQ.out.pk (((HCQ.out.z.gr HGQ.out (by omega)).low (Nat.zero_le _)).nx hn) (((HCQ.out.j.gr HGQ.out (by omega)).low (Nat.zero_le _)).nx hn) hjl hr hk HFA.out
        rw [HNZ.out, HNT.out] at h
        exact h)
      clear hFA hcap HFA HCAP HPO HJO HSR H00 HNZ HNT
      go_upto_region 17 with fail
      go_loopw [14, 15, 16, 142] (fun _ _ _ i wr => ∃ k : Nat, k ≤ 4 ∧ i = .int .i64 k ∧ Nx w5 wr) (fun _ _ _ i _ => 4 - (intOf i).toNat)
      case atStart => exact ⟨0, Nat.zero_le _, rfl, Nx.refl _⟩
      case round =>
        obtain ⟨k, hk, rfl, hnr⟩ := hrel
        have HNR := hide hnr
        by_cases hlt : k < 4
        · obtain ⟨g0, g1, g2, g3, g4, g5, g6, g7, g8, g9⟩ := HPC.out wr hnr
          have a0 : wr.cell? ⟨b13, 0, none⟩ = some (.string ⟨#[112, 122]⟩) := nx_cell hnr hb13l (cell_of_row w5 b13 0 _ _ _ HB13.out)
          have a1 : wr.cell? ⟨b13, 1, none⟩ = some (.string ⟨#[97, 110, 110]⟩) := nx_cell hnr hb13l (cell_of_row w5 b13 1 _ _ _ HB13.out)
          have a2 : wr.cell? ⟨b13, 2, none⟩ = some (.int .i64 0) := nx_cell hnr hb13l (cell_of_row w5 b13 2 _ _ _ HB13.out)
          have a3 : wr.cell? ⟨b13, 3, none⟩ = some (.int .i64 345686400000) := nx_cell hnr hb13l (cell_of_row w5 b13 3 _ _ _ HB13.out)
          have a4 : wr.cell? ⟨b13, 4, none⟩ = some (.slice none 0 0) := nx_cell hnr hb13l (cell_of_row w5 b13 4 _ _ _ HB13.out)
          have a5 : wr.cell? ⟨b13, 5, none⟩ = some (.int .i64 100) := nx_cell hnr hb13l (cell_of_row w5 b13 5 _ _ _ HB13.out)
          have a6 : wr.cell? ⟨b13, 6, none⟩ = some (.int .i64 cap) := nx_cell hnr hb13l (cell_of_row w5 b13 6 _ _ _ HB13.out)
          have hb13r := Nat.lt_of_lt_of_le hb13l hnr.sz
          have i2 : (k : Int) < 4 := by omega
          clear hnr
          go_wp2_with (first
            | (go_at_call 16; refine (HBI.out k hlt _ _ (HNR.out.trans ((Nx.refl wr).alloc _)) (Rd.lit (hnew rfl) (Nat.zero_le _) (fun _ => rfl) rfl)).mono ?_; rintro e w7 ⟨R, cR, ys, rfl, hy, hR, hyl, hn7⟩; (have hk6 := nx_cell (((Nx.refl wr).alloc _).trans hn7) hb13r a6); (have hb7 := Nat.lt_of_lt_of_le hb13r (((Nx.refl wr).alloc _).trans hn7).sz); (have HY := hide hy); (have HR := hide hR); (have HK6 := hide hk6); clear hy hR hk6)
            | (go_at_call 17; refine (w_ContFNo _ _ eg_nobody 0 R cR ys _ (fun y hy' W hn => w_nobody1 cap y (HY.out y hy') b13 W (nx_cell hn hb7 HK6.out) (Nat.lt_of_lt_of_le hb7 hn.sz)) HR.out hyl).mono ?_; rintro e w8 ⟨rfl, hn8⟩))
          go_roundw
          case rel => exact ⟨k + 1, by omega, by go_num, HNR.out.trans (((Nx.refl wr).alloc _).trans (hn7.trans hn8))⟩
          case measure => simp [intOf]; omega
        · have ek : k = 4 := by omega
          subst ek
          clear hnr hlt hk HBI HPC HB13
          go_wp2_with (go_at_call 13; refine (w_ready _).mono ?_; rintro e w9 ⟨rfl, hn9⟩)
          go_ret
          exact ⟨rfl, Nx.of_gr ((HCQ.out.gr.trans HGQ.out).trans (Gr.of_nx (HNR.out.trans hn9))) HCQ.out.sw⟩
end Go.Proofs.YtncnmadiiaidfaaGreatDoor
