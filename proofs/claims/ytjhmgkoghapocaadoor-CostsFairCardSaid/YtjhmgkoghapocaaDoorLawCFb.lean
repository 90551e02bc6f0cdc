/- jitlaw1.CostsFair, its third part: what a group gains. -/
import Derived.Test.YtjhmgkoghapocaaDoorLawCFc
import Derived.Test.YtjhmgkoghapocaaDoorGain
import Derived.Test.YtjhmgkoghapocaaDoorEqF
namespace Go.Proofs.YtjhmgkoghapocaaDoor
open Go.RowKit Go.Sort Go.Shelf

set_option maxRecDepth 100000 in
set_option maxHeartbeats 8000000 in
theorem st_CF15 {w wc : World} {s k : Nat} {A B D : Option Addr} {c c' c2 : Nat} {l : List ByteArray} {cs : List Int} {ds : List Due} (hg : Gr s w wc) (hS : Str wc s k) (hs : w.heap.size ≤ s) (hk : k < 600000)
    (hR : Rd wc 0 A 1 encS l) (hSm : Small l) (hC : Rd wc 0 B 1 encI cs) (hD : Rd wc 0 D 2 encDue ds) (hl : l.length ≤ 6) (hcl : cs.length ≤ 40) (hdl : ds.length ≤ 6) (u0 u1 u2 u6 u7 u10 u11 u12 u13 u14 u15 u16 u17 u18 u19 u20 u21 u22 u23 u24 u25 u26 u27 u28 u29 u30 u31 u32 u33 u34 u35 u36 u37 u38 u39 u40 u41 u42 u43 u44 u45 u46 u47 u48 u49 u50 u51 u52 u53 u54 u55 u56 u57 u58 u59 u60 u61 u62 u63 u64 u65 u66 u67 u68 u69 u70 u71 u72 u73 u74 u75 u76 u77 u78 u79 u80 u81 u82 u83 u84 u85 u86 u87 u88 u89 u90 u91 u92 u93 u94 u95 u96 u97 u98 u99 u100 u101 u102 u103 u104 u105 u106 u107 u108 u109 u110 u111 u112 u113 u114 u115 u116 u117 u118 u119 u120 u121 u122 u123 u124 u125 u126 u127 u128 u129 u130 u131 u132 u133 u134 u135 u136 u137 u138 u139 u140 u141 u142 u143 u144 u145 u146 u147 u148 u149 u150 u151 u152 u153 u154 u155 u156 u157 u158 u159 u160 u161 u162 u163 u164 u165 u166 u167 u168 u169 u170 u171 u172 u173 : Value) :
    Code.wp Tryd.prog (codeCF 15) (bodyPost Tryd.prog Tryd.f3 (TrueNx w)) ⟨#[u0, u1, u2, .pointer (some ⟨s, 0, none⟩), .slice A l.length c, .slice B cs.length c', u6, u7, .int .i64 (fairF l cs), .slice D ds.length c2, u10, u11, u12, u13, u14, u15, u16, u17, u18, u19, u20, u21, u22, u23, u24, u25, u26, u27, u28, u29, u30, u31, u32, u33, u34, u35, u36, u37, u38, u39, u40, u41, u42, u43, u44, u45, u46, u47, u48, u49, u50, u51, u52, u53, u54, u55, u56, u57, u58, u59, u60, u61, u62, u63, u64, u65, u66, u67, u68, u69, u70, u71, u72, u73, u74, u75, u76, u77, u78, u79, u80, u81, u82, u83, u84, u85, u86, u87, u88, u89, u90, u91, u92, u93, u94, u95, u96, u97, u98, u99, u100, u101, u102, u103, u104, u105, u106, u107, u108, u109, u110, u111, u112, u113, u114, u115, u116, u117, u118, u119, u120, u121, u122, u123, u124, u125, u126, u127, u128, u129, u130, u131, u132, u133, u134, u135, u136, u137, u138, u139, u140, u141, u142, u143, u144, u145, u146, u147, u148, u149, u150, u151, u152, u153, u154, u155, u156, u157, u158, u159, u160, u161, u162, u163, u164, u165, u166, u167, u168, u169, u170, u171, u172, u173], []⟩ wc := by
  conv => arg 2; whnf
  have HL := hide (And.intro hl (And.intro hcl hdl))
  have HSm := hide hSm
  clear hl hcl hdl hSm
  go_upto_if 110 with (first
    | (go_at_call 14; refine (w_Gains _ _ _ _ _ _ _ _ _ _ _ _ _ hR HSm.out hC hD HL.out.1 (by have := HL.out; omega) (by have := HL.out; omega)).mono ?_; rintro e w1 ⟨A1, c1, zs, rfl, hzs, hRz, hn1⟩; (have HZ := hide hzs); clear hzs)
    | (go_at_call 16; refine (w_DuesFault _ _ _ _ _ _ _ _ _ (hR.nx hn1) (hD.nx hn1) (by have := HL.out; omega) (by have := HL.out; omega)).mono ?_; rintro e w2 ⟨rfl, hn2⟩)
    | (go_at_call 15; refine (w_Or2 (fairF l cs) (duesF l ds) _ _ _ (hnew (by simp))).mono ?_; rintro e w3 ⟨rfl, rfl⟩))
  have hn12 := (hn1.trans hn2).alloc (.cells #[.int .i64 (fairF l cs), .int .i64 (duesF l ds)] 30)
  have hRz2 := (hRz.nx hn2).nx ((Nx.refl _).alloc (.cells #[.int .i64 (fairF l cs), .int .i64 (duesF l ds)] 30))
  clear hn1 hn2 hRz
  generalize w2.alloc (.cells #[.int .i64 (fairF l cs), .int .i64 (duesF l ds)] 30) = w2' at *
  go_cut [] (fun wx => Nx w2' wx)
  case first =>
    by_cases h0 : orI [fairF l cs, duesF l ds] = 0
    · have t1 : (orI [fairF l cs, duesF l ds] != 0) = false := by rw [h0]; rfl
      have HF := hide (show fairF l cs = 0 ∧ duesF l ds = 0 by
        unfold orI at h0
        by_cases h1 : fairF l cs = 0
        · rw [if_pos h1] at h0; unfold orI at h0
          by_cases h2 : duesF l ds = 0
          · exact ⟨h1, h2⟩
          · rw [if_neg h2] at h0; exact absurd h0 h2
        · rw [if_neg h1] at h0; exact absurd h0 h1)
      have hze : zs = gainV l cs ds := by have := HZ.out; rw [if_pos h0] at this; exact this
      have hzl : (gainV l cs ds).length ≤ 65536 := by
        have : ∀ (ct cs : List Int) (gs : List Nat), (gainL l ct cs gs).length ≤ l.length := by
          intro ct cs gs
          induction gs with
          | nil => simp [gainL]
          | cons g gs ih => unfold gainL; split; exact whoTo_len l g l.length; exact ih
        have h1 := this (ds.map (·.cents)) cs (List.range (2 ^ l.length))
        have := HL.out
        unfold gainV; omega
      have HGo : ∀ w', Nx w2' w' → Calls Tryd.prog 18 #[.slice A l.length c, .slice B cs.length c', .slice D ds.length c2] w' fun e w'' => ∃ (A' : Option Addr) (c3 : Nat), e = .returned (.slice A' zs.length c3) ∧ Rd w'' w'.heap.size A' 1 encS zs ∧ Nx w' w'' := by
        intro w' hn
        rw [hze]
        exact w_GainsOf _ _ _ _ _ _ _ _ _ _ _ _ _ ((hR.nx hn12).nx hn) ((hC.nx hn12).nx hn) ((hD.nx hn12).nx hn) HL.out.1 HF.out.1 HF.out.2
      have HG := hide HGo
      rw [← hze] at hzl
      have HZL := hide hzl
      clear hzl HGo hze h0 HZ HF
      generalize gainV l cs ds = gv at *
      generalize orI [fairF l cs, duesF l ds] = F0 at *
      go_wp2_with (first
        | (go_at_call 18; refine (HG.out _ (Nx.refl _)).mono ?_; rintro e w4 ⟨A4, c4, rfl, hR4, hn4⟩)
        | (go_at_call 17; refine (w_EqualS _ _ _ _ _ _ _ _ (hRz2.nx hn4) hR4 HZL.out).mono ?_; rintro e w5 ⟨rfl, hn5⟩))
      go_meet
      exact hn4.trans hn5
    · have t1 : (orI [fairF l cs, duesF l ds] != 0) = true := by simpa using h0
      have t2 : (orI [fairF l cs, duesF l ds] != orI [fairF l cs, duesF l ds]) = false := by simp
      obtain rfl : zs = [] := by have := HZ.out; rw [if_neg h0] at this; exact this
      clear h0
      go_wp2
      go_meet
      exact Nx.refl _
  case rest =>
    refine ‹∀ (a : Act) (w_1 : World), Code.wp _ _ _ a w_1 → _› _ _ ?_
    exact st_CF22 (hg.then_nx (hn12.trans hcut)) (hS.nx (hn12.trans hcut)) hs hk _ _ _ _ _ _ _ _ _ _ _ _ _ _ _ _ _ _ _ _ _ _ _ _ _ _ _ _ _ _ _ _ _ _ _ _ _ _ _ _ _ _ _ _ _ _ _ _ _ _ _ _ _ _ _ _ _ _ _ _ _ _ _ _ _ _ _ _ _ _ _ _ _ _ _ _ _ _ _ _ _ _ _ _ _ _ _ _ _ _ _ _ _ _ _ _ _ _ _ _ _ _ _ _ _ _ _ _ _ _ _ _ _ _ _ _ _ _ _ _ _ _ _ _ _ _ _ _ _ _ _ _ _ _ _ _ _ _ _ _ _ _ _ _ _ _ _ _ _ _ _ _ _ _ _ _ _ _ _ _ _ _ _ _ _ _ _ _ _ _ _ _ _
end Go.Proofs.YtjhmgkoghapocaaDoor
