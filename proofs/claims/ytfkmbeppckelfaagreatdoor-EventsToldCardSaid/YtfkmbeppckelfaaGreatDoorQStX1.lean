/- The stream's event, walked. -/
import Derived.Test.YtfkmbeppckelfaaGreatDoorQStV
import Derived.Test.YtfkmbeppckelfaaGreatDoorQG22
import Derived.Deep.DeepCutAuto
import Derived.Deep.RegionHeld
import Derived.RegionTactic
import Derived.Test.YtfkmbeppckelfaaGreatDoorQG26
namespace Go.Proofs.YtfkmbeppckelfaaGreatDoor
open Go.RowKit Go.Maps

theorem TyW.up {s b k m m' : Nat} {B : World → Prop} {w0 w : World} (h : TyW s b k B w0 m w) (hm : m ≤ m') : TyW s b k B w0 m' w := ⟨h.two, h.str.more (by omega), h.box⟩
theorem TyW.nx {s b off k m : Nat} {B : World → Prop} {w0 w w' : World} (h : TyW s b k B w0 m w) (E : EvBox b off B) (hn : Nx w w') : TyW s b k B w0 m w' := ⟨h.two.trans (Two.of_gr (Gr.of_nx hn)), h.str.nx hn, E.same _ _ h.box (hn.block b (E.lt _ h.box)) hn.sz⟩
theorem Two.toGr {s b : Nat} {w w' : World} (h : Two s b w w') (hb : w.heap.size ≤ b) : Gr s w w' :=
  ⟨h.1, h.2.1, h.2.2.1, h.2.2.2.1, fun i hi hne => h.2.2.2.2 i hi (fun e => hne (by rw [e])) (by omega)⟩
section
variable {s b k m : Nat} {B : World → Prop} {w0 w : World}
theorem TyW.drew0 (h : TyW s b k B w0 m w) (E : EvBox b 0 B) : TyW s b k B w0 m w.drew := h.nx E (Nx.refl w).drew
theorem TyW.alloc0 (h : TyW s b k B w0 m w) (E : EvBox b 0 B) (o : Obj) : TyW s b k B w0 m (w.alloc o) := h.nx E ((Nx.refl w).alloc o)
theorem TyW.setS0 (h : TyW s b k B w0 m w) (E : EvBox b 0 B) (hb : s < b) {j : Nat} {t : ByteArray} (hj : j = 0 ∨ j = 4 ∨ j = 5 ∨ j = 6 ∨ j = 9) (ht : t.size ≤ 1000) : TyW s b k B w0 m (w.setCell ⟨b, j, none⟩ (.string t)) := by
  have h1 := h.setS E hb hj ht
  rw [Nat.zero_add] at h1
  exact ⟨h1.two, h.str.row (row := some b) ((Gr.refl b w).setS (p := ⟨b, j, none⟩) (.inl rfl) _) (fun j h => by injection h with h; omega), h1.box⟩
theorem TyW.setI0 (h : TyW s b k B w0 m w) (E : EvBox b 0 B) (hb : s < b) {j : Nat} {z : Int} (hj : j = 1 ∨ j = 2 ∨ j = 3 ∨ j = 7 ∨ j = 8 ∨ j = 10) (hz : -1000000000000000 ≤ z ∧ z ≤ 1000000000000000) : TyW s b k B w0 m (w.setCell ⟨b, j, none⟩ (.int .i64 z)) := by
  have h1 := h.setI E hb hj hz
  rw [Nat.zero_add] at h1
  exact ⟨h1.two, h.str.row (row := some b) ((Gr.refl b w).setS (p := ⟨b, j, none⟩) (.inl rfl) _) (fun j h => by injection h with h; omega), h1.box⟩
theorem TyW.gr0 (h : TyW s b k B w0 m w) (E : EvBox b 0 B) (hb : b ≠ s) {w' : World} (hg : Gr s w w') {k' : Nat} (hS : Str w' s k') (hk : k' ≤ k + 2 * (m + 1)) : TyW s b k B w0 (m + 1) w' := h.gr E hb hg (hS.more hk)
end
theorem cell_setn {w : World} {b i j : Nat} {u : Value} (h : j ≠ i) : (w.setCell ⟨b, i, none⟩ u).cell? ⟨b, j, none⟩ = w.cell? ⟨b, j, none⟩ := World.cell?_setCell_other _ _ _ _ (by intro e; injection e with e1 e2; omega)
theorem Str.setg {w : World} {s k g i : Nat} {u : Value} (h : Str w s k) (hg : s < g) : Str (w.setCell ⟨g, i, none⟩ u) s k := h.row (row := some g) ((Gr.refl g w).setS (p := ⟨g, i, none⟩) (.inl rfl) u) (fun j h => by injection h with h; omega)
theorem Gr.setg {w w' : World} {s g i : Nat} {u : Value} (h : Gr s w w') (hg : w.heap.size ≤ g) : Gr s w (w'.setCell ⟨g, i, none⟩ u) := h.setS (p := ⟨g, i, none⟩) (.inr hg) u
theorem ok_kind {ki : Int} (h : 1 ≤ ki ∧ ki ≤ 9) : okEv ⟨eB, 0, 0, ki, eB, eB, eB, 0, 0, eB, 0⟩ := by
  have he : eB.size ≤ 1000 := by decide
  have hz : (-1000000000000000 : Int) ≤ 0 ∧ (0 : Int) ≤ 1000000000000000 := by decide
  exact ⟨he, he, he, he, he, hz, hz, ⟨by show (-1000000000000000 : Int) ≤ ki; omega, by show ki ≤ (1000000000000000 : Int); omega⟩, hz, hz, hz⟩
/-- An event of the stream's. -/
def EvtOut (s k : Nat) (w : World) (e : Ending) (w' : World) : Prop := ∃ x : Ev, e = .returned (.agg (evA x)) ∧ okEv x ∧ Gr s w w' ∧ Str w' s (k + 400)
/-- What stands fast while the event is filled in. -/
structure EvC (lo : Nat) (A : Option Addr) (c : Nat) (l : List Ev) (n : Nat) (at_ : Int) (s k : Nat) (w : World) (b g6 : Nat) (w9 : World) : Prop where
  hR : Rd w lo A 11 encEvt l
  hsl : s < lo
  hn : n = l.length
  hl : n ≤ 40
  hok : ∀ x ∈ l, okEv x
  hat : -1000000000000 ≤ at_ ∧ at_ ≤ 1000000000000
  hk : k < 700000
  hwb : w.heap.size ≤ b
  hsb : s < b
  hwg : w.heap.size ≤ g6
  hsg : s < g6
  hgb : g6 < b
  tw : Two s b w w9
  g6b : w9.heap[g6]? = some (.cells #[.string ⟨#[]⟩, .int .i64 0, .int .i64 0, .int .i64 0, .string ⟨#[]⟩, .string ⟨#[]⟩, .string ⟨#[]⟩, .int .i64 0, .int .i64 0, .string ⟨#[]⟩, .int .i64 0] 31 (0, 0))
noncomputable def codeEV (r : Nat) : Code := fromReg r (Tryz.f39.body.getD .skip)
set_option maxRecDepth 100000 in
set_option maxHeartbeats 1000000 in
theorem st_e34 {lo : Nat} {A : Option Addr} {c : Nat} {l : List Ev} {n : Nat} {at_ : Int} {s k : Nat} {w : World} {b g6 : Nat} {w9 : World} (hC : EvC lo A c l n at_ s k w b g6 w9) {w20 : World} (hcut : TyW s b (k + 150) (BoxE b) w9 40 w20) {ride2 car2 : ByteArray} {want : Int} {u3 u4 u5 u11 u12 u13 u14 u15 u16 u17 u18 u19 u20 u21 u22 u23 u24 u25 u26 u27 u28 u29 u30 u31 u32 u33 u34 u35 u36 u37 u38 u39 u40 u41 u42 u43 u44 u45 u46 u47 u48 u49 u50 u51 u52 u53 u54 u55 u56 u57 u58 u59 u60 u61 u62 u63 u64 u65 u66 u67 u68 u69 u70 u71 u72 u73 u74 u75 u76 u77 u78 u79 u80 u81 u82 u83 u84 u85 u86 u87 u88 u89 u90 u91 u92 u93 u94 u95 u96 u97 u98 u99 u100 u101 u102 u103 u104 u105 u106 u107 u108 u109 u110 u111 u112 u113 u114 u115 u116 u117 u118 u119 u120 u121 u122 u123 u124 u125 u126 u127 u128 u129 u130 u131 u132 u133 u134 u135 u136 u137 u138 u139 u140 u141 u142 u143 u144 u145 u146 u147 u148 u149 u150 u151 u152 u153 u154 u155 u156 u157 u158 u159 u160 u161 u162 u163 u164 u165 u166 u167 u168 u169 u170 u171 u172 u173 u174 u175 u176 u177 u178 u179 u180 u181 u182 u183 u184 u185 : Value} :
    Code.wp Tryz.prog (codeEV 34) (bodyPost Tryz.prog Tryz.f39 (EvtOut s k w)) ⟨#[.pointer (some ⟨s, 0, none⟩), .slice A n c, .int .i64 at_, u3, u4, u5, .pointer (some ⟨g6, 0, none⟩), .pointer (some ⟨b, 0, none⟩), .string ride2, .string car2, .int .i64 want, u11, u12, u13, u14, u15, u16, u17, u18, u19, u20, u21, u22, u23, u24, u25, u26, u27, u28, u29, u30, u31, u32, u33, u34, u35, u36, u37, u38, u39, u40, u41, u42, u43, u44, u45, u46, u47, u48, u49, u50, u51, u52, u53, u54, u55, u56, u57, u58, u59, u60, u61, u62, u63, u64, u65, u66, u67, u68, u69, u70, u71, u72, u73, u74, u75, u76, u77, u78, u79, u80, u81, u82, u83, u84, u85, u86, u87, u88, u89, u90, u91, u92, u93, u94, u95, u96, u97, u98, u99, u100, u101, u102, u103, u104, u105, u106, u107, u108, u109, u110, u111, u112, u113, u114, u115, u116, u117, u118, u119, u120, u121, u122, u123, u124, u125, u126, u127, u128, u129, u130, u131, u132, u133, u134, u135, u136, u137, u138, u139, u140, u141, u142, u143, u144, u145, u146, u147, u148, u149, u150, u151, u152, u153, u154, u155, u156, u157, u158, u159, u160, u161, u162, u163, u164, u165, u166, u167, u168, u169, u170, u171, u172, u173, u174, u175, u176, u177, u178, u179, u180, u181, u182, u183, u184, u185], []⟩ w20 := by
  conv => arg 2; whnf
  dsimp only
  have EB := boxE_ev b
  have hsb := hC.hsb
  have hbs : b ≠ s := by omega
  have hk := hC.hk
  have hl := hC.hl
  have hat := hC.hat
  have hsl := hC.hsl
  have hwb := hC.hwb
  have hsg6 := hC.hsg
  have hwg := hC.hwg
  have hgs6 : g6 ≠ s := by omega
  have HGB := hide hC.hgb
  have HR := hide hC.hR
  have HN := hide hC.hn
  have HOK := hide hC.hok
  have HTW := hide hC.tw
  have HG69 := hide hC.g6b
  clear hC
  have HT20 := hide hcut
  clear hcut
  refine wp_seq_k ?_
  intro Kt hKt
  go_cut [] (fun wx => TyW s b (k + 150) (BoxE b) w9 80 wx)
  case first =>
    go_wp2_with fail
    refine (w_Flip 60 s _ _ HT20.out.str (by omega) (by omega)).mono ?_
    rintro e w21' ⟨bo, rfl, hg21', hS21'⟩
    have HT21' := hide (HT20.out.gr0 EB hbs hg21' hS21' (by omega))
    clear hg21' hS21'
    cases bo with
    | false =>
      go_wp2_with fail
      go_meet
      exact HT21'.out.up (by omega)
    | true =>
      go_wp2_with fail
      refine (w_Next 4 s _ _ HT21'.out.str (by omega) (by omega)).mono ?_
      rintro e w21 ⟨r, hr1, hr2, rfl, hg21, hS21⟩
      have HT21 := hide (HT21'.out.gr0 EB hbs hg21 hS21 (by omega))
      obtain ⟨x, hxo, hB21⟩ := HT21.out.box
      have HXO := hide hxo
      obtain ⟨xso, xno, xat, xki, xri, xca, xnd, xup, xdn, xfo, xnu⟩ := x
      have HB21 := hide (show w21.heap[b]? = some (.cells #[.string xso, .int .i64 xno, .int .i64 xat, .int .i64 xki, .string xri, .string xca, .string xnd, .int .i64 xup, .int .i64 xdn, .string xfo, .int .i64 xnu] 31 (0, 0)) from hB21)
      have hbl21 := (Array.getElem?_eq_some_iff.1 hB21).1
      clear hg21 hS21 hB21 hxo
      have hrr : r = 0 ∨ r = 1 ∨ r = 2 ∨ r = 3 := by omega
      rcases hrr with rfl | rfl | rfl | rfl
      · go_wp2_with (go_at_call 76; refine (w_Odd 1 9 s _ _ HT21.out.str (by omega) (by omega) (by omega)).mono ?_; rintro e w22 ⟨od, hr22a, hr22b, rfl, hg22, hs22⟩; (have hT22 := hide (TyW.gr0 HT21.out EB hbs hg22 hs22 (by omega))); (have hgA22 := hide ((Gr.refl s w21).trans hg22)); (have hB22 := hide ((hgA22.out.block b hbl21 (by intro e; injection e with e; exact hbs e)).trans HB21.out)); (obtain ⟨d0, d1, d2, d3, d4, d5, d6, d7, d8, d9, d10⟩ := evb_cells hB22.out); (have zz22 : ∀ i, w22.frozen? ⟨b, i, none⟩ = false := fun i => by { simp [World.frozen?, hB22.out] }); (have hbl22 := (Array.getElem?_eq_some_iff.1 hB22.out).1); clear hg22 hs22)
        go_meet
        exact (hT22.out.setI0 EB hsb (j := 3) (by decide) (by omega)).up (by omega)
      · go_upto_region 40 with fail
        refine ty_e40 (w0 := w9) (k := k + 150 + 2 * 42) EB hsb (by omega) rfl rfl rfl ⟨HT21.out.two, HT21.out.str, HT21.out.box⟩ ?_
        intro f w22 hW22
        simp only [ty_e40D, List.foldl, List.setIfInBounds_toArray, List.set_cons_zero, List.set_cons_succ]
        go_wp2
        go_meet
        exact ⟨hW22.two, hW22.str.more (by omega), hW22.box⟩
      · go_upto_region 42 with fail
        refine ty_e42 (w0 := w9) (k := k + 150 + 2 * 42) EB hsb (by omega) rfl rfl rfl (fun w => ⟨at_, rfl, by omega, by omega⟩) ⟨HT21.out.two, HT21.out.str, HT21.out.box⟩ ?_
        intro f w22 hW22
        simp only [ty_e42D, List.foldl, List.setIfInBounds_toArray, List.set_cons_zero, List.set_cons_succ]
        go_wp2
        go_meet
        exact ⟨hW22.two, hW22.str.more (by omega), hW22.box⟩
      · go_wp2_with (first
          | (go_at_call 76; refine (w_Odd 0 3000 s _ _ HT21.out.str (by omega) (by omega) (by omega)).mono ?_; rintro e w22 ⟨od, hr22a, hr22b, rfl, hg22, hs22⟩; (have hT22 := hide (TyW.gr0 HT21.out EB hbs hg22 hs22 (by omega))); (have hgA22 := hide ((Gr.refl s w21).trans hg22)); (have hB22 := hide ((hgA22.out.block b hbl21 (by intro e; injection e with e; exact hbs e)).trans HB21.out)); (obtain ⟨d0, d1, d2, d3, d4, d5, d6, d7, d8, d9, d10⟩ := evb_cells hB22.out); (have zz22 : ∀ i, w22.frozen? ⟨b, i, none⟩ = false := fun i => by { simp [World.frozen?, hB22.out] }); (have hbl22 := (Array.getElem?_eq_some_iff.1 hB22.out).1); clear hg22 hs22)
          | (go_at_call 40; refine (w_Some _ [⟨#[]⟩, ⟨#[115, 97]⟩] _ s _ _ (hT22.out.str.nx ((Nx.refl _).alloc _)) (by omega) (hnew rfl) (by have := hT22.out.str.lt; omega) rfl (by simp) (by simp)).mono ?_; rintro e w23 ⟨fo3, hm23, rfl, hg23, hs23⟩; (have hz23 : fo3.size ≤ 1000 := by { simp only [List.mem_cons, List.not_mem_nil, or_false] at hm23; rcases hm23 with rfl | rfl <;> decide }); (have hT23 := hide ((TyW.alloc0 hT22.out EB _).gr0 EB hbs hg23 hs23 (by omega))); (have hgA23 := hide (hgA22.out.trans ((Gr.of_nx ((Nx.refl _).alloc _)).trans hg23))); (have hB23 := hide ((hgA23.out.block b hbl21 (by intro e; injection e with e; exact hbs e)).trans HB21.out)); (obtain ⟨d0, d1, d2, d3, d4, d5, d6, d7, d8, d9, d10⟩ := evb_cells hB23.out); (have zz23 : ∀ i, w23.frozen? ⟨b, i, none⟩ = false := fun i => by { simp [World.frozen?, hB23.out] }); (have hbl23 := (Array.getElem?_eq_some_iff.1 hB23.out).1); clear hm23 hg23 hs23))
        go_meet
        exact ((hT23.out.setI0 EB hsb (j := 10) (by decide) (by omega)).setS0 EB hsb (j := 9) (by decide) hz23).up (by omega)
  case rest =>
    refine hKt _ _ ?_
    obtain ⟨w30, hw30⟩ : ∃ w30, w30 = wc := ⟨_, rfl⟩
    rw [← hw30] at hcut ⊢
    have HT30 := hide hcut
    clear hw30 hcut hKt
    obtain ⟨x, hxo, hB30⟩ := HT30.out.box
    have HXO := hide hxo
    obtain ⟨xso, xno, xat, xki, xri, xca, xnd, xup, xdn, xfo, xnu⟩ := x
    have hB30' : w30.heap[b]? = some (.cells #[.string xso, .int .i64 xno, .int .i64 xat, .int .i64 xki, .string xri, .string xca, .string xnd, .int .i64 xup, .int .i64 xdn, .string xfo, .int .i64 xnu] 31 (0, 0)) := hB30
    obtain ⟨d0, d1, d2, d3, d4, d5, d6, d7, d8, d9, d10⟩ := evb_cells hB30'
    have hbl30 := (Array.getElem?_eq_some_iff.1 hB30').1
    have hG6a := HG69.out
    have hgl9 := (Array.getElem?_eq_some_iff.1 hG6a).1
    have hg6b2 : g6 ≠ b := by have := HGB.out; omega
    have hG6 := (HT30.out.two.2.2.2.2 g6 hgl9 hgs6 hg6b2).trans hG6a
    obtain ⟨y0, y1, y2, y3, y4, y5, y6, y7, y8, y9, y10⟩ := evb_cells hG6
    have hgl30 := (Array.getElem?_eq_some_iff.1 hG6).1
    have hfz : ∀ i, w30.frozen? ⟨g6, i, none⟩ = false := fun i => by simp [World.frozen?, hG6]
    have HGF := hide ((HTW.out.trans HT30.out.two).toGr hwb)
    have HSF := hide HT30.out.str
    have HG6' := hide hG6
    clear hB30 hB30' hG6 hG6a hxo
    go_wp2_with fail
    exact bodyPost_ret (v := .agg #[.string xso, .int .i64 xno, .int .i64 xat, .int .i64 xki, .string xri, .string xca, .string xnd, .int .i64 xup, .int .i64 xdn, .string xfo, .int .i64 xnu]) (by simp [results, Tryz.results39, go_sem, y0, y1, y2, y3, y4, y5, y6, y7, y8, y9, y10]) rfl ⟨⟨xso, xno, xat, xki, xri, xca, xnd, xup, xdn, xfo, xnu⟩, rfl, HXO.out, by repeat (first | with_reducible exact HGF.out | with_reducible refine Gr.setg ?_ hwg), by refine Str.more (k := k + 150 + 2 * 80) ?_ (by omega); repeat (first | with_reducible exact HSF.out | with_reducible refine Str.setg ?_ hsg6)⟩
set_option maxRecDepth 100000 in
set_option maxHeartbeats 1000000 in
theorem st_eK1 {lo : Nat} {A : Option Addr} {c : Nat} {l : List Ev} {n : Nat} {at_ : Int} {s k : Nat} {w : World} {b g6 : Nat} {w9 : World} (hC : EvC lo A c l n at_ s k w b g6 w9) (hB9 : w9.heap[b]? = some (.cells #[.string ⟨#[]⟩, .int .i64 0, .int .i64 0, .int .i64 1, .string ⟨#[]⟩, .string ⟨#[]⟩, .string ⟨#[]⟩, .int .i64 0, .int .i64 0, .string ⟨#[]⟩, .int .i64 0] 31 (0, 0))) (hS9 : Str w9 s (k + 150)) {ride2 car2 : ByteArray} (hr2 : ride2.size ≤ 1000) (_ : car2.size ≤ 1000) {want : Int} {u3 u4 u5 u11 u12 u13 u14 u15 u16 u17 u18 u19 u20 u21 u22 u23 u24 u25 u26 u27 u28 u29 u30 u31 u32 u33 u34 u35 u36 u37 u38 u39 u40 u41 u42 u43 u44 u45 u46 u47 u48 u49 u50 u51 u52 u53 u54 u55 u56 u57 u58 u59 u60 u61 u62 u63 u64 u65 u66 u67 u68 u69 u70 u71 u72 u73 u74 u75 u76 u77 u78 u79 u80 u81 u82 u83 u84 u85 u86 u87 u88 u89 u90 u91 u92 u93 u94 u95 u96 u97 u98 u99 u100 u101 u102 u103 u104 u105 u106 u107 u108 u109 u110 u111 u112 u113 u114 u115 u116 u117 u118 u119 u120 u121 u122 u123 u124 u125 u126 u127 u128 u129 u130 u131 u132 u133 u134 u135 u136 u137 u138 u139 u140 u141 u142 u143 u144 u145 u146 u147 u148 u149 u150 u151 u152 u153 u154 u155 u156 u157 u158 u159 u160 u161 u162 u163 u164 u165 u166 u167 u168 u169 u170 u171 u172 u173 u174 u175 u176 u177 u178 u179 u180 u181 u182 u183 u184 u185 : Value} :
    Code.wp Tryz.prog (codeEV 13) (bodyPost Tryz.prog Tryz.f39 (EvtOut s k w)) ⟨#[.pointer (some ⟨s, 0, none⟩), .slice A n c, .int .i64 at_, u3, u4, u5, .pointer (some ⟨g6, 0, none⟩), .pointer (some ⟨b, 0, none⟩), .string ride2, .string car2, .int .i64 want, u11, u12, u13, u14, u15, u16, u17, u18, u19, u20, u21, u22, u23, u24, u25, u26, u27, u28, u29, u30, u31, u32, u33, u34, u35, u36, u37, u38, u39, u40, u41, u42, u43, u44, u45, u46, u47, u48, u49, u50, u51, u52, u53, u54, u55, u56, u57, u58, u59, u60, u61, u62, u63, u64, u65, u66, u67, u68, u69, u70, u71, u72, u73, u74, u75, u76, u77, u78, u79, u80, u81, u82, u83, u84, u85, u86, u87, u88, u89, u90, u91, u92, u93, u94, u95, u96, u97, u98, u99, u100, u101, u102, u103, u104, u105, u106, u107, u108, u109, u110, u111, u112, u113, u114, u115, u116, u117, u118, u119, u120, u121, u122, u123, u124, u125, u126, u127, u128, u129, u130, u131, u132, u133, u134, u135, u136, u137, u138, u139, u140, u141, u142, u143, u144, u145, u146, u147, u148, u149, u150, u151, u152, u153, u154, u155, u156, u157, u158, u159, u160, u161, u162, u163, u164, u165, u166, u167, u168, u169, u170, u171, u172, u173, u174, u175, u176, u177, u178, u179, u180, u181, u182, u183, u184, u185], []⟩ w9 := by
  have hC0 := hide hC
  conv => arg 2; whnf
  dsimp only
  have EB := boxE_ev b
  have hsb := hC.hsb
  have hbs : b ≠ s := by omega
  have hk := hC.hk
  have hl := hC.hl
  have hat := hC.hat
  have hsl := hC.hsl
  have hwb := hC.hwb
  have hsg6 := hC.hsg
  have hwg := hC.hwg
  have hgs6 : g6 ≠ s := by omega
  have HGB := hide hC.hgb
  have HR := hide hC.hR
  have HN := hide hC.hn
  have HOK := hide hC.hok
  have HTW := hide hC.tw
  have HG69 := hide hC.g6b
  clear hC
  have hT9 : TyW s b (k + 150) (BoxE b) w9 0 w9 := ⟨Two.refl _ _ _, hS9, ⟨_, ok_kind (ki := 1) (by omega), hB9⟩⟩
  have HT9 := hide hT9
  have HB9 := hide hB9
  have x3 : w9.cell? ⟨b, 3, none⟩ = some (.int .i64 1) := cell_of_row w9 _ 3 _ _ _ HB9.out
  have hbl9 := (Array.getElem?_eq_some_iff.1 HB9.out).1
  have hcell : ∀ i v, (evA ⟨eB, 0, 0, 1, eB, eB, eB, 0, 0, eB, 0⟩)[i]? = some v → w9.cell? ⟨b, i, none⟩ = some v := fun i v h => (cell_of_row w9 b i _ _ _ HB9.out).trans h
  have z : ∀ i, w9.frozen? ⟨b, i, none⟩ = false := fun i => by simp [World.frozen?, HB9.out]
  have a4 := hcell 4 _ rfl
  have a5 := hcell 5 _ rfl
  have a6 := hcell 6 _ rfl
  have a7 := hcell 7 _ rfl
  have a8 := hcell 8 _ rfl
  have a9 := hcell 9 _ rfl
  have a10 := hcell 10 _ rfl
  clear hcell hT9 hB9 hS9
  go_upto_region 13 with fail
  go_cut [55] (fun v wx => v = .int .i64 1 ∧ wx = w9)
  case first =>
    go_wp2_with fail
    go_meet
    exact ⟨rfl, rfl⟩
  case rest =>
  obtain ⟨rfl, hwc⟩ := hcut
  rw [hwc]
  clear hwc
  refine ‹∀ (a : Act) (w_1 : World), Code.wp _ _ _ a w_1 → _› _ _ ?_
  go_cut [] (fun wx => TyW s b (k + 150) (BoxE b) w9 40 wx)
  case first =>
    go_upto_region 16 with (go_at_call 15; refine (w_PickI _ [0, 10, 50] _ s _ _ (HT9.out.str.nx ((Nx.refl _).alloc _)) (by omega) (hnew rfl) (by have := HT9.out.str.lt; omega) rfl (by simp) (by simp)).mono ?_; rintro e w10 ⟨z1, hm10, rfl, hg10, hs10⟩; (have hz10 : 0 ≤ z1 ∧ z1 ≤ 50 := by { simp only [List.mem_cons, List.not_mem_nil, or_false] at hm10; omega }); (have hT10 := hide ((TyW.alloc0 HT9.out EB _).gr0 EB hbs hg10 hs10 (by omega))); (have hgA10 := hide ((Gr.refl s w9).trans ((Gr.of_nx ((Nx.refl _).alloc _)).trans hg10))); (have hB10 := hide ((hgA10.out.block b hbl9 (by intro e; injection e with e; exact hbs e)).trans HB9.out)); (obtain ⟨d0, d1, d2, d3, d4, d5, d6, d7, d8, d9, d10⟩ := evb_cells hB10.out); (have zz10 : ∀ i, w10.frozen? ⟨b, i, none⟩ = false := fun i => by { simp [World.frozen?, hB10.out] }); (have hbl10 := (Array.getElem?_eq_some_iff.1 hB10.out).1); (have hW10 : IntKind.i64.wrap (at_ + z1) = at_ + z1 := IntWalk.i64_in _ (by omega)); clear hm10 hg10 hs10)
    obtain ⟨up1, hup1⟩ : ∃ up1, up1 = at_ + z1 := ⟨_, rfl⟩
    have hub : -1000000000000 ≤ up1 ∧ up1 ≤ 1000000000050 := by omega
    rw [← hup1]
    obtain ⟨w11, hw11⟩ : ∃ w11, w11 = (w10.setCell ⟨b, 4, none⟩ (.string ride2)).setCell ⟨b, 7, none⟩ (.int .i64 up1) := ⟨_, rfl⟩
    rw [← hw11]
    have hT11 : TyW s b (k + 150) (BoxE b) w9 1 w11 := by rw [hw11]; exact ((hT10.out.setS0 EB hsb (j := 4) (by decide) hr2).setI0 EB hsb (j := 7) (by decide) (by omega))
    have hB11 := heap_set (i := 7) (u := .int .i64 up1) (heap_set (i := 4) (u := .string ride2) hB10.out)
    rw [← hw11] at hB11
    have c7 : w11.cell? ⟨b, 7, none⟩ = some (.int .i64 up1) := cell_of_row w11 _ 7 _ _ _ hB11
    have hbl11 := (Array.getElem?_eq_some_iff.1 hB11).1
    have HT11 := hide hT11
    have HC7 := hide c7
    have HB11 := hide hB11
    clear hw11 hup1 hW10 hT11 hB11 c7 d0 d1 d2 d3 d4 d5 d6 d7 d8 d9 d10 zz10
    have hx : Gr s w11 w11.drew := (Gr.refl s w11).drew
    have HCS := hide (fun W (hx : Gr s w11 W) => (World.grownBy.cell (row := some s) hx HC7.out (by simpa using hbs) : W.cell? ⟨b, 7, none⟩ = some (.int .i64 up1)))
    refine wp_region_held_drew (S := fun W => W.cell? ⟨b, 7, none⟩ = some (.int .i64 up1)) (by kernel_rfl) (HCS.out _ hx) (fun hHeld => ?_)
    have hTd := HT11.out.drew0 EB
    generalize w11.drew = wd at *
    refine wpAnyH_take (i := 0) (oi := ⟨some 66, _, _, _, _, _⟩) (v := ?_) rfl (by kernel_rfl) (by kernel_rfl) (by kernel_rfl) (fun _ _ _ h => h) (Or.inl ⟨by rfl, ?_⟩) (by assumption) ?_
    rotate_left 1
    · intro w hSw
      (try dsimp only at hSw)
      go_simp
      try with_reducible rfl
    try simp only [Act.put, List.setIfInBounds_toArray, List.set_cons_zero, List.set_cons_succ]
    refine wpAnyH_take (i := 1) (oi := ⟨some 67, _, _, _, _, _⟩) (v := ?_) rfl (by kernel_rfl) (by kernel_rfl) (by kernel_rfl) (fun _ _ _ h => h) (Or.inl ⟨by rfl, ?_⟩) (by assumption) ?_
    rotate_left 1
    · intro w hSw
      (try dsimp only at hSw)
      go_simp
      try with_reducible rfl
    try simp only [Act.put, List.setIfInBounds_toArray, List.set_cons_zero, List.set_cons_succ]
    refine wpAnyH_take (i := 2) (oi := ⟨some 68, _, _, _, _, _⟩) (v := ?_) rfl (by kernel_rfl) (by kernel_rfl) (by kernel_rfl) (fun _ _ _ h => h) (Or.inl ⟨by rfl, ?_⟩) (by assumption) ?_
    rotate_left 1
    · intro w hSw
      (try dsimp only at hSw)
      go_simp
      try with_reducible rfl
    try simp only [Act.put, List.setIfInBounds_toArray, List.set_cons_zero, List.set_cons_succ]
    refine wpAnyH_ready (rs := [3]) (by kernel_rfl) (by simp) ?_
    refine AllReadyH.cons rfl (fun K hK => ?_) AllReadyH.nil
    go_simp
    have hTe := hTd.alloc0 EB (.cells #[.int .i64 0, .int .i64 10, .int .i64 100] 3 (0, 0))
    have hxe := hx.alloc (.cells #[.int .i64 0, .int .i64 10, .int .i64 100] 3 (0, 0))
    obtain ⟨P, hP⟩ : ∃ P, P = wd.heap.size := ⟨_, rfl⟩
    have HLB := hide (hnew hP : (wd.alloc (.cells #[.int .i64 0, .int .i64 10, .int .i64 100] 3 (0, 0))).heap[P]? = some (.cells #[.int .i64 0, .int .i64 10, .int .i64 100] 3 (0, 0)))
    have hPs : P ≠ s := by have := hTd.str.lt; omega
    rw [← hP]
    clear hP
    generalize wd.alloc (.cells #[.int .i64 0, .int .i64 10, .int .i64 100] 3 (0, 0)) = we at *
    refine hK.out _ _ (HCS.out _ hxe) (fun hHeld => ?_)
    clear hK K
    try simp only [Act.put, List.setIfInBounds_toArray, List.set_cons_zero, List.set_cons_succ]
    refine wpAnyH_ready (rs := [4]) (by kernel_rfl) (by simp) ?_
    refine AllReadyH.cons rfl (fun K hK => ?_) AllReadyH.nil
    go_simp
    go_at_call 15
    refine (w_PickI P [0, 10, 100] _ s _ we hTe.str (by omega) HLB.out hPs rfl (by simp) (by simp)).mono ?_
    rintro e wf ⟨z2, hm2, rfl, hgf, hsf⟩
    have hz2 : 0 ≤ z2 ∧ z2 ≤ 100 := by { simp only [List.mem_cons, List.not_mem_nil, or_false] at hm2; omega }
    have hTf := hTe.gr0 EB hbs hgf hsf (by omega)
    have hxf := hxe.trans hgf
    have hw2 : IntKind.i64.wrap (up1 + z2) = up1 + z2 := IntWalk.i64_in _ (by omega)
    clear hgf hsf hm2
    go_simp
    refine hK.out _ _ (HCS.out _ hxf) (fun hHeld => ?_)
    clear hK K
    try simp only [Act.put, List.setIfInBounds_toArray, List.set_cons_zero, List.set_cons_succ]
    refine wpAnyH_take (i := 5) (oi := ⟨some 71, _, _, _, _, _⟩) (v := ?_) rfl (by kernel_rfl) (by kernel_rfl) (by kernel_rfl) (fun _ _ _ h => h) (Or.inl ⟨by rfl, ?_⟩) (by assumption) ?_
    rotate_left 1
    · intro w hSw
      (try dsimp only at hSw)
      go_simp
      try with_reducible rfl
    try simp only [Act.put, List.setIfInBounds_toArray, List.set_cons_zero, List.set_cons_succ]
    refine wpAnyH_take (i := 6) (oi := ⟨some 72, _, _, _, _, _⟩) (v := ?_) rfl (by kernel_rfl) (by kernel_rfl) (by kernel_rfl) (fun _ _ _ h => h) (Or.inl ⟨by rfl, ?_⟩) (by assumption) ?_
    rotate_left 1
    · intro w hSw
      (try dsimp only at hSw)
      go_simp
      try with_reducible rfl
    try simp only [Act.put, List.setIfInBounds_toArray, List.set_cons_zero, List.set_cons_succ]
    have hBf := (hxf.block b hbl11 (by intro e; injection e with e; exact hbs e)).trans HB11.out
    have c8 : wf.cell? ⟨b, 8, none⟩ = some (.int .i64 0) := cell_of_row wf _ 8 _ _ _ hBf
    have z8 : wf.frozen? ⟨b, 8, none⟩ = false := by simp [World.frozen?, hBf]
    have hblf := (Array.getElem?_eq_some_iff.1 hBf).1
    have hTg := hide ((hTf.setI0 EB hsb (j := 8) (z := up1 + z2) (by decide) (by omega)).up (show 2 ≤ 40 by omega))
    have HCF := hide (HCS.out _ hxf)
    clear hBf
    refine wpAnyH_ready (rs := [7]) (by kernel_rfl) (by simp) ?_
    refine AllReadyH.cons rfl (fun K hK => ?_) AllReadyH.nil
    go_simp
    refine hK.out _ _ (by (try dsimp only); rw [cell_setn (show 7 ≠ 8 by decide)]; exact HCF.out) (fun hHeld => ?_)
    clear hK K
    try simp only [Act.put, List.setIfInBounds_toArray, List.set_cons_zero, List.set_cons_succ]
    refine wpAnyH_done (by kernel_rfl) ?_ _
    go_wp2
    go_meet
    exact hTg.out
  case rest =>
    refine ‹∀ (a : Act) (w_1 : World), Code.wp _ _ _ a w_1 → _› _ _ ?_
    exact st_e34 hC0.out hcut
set_option maxRecDepth 100000 in
set_option maxHeartbeats 1000000 in
theorem st_eK2 {lo : Nat} {A : Option Addr} {c : Nat} {l : List Ev} {n : Nat} {at_ : Int} {s k : Nat} {w : World} {b g6 : Nat} {w9 : World} (hC : EvC lo A c l n at_ s k w b g6 w9) (hB9 : w9.heap[b]? = some (.cells #[.string ⟨#[]⟩, .int .i64 0, .int .i64 0, .int .i64 2, .string ⟨#[]⟩, .string ⟨#[]⟩, .string ⟨#[]⟩, .int .i64 0, .int .i64 0, .string ⟨#[]⟩, .int .i64 0] 31 (0, 0))) (hS9 : Str w9 s (k + 150)) {ride2 car2 : ByteArray} (hr2 : ride2.size ≤ 1000) (hc2 : car2.size ≤ 1000) {want : Int} {u3 u4 u5 u11 u12 u13 u14 u15 u16 u17 u18 u19 u20 u21 u22 u23 u24 u25 u26 u27 u28 u29 u30 u31 u32 u33 u34 u35 u36 u37 u38 u39 u40 u41 u42 u43 u44 u45 u46 u47 u48 u49 u50 u51 u52 u53 u54 u55 u56 u57 u58 u59 u60 u61 u62 u63 u64 u65 u66 u67 u68 u69 u70 u71 u72 u73 u74 u75 u76 u77 u78 u79 u80 u81 u82 u83 u84 u85 u86 u87 u88 u89 u90 u91 u92 u93 u94 u95 u96 u97 u98 u99 u100 u101 u102 u103 u104 u105 u106 u107 u108 u109 u110 u111 u112 u113 u114 u115 u116 u117 u118 u119 u120 u121 u122 u123 u124 u125 u126 u127 u128 u129 u130 u131 u132 u133 u134 u135 u136 u137 u138 u139 u140 u141 u142 u143 u144 u145 u146 u147 u148 u149 u150 u151 u152 u153 u154 u155 u156 u157 u158 u159 u160 u161 u162 u163 u164 u165 u166 u167 u168 u169 u170 u171 u172 u173 u174 u175 u176 u177 u178 u179 u180 u181 u182 u183 u184 u185 : Value} :
    Code.wp Tryz.prog (codeEV 13) (bodyPost Tryz.prog Tryz.f39 (EvtOut s k w)) ⟨#[.pointer (some ⟨s, 0, none⟩), .slice A n c, .int .i64 at_, u3, u4, u5, .pointer (some ⟨g6, 0, none⟩), .pointer (some ⟨b, 0, none⟩), .string ride2, .string car2, .int .i64 want, u11, u12, u13, u14, u15, u16, u17, u18, u19, u20, u21, u22, u23, u24, u25, u26, u27, u28, u29, u30, u31, u32, u33, u34, u35, u36, u37, u38, u39, u40, u41, u42, u43, u44, u45, u46, u47, u48, u49, u50, u51, u52, u53, u54, u55, u56, u57, u58, u59, u60, u61, u62, u63, u64, u65, u66, u67, u68, u69, u70, u71, u72, u73, u74, u75, u76, u77, u78, u79, u80, u81, u82, u83, u84, u85, u86, u87, u88, u89, u90, u91, u92, u93, u94, u95, u96, u97, u98, u99, u100, u101, u102, u103, u104, u105, u106, u107, u108, u109, u110, u111, u112, u113, u114, u115, u116, u117, u118, u119, u120, u121, u122, u123, u124, u125, u126, u127, u128, u129, u130, u131, u132, u133, u134, u135, u136, u137, u138, u139, u140, u141, u142, u143, u144, u145, u146, u147, u148, u149, u150, u151, u152, u153, u154, u155, u156, u157, u158, u159, u160, u161, u162, u163, u164, u165, u166, u167, u168, u169, u170, u171, u172, u173, u174, u175, u176, u177, u178, u179, u180, u181, u182, u183, u184, u185], []⟩ w9 := by
  have hC0 := hide hC
  conv => arg 2; whnf
  dsimp only
  have EB := boxE_ev b
  have hsb := hC.hsb
  have hbs : b ≠ s := by omega
  have hk := hC.hk
  have hl := hC.hl
  have hat := hC.hat
  have hsl := hC.hsl
  have hwb := hC.hwb
  have hsg6 := hC.hsg
  have hwg := hC.hwg
  have hgs6 : g6 ≠ s := by omega
  have HGB := hide hC.hgb
  have HR := hide hC.hR
  have HN := hide hC.hn
  have HOK := hide hC.hok
  have HTW := hide hC.tw
  have HG69 := hide hC.g6b
  clear hC
  have hT9 : TyW s b (k + 150) (BoxE b) w9 0 w9 := ⟨Two.refl _ _ _, hS9, ⟨_, ok_kind (ki := 2) (by omega), hB9⟩⟩
  have HT9 := hide hT9
  have HB9 := hide hB9
  have x3 : w9.cell? ⟨b, 3, none⟩ = some (.int .i64 2) := cell_of_row w9 _ 3 _ _ _ HB9.out
  have hbl9 := (Array.getElem?_eq_some_iff.1 HB9.out).1
  have hcell : ∀ i v, (evA ⟨eB, 0, 0, 2, eB, eB, eB, 0, 0, eB, 0⟩)[i]? = some v → w9.cell? ⟨b, i, none⟩ = some v := fun i v h => (cell_of_row w9 b i _ _ _ HB9.out).trans h
  have z : ∀ i, w9.frozen? ⟨b, i, none⟩ = false := fun i => by simp [World.frozen?, HB9.out]
  have a4 := hcell 4 _ rfl
  have a5 := hcell 5 _ rfl
  have a6 := hcell 6 _ rfl
  have a7 := hcell 7 _ rfl
  have a8 := hcell 8 _ rfl
  have a9 := hcell 9 _ rfl
  have a10 := hcell 10 _ rfl
  clear hcell hT9 hB9 hS9
  go_upto_region 13 with fail
  go_cut [55] (fun v wx => v = .int .i64 2 ∧ wx = w9)
  case first =>
    go_wp2_with fail
    go_meet
    exact ⟨rfl, rfl⟩
  case rest =>
  obtain ⟨rfl, hwc⟩ := hcut
  rw [hwc]
  clear hwc
  refine ‹∀ (a : Act) (w_1 : World), Code.wp _ _ _ a w_1 → _› _ _ ?_
  go_cut [] (fun wx => TyW s b (k + 150) (BoxE b) w9 40 wx)
  case first =>
    go_wp2_with fail
    go_meet
    exact ((HT9.out.setS0 EB hsb (j := 4) (by decide) hr2).setS0 EB hsb (j := 5) (by decide) hc2).up (by omega)
  case rest =>
    refine ‹∀ (a : Act) (w_1 : World), Code.wp _ _ _ a w_1 → _› _ _ ?_
    exact st_e34 hC0.out hcut
set_option maxRecDepth 100000 in
set_option maxHeartbeats 1000000 in
theorem st_eK3 {lo : Nat} {A : Option Addr} {c : Nat} {l : List Ev} {n : Nat} {at_ : Int} {s k : Nat} {w : World} {b g6 : Nat} {w9 : World} (hC : EvC lo A c l n at_ s k w b g6 w9) (hB9 : w9.heap[b]? = some (.cells #[.string ⟨#[]⟩, .int .i64 0, .int .i64 0, .int .i64 3, .string ⟨#[]⟩, .string ⟨#[]⟩, .string ⟨#[]⟩, .int .i64 0, .int .i64 0, .string ⟨#[]⟩, .int .i64 0] 31 (0, 0))) (hS9 : Str w9 s (k + 150)) {ride2 car2 : ByteArray} (hr2 : ride2.size ≤ 1000) (hc2 : car2.size ≤ 1000) {want : Int} {u3 u4 u5 u11 u12 u13 u14 u15 u16 u17 u18 u19 u20 u21 u22 u23 u24 u25 u26 u27 u28 u29 u30 u31 u32 u33 u34 u35 u36 u37 u38 u39 u40 u41 u42 u43 u44 u45 u46 u47 u48 u49 u50 u51 u52 u53 u54 u55 u56 u57 u58 u59 u60 u61 u62 u63 u64 u65 u66 u67 u68 u69 u70 u71 u72 u73 u74 u75 u76 u77 u78 u79 u80 u81 u82 u83 u84 u85 u86 u87 u88 u89 u90 u91 u92 u93 u94 u95 u96 u97 u98 u99 u100 u101 u102 u103 u104 u105 u106 u107 u108 u109 u110 u111 u112 u113 u114 u115 u116 u117 u118 u119 u120 u121 u122 u123 u124 u125 u126 u127 u128 u129 u130 u131 u132 u133 u134 u135 u136 u137 u138 u139 u140 u141 u142 u143 u144 u145 u146 u147 u148 u149 u150 u151 u152 u153 u154 u155 u156 u157 u158 u159 u160 u161 u162 u163 u164 u165 u166 u167 u168 u169 u170 u171 u172 u173 u174 u175 u176 u177 u178 u179 u180 u181 u182 u183 u184 u185 : Value} :
    Code.wp Tryz.prog (codeEV 13) (bodyPost Tryz.prog Tryz.f39 (EvtOut s k w)) ⟨#[.pointer (some ⟨s, 0, none⟩), .slice A n c, .int .i64 at_, u3, u4, u5, .pointer (some ⟨g6, 0, none⟩), .pointer (some ⟨b, 0, none⟩), .string ride2, .string car2, .int .i64 want, u11, u12, u13, u14, u15, u16, u17, u18, u19, u20, u21, u22, u23, u24, u25, u26, u27, u28, u29, u30, u31, u32, u33, u34, u35, u36, u37, u38, u39, u40, u41, u42, u43, u44, u45, u46, u47, u48, u49, u50, u51, u52, u53, u54, u55, u56, u57, u58, u59, u60, u61, u62, u63, u64, u65, u66, u67, u68, u69, u70, u71, u72, u73, u74, u75, u76, u77, u78, u79, u80, u81, u82, u83, u84, u85, u86, u87, u88, u89, u90, u91, u92, u93, u94, u95, u96, u97, u98, u99, u100, u101, u102, u103, u104, u105, u106, u107, u108, u109, u110, u111, u112, u113, u114, u115, u116, u117, u118, u119, u120, u121, u122, u123, u124, u125, u126, u127, u128, u129, u130, u131, u132, u133, u134, u135, u136, u137, u138, u139, u140, u141, u142, u143, u144, u145, u146, u147, u148, u149, u150, u151, u152, u153, u154, u155, u156, u157, u158, u159, u160, u161, u162, u163, u164, u165, u166, u167, u168, u169, u170, u171, u172, u173, u174, u175, u176, u177, u178, u179, u180, u181, u182, u183, u184, u185], []⟩ w9 := by
  have hC0 := hide hC
  conv => arg 2; whnf
  dsimp only
  have EB := boxE_ev b
  have hsb := hC.hsb
  have hbs : b ≠ s := by omega
  have hk := hC.hk
  have hl := hC.hl
  have hat := hC.hat
  have hsl := hC.hsl
  have hwb := hC.hwb
  have hsg6 := hC.hsg
  have hwg := hC.hwg
  have hgs6 : g6 ≠ s := by omega
  have HGB := hide hC.hgb
  have HR := hide hC.hR
  have HN := hide hC.hn
  have HOK := hide hC.hok
  have HTW := hide hC.tw
  have HG69 := hide hC.g6b
  clear hC
  have hT9 : TyW s b (k + 150) (BoxE b) w9 0 w9 := ⟨Two.refl _ _ _, hS9, ⟨_, ok_kind (ki := 3) (by omega), hB9⟩⟩
  have HT9 := hide hT9
  have HB9 := hide hB9
  have x3 : w9.cell? ⟨b, 3, none⟩ = some (.int .i64 3) := cell_of_row w9 _ 3 _ _ _ HB9.out
  have hbl9 := (Array.getElem?_eq_some_iff.1 HB9.out).1
  have hcell : ∀ i v, (evA ⟨eB, 0, 0, 3, eB, eB, eB, 0, 0, eB, 0⟩)[i]? = some v → w9.cell? ⟨b, i, none⟩ = some v := fun i v h => (cell_of_row w9 b i _ _ _ HB9.out).trans h
  have z : ∀ i, w9.frozen? ⟨b, i, none⟩ = false := fun i => by simp [World.frozen?, HB9.out]
  have a4 := hcell 4 _ rfl
  have a5 := hcell 5 _ rfl
  have a6 := hcell 6 _ rfl
  have a7 := hcell 7 _ rfl
  have a8 := hcell 8 _ rfl
  have a9 := hcell 9 _ rfl
  have a10 := hcell 10 _ rfl
  clear hcell hT9 hB9 hS9
  go_upto_region 13 with fail
  go_cut [55] (fun v wx => v = .int .i64 3 ∧ wx = w9)
  case first =>
    go_wp2_with fail
    go_meet
    exact ⟨rfl, rfl⟩
  case rest =>
  obtain ⟨rfl, hwc⟩ := hcut
  rw [hwc]
  clear hwc
  refine ‹∀ (a : Act) (w_1 : World), Code.wp _ _ _ a w_1 → _› _ _ ?_
  go_cut [] (fun wx => TyW s b (k + 150) (BoxE b) w9 40 wx)
  case first =>
    go_wp2_with (go_at_call 40; refine (w_Some _ [⟨#[110, 97]⟩, ⟨#[110, 98]⟩, ⟨#[110, 99]⟩] _ s _ _ (HT9.out.str.nx ((Nx.refl _).alloc _)) (by omega) (hnew rfl) (by have := HT9.out.str.lt; omega) rfl (by simp) (by simp)).mono ?_; rintro e w10 ⟨nd, hm10, rfl, hg10, hs10⟩; (have hz10 : nd.size ≤ 1000 := by { simp only [List.mem_cons, List.not_mem_nil, or_false] at hm10; rcases hm10 with rfl | rfl | rfl <;> decide }); (have hT10 := hide ((TyW.alloc0 HT9.out EB _).gr0 EB hbs hg10 hs10 (by omega))); (have hgA10 := hide ((Gr.refl s w9).trans ((Gr.of_nx ((Nx.refl _).alloc _)).trans hg10))); (have hB10 := hide ((hgA10.out.block b hbl9 (by intro e; injection e with e; exact hbs e)).trans HB9.out)); (obtain ⟨d0, d1, d2, d3, d4, d5, d6, d7, d8, d9, d10⟩ := evb_cells hB10.out); (have zz10 : ∀ i, w10.frozen? ⟨b, i, none⟩ = false := fun i => by { simp [World.frozen?, hB10.out] }); (have hbl10 := (Array.getElem?_eq_some_iff.1 hB10.out).1); clear hm10 hg10 hs10)
    go_meet
    exact (((hT10.out.setS0 EB hsb (j := 4) (by decide) hr2).setS0 EB hsb (j := 5) (by decide) hc2).setS0 EB hsb (j := 6) (by decide) hz10).up (by omega)
  case rest =>
    refine ‹∀ (a : Act) (w_1 : World), Code.wp _ _ _ a w_1 → _› _ _ ?_
    exact st_e34 hC0.out hcut
set_option maxRecDepth 100000 in
set_option maxHeartbeats 1000000 in
theorem st_eK4 {lo : Nat} {A : Option Addr} {c : Nat} {l : List Ev} {n : Nat} {at_ : Int} {s k : Nat} {w : World} {b g6 : Nat} {w9 : World} (hC : EvC lo A c l n at_ s k w b g6 w9) (hB9 : w9.heap[b]? = some (.cells #[.string ⟨#[]⟩, .int .i64 0, .int .i64 0, .int .i64 4, .string ⟨#[]⟩, .string ⟨#[]⟩, .string ⟨#[]⟩, .int .i64 0, .int .i64 0, .string ⟨#[]⟩, .int .i64 0] 31 (0, 0))) (hS9 : Str w9 s (k + 150)) {ride2 car2 : ByteArray} (hr2 : ride2.size ≤ 1000) (hc2 : car2.size ≤ 1000) {want : Int} {u3 u4 u5 u11 u12 u13 u14 u15 u16 u17 u18 u19 u20 u21 u22 u23 u24 u25 u26 u27 u28 u29 u30 u31 u32 u33 u34 u35 u36 u37 u38 u39 u40 u41 u42 u43 u44 u45 u46 u47 u48 u49 u50 u51 u52 u53 u54 u55 u56 u57 u58 u59 u60 u61 u62 u63 u64 u65 u66 u67 u68 u69 u70 u71 u72 u73 u74 u75 u76 u77 u78 u79 u80 u81 u82 u83 u84 u85 u86 u87 u88 u89 u90 u91 u92 u93 u94 u95 u96 u97 u98 u99 u100 u101 u102 u103 u104 u105 u106 u107 u108 u109 u110 u111 u112 u113 u114 u115 u116 u117 u118 u119 u120 u121 u122 u123 u124 u125 u126 u127 u128 u129 u130 u131 u132 u133 u134 u135 u136 u137 u138 u139 u140 u141 u142 u143 u144 u145 u146 u147 u148 u149 u150 u151 u152 u153 u154 u155 u156 u157 u158 u159 u160 u161 u162 u163 u164 u165 u166 u167 u168 u169 u170 u171 u172 u173 u174 u175 u176 u177 u178 u179 u180 u181 u182 u183 u184 u185 : Value} :
    Code.wp Tryz.prog (codeEV 13) (bodyPost Tryz.prog Tryz.f39 (EvtOut s k w)) ⟨#[.pointer (some ⟨s, 0, none⟩), .slice A n c, .int .i64 at_, u3, u4, u5, .pointer (some ⟨g6, 0, none⟩), .pointer (some ⟨b, 0, none⟩), .string ride2, .string car2, .int .i64 want, u11, u12, u13, u14, u15, u16, u17, u18, u19, u20, u21, u22, u23, u24, u25, u26, u27, u28, u29, u30, u31, u32, u33, u34, u35, u36, u37, u38, u39, u40, u41, u42, u43, u44, u45, u46, u47, u48, u49, u50, u51, u52, u53, u54, u55, u56, u57, u58, u59, u60, u61, u62, u63, u64, u65, u66, u67, u68, u69, u70, u71, u72, u73, u74, u75, u76, u77, u78, u79, u80, u81, u82, u83, u84, u85, u86, u87, u88, u89, u90, u91, u92, u93, u94, u95, u96, u97, u98, u99, u100, u101, u102, u103, u104, u105, u106, u107, u108, u109, u110, u111, u112, u113, u114, u115, u116, u117, u118, u119, u120, u121, u122, u123, u124, u125, u126, u127, u128, u129, u130, u131, u132, u133, u134, u135, u136, u137, u138, u139, u140, u141, u142, u143, u144, u145, u146, u147, u148, u149, u150, u151, u152, u153, u154, u155, u156, u157, u158, u159, u160, u161, u162, u163, u164, u165, u166, u167, u168, u169, u170, u171, u172, u173, u174, u175, u176, u177, u178, u179, u180, u181, u182, u183, u184, u185], []⟩ w9 := by
  have hC0 := hide hC
  conv => arg 2; whnf
  dsimp only
  have EB := boxE_ev b
  have hsb := hC.hsb
  have hbs : b ≠ s := by omega
  have hk := hC.hk
  have hl := hC.hl
  have hat := hC.hat
  have hsl := hC.hsl
  have hwb := hC.hwb
  have hsg6 := hC.hsg
  have hwg := hC.hwg
  have hgs6 : g6 ≠ s := by omega
  have HGB := hide hC.hgb
  have HR := hide hC.hR
  have HN := hide hC.hn
  have HOK := hide hC.hok
  have HTW := hide hC.tw
  have HG69 := hide hC.g6b
  clear hC
  have hT9 : TyW s b (k + 150) (BoxE b) w9 0 w9 := ⟨Two.refl _ _ _, hS9, ⟨_, ok_kind (ki := 4) (by omega), hB9⟩⟩
  have HT9 := hide hT9
  have HB9 := hide hB9
  have x3 : w9.cell? ⟨b, 3, none⟩ = some (.int .i64 4) := cell_of_row w9 _ 3 _ _ _ HB9.out
  have hbl9 := (Array.getElem?_eq_some_iff.1 HB9.out).1
  have hcell : ∀ i v, (evA ⟨eB, 0, 0, 4, eB, eB, eB, 0, 0, eB, 0⟩)[i]? = some v → w9.cell? ⟨b, i, none⟩ = some v := fun i v h => (cell_of_row w9 b i _ _ _ HB9.out).trans h
  have z : ∀ i, w9.frozen? ⟨b, i, none⟩ = false := fun i => by simp [World.frozen?, HB9.out]
  have a4 := hcell 4 _ rfl
  have a5 := hcell 5 _ rfl
  have a6 := hcell 6 _ rfl
  have a7 := hcell 7 _ rfl
  have a8 := hcell 8 _ rfl
  have a9 := hcell 9 _ rfl
  have a10 := hcell 10 _ rfl
  clear hcell hT9 hB9 hS9
  go_upto_region 13 with fail
  go_cut [55] (fun v wx => v = .int .i64 4 ∧ wx = w9)
  case first =>
    go_wp2_with fail
    go_meet
    exact ⟨rfl, rfl⟩
  case rest =>
  obtain ⟨rfl, hwc⟩ := hcut
  rw [hwc]
  clear hwc
  refine ‹∀ (a : Act) (w_1 : World), Code.wp _ _ _ a w_1 → _› _ _ ?_
  go_cut [] (fun wx => TyW s b (k + 150) (BoxE b) w9 40 wx)
  case first =>
    go_wp2_with (go_at_call 40; refine (w_Some _ [⟨#[110, 97]⟩, ⟨#[110, 98]⟩, ⟨#[110, 99]⟩] _ s _ _ (HT9.out.str.nx ((Nx.refl _).alloc _)) (by omega) (hnew rfl) (by have := HT9.out.str.lt; omega) rfl (by simp) (by simp)).mono ?_; rintro e w10 ⟨nd, hm10, rfl, hg10, hs10⟩; (have hz10 : nd.size ≤ 1000 := by { simp only [List.mem_cons, List.not_mem_nil, or_false] at hm10; rcases hm10 with rfl | rfl | rfl <;> decide }); (have hT10 := hide ((TyW.alloc0 HT9.out EB _).gr0 EB hbs hg10 hs10 (by omega))); (have hgA10 := hide ((Gr.refl s w9).trans ((Gr.of_nx ((Nx.refl _).alloc _)).trans hg10))); (have hB10 := hide ((hgA10.out.block b hbl9 (by intro e; injection e with e; exact hbs e)).trans HB9.out)); (obtain ⟨d0, d1, d2, d3, d4, d5, d6, d7, d8, d9, d10⟩ := evb_cells hB10.out); (have zz10 : ∀ i, w10.frozen? ⟨b, i, none⟩ = false := fun i => by { simp [World.frozen?, hB10.out] }); (have hbl10 := (Array.getElem?_eq_some_iff.1 hB10.out).1); clear hm10 hg10 hs10)
    go_meet
    exact (((hT10.out.setS0 EB hsb (j := 4) (by decide) hr2).setS0 EB hsb (j := 5) (by decide) hc2).setS0 EB hsb (j := 6) (by decide) hz10).up (by omega)
  case rest =>
    refine ‹∀ (a : Act) (w_1 : World), Code.wp _ _ _ a w_1 → _› _ _ ?_
    exact st_e34 hC0.out hcut
set_option maxRecDepth 100000 in
set_option maxHeartbeats 1000000 in
theorem st_eK5 {lo : Nat} {A : Option Addr} {c : Nat} {l : List Ev} {n : Nat} {at_ : Int} {s k : Nat} {w : World} {b g6 : Nat} {w9 : World} (hC : EvC lo A c l n at_ s k w b g6 w9) (hB9 : w9.heap[b]? = some (.cells #[.string ⟨#[]⟩, .int .i64 0, .int .i64 0, .int .i64 5, .string ⟨#[]⟩, .string ⟨#[]⟩, .string ⟨#[]⟩, .int .i64 0, .int .i64 0, .string ⟨#[]⟩, .int .i64 0] 31 (0, 0))) (hS9 : Str w9 s (k + 150)) {ride2 car2 : ByteArray} (hr2 : ride2.size ≤ 1000) (_ : car2.size ≤ 1000) {want : Int} {u3 u4 u5 u11 u12 u13 u14 u15 u16 u17 u18 u19 u20 u21 u22 u23 u24 u25 u26 u27 u28 u29 u30 u31 u32 u33 u34 u35 u36 u37 u38 u39 u40 u41 u42 u43 u44 u45 u46 u47 u48 u49 u50 u51 u52 u53 u54 u55 u56 u57 u58 u59 u60 u61 u62 u63 u64 u65 u66 u67 u68 u69 u70 u71 u72 u73 u74 u75 u76 u77 u78 u79 u80 u81 u82 u83 u84 u85 u86 u87 u88 u89 u90 u91 u92 u93 u94 u95 u96 u97 u98 u99 u100 u101 u102 u103 u104 u105 u106 u107 u108 u109 u110 u111 u112 u113 u114 u115 u116 u117 u118 u119 u120 u121 u122 u123 u124 u125 u126 u127 u128 u129 u130 u131 u132 u133 u134 u135 u136 u137 u138 u139 u140 u141 u142 u143 u144 u145 u146 u147 u148 u149 u150 u151 u152 u153 u154 u155 u156 u157 u158 u159 u160 u161 u162 u163 u164 u165 u166 u167 u168 u169 u170 u171 u172 u173 u174 u175 u176 u177 u178 u179 u180 u181 u182 u183 u184 u185 : Value} :
    Code.wp Tryz.prog (codeEV 13) (bodyPost Tryz.prog Tryz.f39 (EvtOut s k w)) ⟨#[.pointer (some ⟨s, 0, none⟩), .slice A n c, .int .i64 at_, u3, u4, u5, .pointer (some ⟨g6, 0, none⟩), .pointer (some ⟨b, 0, none⟩), .string ride2, .string car2, .int .i64 want, u11, u12, u13, u14, u15, u16, u17, u18, u19, u20, u21, u22, u23, u24, u25, u26, u27, u28, u29, u30, u31, u32, u33, u34, u35, u36, u37, u38, u39, u40, u41, u42, u43, u44, u45, u46, u47, u48, u49, u50, u51, u52, u53, u54, u55, u56, u57, u58, u59, u60, u61, u62, u63, u64, u65, u66, u67, u68, u69, u70, u71, u72, u73, u74, u75, u76, u77, u78, u79, u80, u81, u82, u83, u84, u85, u86, u87, u88, u89, u90, u91, u92, u93, u94, u95, u96, u97, u98, u99, u100, u101, u102, u103, u104, u105, u106, u107, u108, u109, u110, u111, u112, u113, u114, u115, u116, u117, u118, u119, u120, u121, u122, u123, u124, u125, u126, u127, u128, u129, u130, u131, u132, u133, u134, u135, u136, u137, u138, u139, u140, u141, u142, u143, u144, u145, u146, u147, u148, u149, u150, u151, u152, u153, u154, u155, u156, u157, u158, u159, u160, u161, u162, u163, u164, u165, u166, u167, u168, u169, u170, u171, u172, u173, u174, u175, u176, u177, u178, u179, u180, u181, u182, u183, u184, u185], []⟩ w9 := by
  have hC0 := hide hC
  conv => arg 2; whnf
  dsimp only
  have EB := boxE_ev b
  have hsb := hC.hsb
  have hbs : b ≠ s := by omega
  have hk := hC.hk
  have hl := hC.hl
  have hat := hC.hat
  have hsl := hC.hsl
  have hwb := hC.hwb
  have hsg6 := hC.hsg
  have hwg := hC.hwg
  have hgs6 : g6 ≠ s := by omega
  have HGB := hide hC.hgb
  have HR := hide hC.hR
  have HN := hide hC.hn
  have HOK := hide hC.hok
  have HTW := hide hC.tw
  have HG69 := hide hC.g6b
  clear hC
  have hT9 : TyW s b (k + 150) (BoxE b) w9 0 w9 := ⟨Two.refl _ _ _, hS9, ⟨_, ok_kind (ki := 5) (by omega), hB9⟩⟩
  have HT9 := hide hT9
  have HB9 := hide hB9
  have x3 : w9.cell? ⟨b, 3, none⟩ = some (.int .i64 5) := cell_of_row w9 _ 3 _ _ _ HB9.out
  have hbl9 := (Array.getElem?_eq_some_iff.1 HB9.out).1
  have hcell : ∀ i v, (evA ⟨eB, 0, 0, 5, eB, eB, eB, 0, 0, eB, 0⟩)[i]? = some v → w9.cell? ⟨b, i, none⟩ = some v := fun i v h => (cell_of_row w9 b i _ _ _ HB9.out).trans h
  have z : ∀ i, w9.frozen? ⟨b, i, none⟩ = false := fun i => by simp [World.frozen?, HB9.out]
  have a4 := hcell 4 _ rfl
  have a5 := hcell 5 _ rfl
  have a6 := hcell 6 _ rfl
  have a7 := hcell 7 _ rfl
  have a8 := hcell 8 _ rfl
  have a9 := hcell 9 _ rfl
  have a10 := hcell 10 _ rfl
  clear hcell hT9 hB9 hS9
  go_upto_region 13 with fail
  go_cut [55] (fun v wx => v = .int .i64 5 ∧ wx = w9)
  case first =>
    go_wp2_with fail
    go_meet
    exact ⟨rfl, rfl⟩
  case rest =>
  obtain ⟨rfl, hwc⟩ := hcut
  rw [hwc]
  clear hwc
  refine ‹∀ (a : Act) (w_1 : World), Code.wp _ _ _ a w_1 → _› _ _ ?_
  go_cut [] (fun wx => TyW s b (k + 150) (BoxE b) w9 40 wx)
  case first =>
    go_wp2_with fail
    go_meet
    exact (HT9.out.setS0 EB hsb (j := 4) (by decide) hr2).up (by omega)
  case rest =>
    refine ‹∀ (a : Act) (w_1 : World), Code.wp _ _ _ a w_1 → _› _ _ ?_
    exact st_e34 hC0.out hcut
set_option maxRecDepth 100000 in
set_option maxHeartbeats 1000000 in
theorem st_eK6 {lo : Nat} {A : Option Addr} {c : Nat} {l : List Ev} {n : Nat} {at_ : Int} {s k : Nat} {w : World} {b g6 : Nat} {w9 : World} (hC : EvC lo A c l n at_ s k w b g6 w9) (hB9 : w9.heap[b]? = some (.cells #[.string ⟨#[]⟩, .int .i64 0, .int .i64 0, .int .i64 6, .string ⟨#[]⟩, .string ⟨#[]⟩, .string ⟨#[]⟩, .int .i64 0, .int .i64 0, .string ⟨#[]⟩, .int .i64 0] 31 (0, 0))) (hS9 : Str w9 s (k + 150)) {ride2 car2 : ByteArray} (hr2 : ride2.size ≤ 1000) (_ : car2.size ≤ 1000) {want : Int} {u3 u4 u5 u11 u12 u13 u14 u15 u16 u17 u18 u19 u20 u21 u22 u23 u24 u25 u26 u27 u28 u29 u30 u31 u32 u33 u34 u35 u36 u37 u38 u39 u40 u41 u42 u43 u44 u45 u46 u47 u48 u49 u50 u51 u52 u53 u54 u55 u56 u57 u58 u59 u60 u61 u62 u63 u64 u65 u66 u67 u68 u69 u70 u71 u72 u73 u74 u75 u76 u77 u78 u79 u80 u81 u82 u83 u84 u85 u86 u87 u88 u89 u90 u91 u92 u93 u94 u95 u96 u97 u98 u99 u100 u101 u102 u103 u104 u105 u106 u107 u108 u109 u110 u111 u112 u113 u114 u115 u116 u117 u118 u119 u120 u121 u122 u123 u124 u125 u126 u127 u128 u129 u130 u131 u132 u133 u134 u135 u136 u137 u138 u139 u140 u141 u142 u143 u144 u145 u146 u147 u148 u149 u150 u151 u152 u153 u154 u155 u156 u157 u158 u159 u160 u161 u162 u163 u164 u165 u166 u167 u168 u169 u170 u171 u172 u173 u174 u175 u176 u177 u178 u179 u180 u181 u182 u183 u184 u185 : Value} :
    Code.wp Tryz.prog (codeEV 13) (bodyPost Tryz.prog Tryz.f39 (EvtOut s k w)) ⟨#[.pointer (some ⟨s, 0, none⟩), .slice A n c, .int .i64 at_, u3, u4, u5, .pointer (some ⟨g6, 0, none⟩), .pointer (some ⟨b, 0, none⟩), .string ride2, .string car2, .int .i64 want, u11, u12, u13, u14, u15, u16, u17, u18, u19, u20, u21, u22, u23, u24, u25, u26, u27, u28, u29, u30, u31, u32, u33, u34, u35, u36, u37, u38, u39, u40, u41, u42, u43, u44, u45, u46, u47, u48, u49, u50, u51, u52, u53, u54, u55, u56, u57, u58, u59, u60, u61, u62, u63, u64, u65, u66, u67, u68, u69, u70, u71, u72, u73, u74, u75, u76, u77, u78, u79, u80, u81, u82, u83, u84, u85, u86, u87, u88, u89, u90, u91, u92, u93, u94, u95, u96, u97, u98, u99, u100, u101, u102, u103, u104, u105, u106, u107, u108, u109, u110, u111, u112, u113, u114, u115, u116, u117, u118, u119, u120, u121, u122, u123, u124, u125, u126, u127, u128, u129, u130, u131, u132, u133, u134, u135, u136, u137, u138, u139, u140, u141, u142, u143, u144, u145, u146, u147, u148, u149, u150, u151, u152, u153, u154, u155, u156, u157, u158, u159, u160, u161, u162, u163, u164, u165, u166, u167, u168, u169, u170, u171, u172, u173, u174, u175, u176, u177, u178, u179, u180, u181, u182, u183, u184, u185], []⟩ w9 := by
  have hC0 := hide hC
  conv => arg 2; whnf
  dsimp only
  have EB := boxE_ev b
  have hsb := hC.hsb
  have hbs : b ≠ s := by omega
  have hk := hC.hk
  have hl := hC.hl
  have hat := hC.hat
  have hsl := hC.hsl
  have hwb := hC.hwb
  have hsg6 := hC.hsg
  have hwg := hC.hwg
  have hgs6 : g6 ≠ s := by omega
  have HGB := hide hC.hgb
  have HR := hide hC.hR
  have HN := hide hC.hn
  have HOK := hide hC.hok
  have HTW := hide hC.tw
  have HG69 := hide hC.g6b
  clear hC
  have hT9 : TyW s b (k + 150) (BoxE b) w9 0 w9 := ⟨Two.refl _ _ _, hS9, ⟨_, ok_kind (ki := 6) (by omega), hB9⟩⟩
  have HT9 := hide hT9
  have HB9 := hide hB9
  have x3 : w9.cell? ⟨b, 3, none⟩ = some (.int .i64 6) := cell_of_row w9 _ 3 _ _ _ HB9.out
  have hbl9 := (Array.getElem?_eq_some_iff.1 HB9.out).1
  have hcell : ∀ i v, (evA ⟨eB, 0, 0, 6, eB, eB, eB, 0, 0, eB, 0⟩)[i]? = some v → w9.cell? ⟨b, i, none⟩ = some v := fun i v h => (cell_of_row w9 b i _ _ _ HB9.out).trans h
  have z : ∀ i, w9.frozen? ⟨b, i, none⟩ = false := fun i => by simp [World.frozen?, HB9.out]
  have a4 := hcell 4 _ rfl
  have a5 := hcell 5 _ rfl
  have a6 := hcell 6 _ rfl
  have a7 := hcell 7 _ rfl
  have a8 := hcell 8 _ rfl
  have a9 := hcell 9 _ rfl
  have a10 := hcell 10 _ rfl
  clear hcell hT9 hB9 hS9
  go_upto_region 13 with fail
  go_cut [55] (fun v wx => v = .int .i64 6 ∧ wx = w9)
  case first =>
    go_wp2_with fail
    go_meet
    exact ⟨rfl, rfl⟩
  case rest =>
  obtain ⟨rfl, hwc⟩ := hcut
  rw [hwc]
  clear hwc
  refine ‹∀ (a : Act) (w_1 : World), Code.wp _ _ _ a w_1 → _› _ _ ?_
  go_cut [] (fun wx => TyW s b (k + 150) (BoxE b) w9 40 wx)
  case first =>
    go_wp2_with fail
    go_meet
    exact (HT9.out.setS0 EB hsb (j := 4) (by decide) hr2).up (by omega)
  case rest =>
    refine ‹∀ (a : Act) (w_1 : World), Code.wp _ _ _ a w_1 → _› _ _ ?_
    exact st_e34 hC0.out hcut
set_option maxRecDepth 100000 in
set_option maxHeartbeats 1000000 in
theorem st_eK7 {lo : Nat} {A : Option Addr} {c : Nat} {l : List Ev} {n : Nat} {at_ : Int} {s k : Nat} {w : World} {b g6 : Nat} {w9 : World} (hC : EvC lo A c l n at_ s k w b g6 w9) (hB9 : w9.heap[b]? = some (.cells #[.string ⟨#[]⟩, .int .i64 0, .int .i64 0, .int .i64 7, .string ⟨#[]⟩, .string ⟨#[]⟩, .string ⟨#[]⟩, .int .i64 0, .int .i64 0, .string ⟨#[]⟩, .int .i64 0] 31 (0, 0))) (hS9 : Str w9 s (k + 150)) {ride2 car2 : ByteArray} (_ : ride2.size ≤ 1000) (hc2 : car2.size ≤ 1000) {want : Int} {u3 u4 u5 u11 u12 u13 u14 u15 u16 u17 u18 u19 u20 u21 u22 u23 u24 u25 u26 u27 u28 u29 u30 u31 u32 u33 u34 u35 u36 u37 u38 u39 u40 u41 u42 u43 u44 u45 u46 u47 u48 u49 u50 u51 u52 u53 u54 u55 u56 u57 u58 u59 u60 u61 u62 u63 u64 u65 u66 u67 u68 u69 u70 u71 u72 u73 u74 u75 u76 u77 u78 u79 u80 u81 u82 u83 u84 u85 u86 u87 u88 u89 u90 u91 u92 u93 u94 u95 u96 u97 u98 u99 u100 u101 u102 u103 u104 u105 u106 u107 u108 u109 u110 u111 u112 u113 u114 u115 u116 u117 u118 u119 u120 u121 u122 u123 u124 u125 u126 u127 u128 u129 u130 u131 u132 u133 u134 u135 u136 u137 u138 u139 u140 u141 u142 u143 u144 u145 u146 u147 u148 u149 u150 u151 u152 u153 u154 u155 u156 u157 u158 u159 u160 u161 u162 u163 u164 u165 u166 u167 u168 u169 u170 u171 u172 u173 u174 u175 u176 u177 u178 u179 u180 u181 u182 u183 u184 u185 : Value} :
    Code.wp Tryz.prog (codeEV 13) (bodyPost Tryz.prog Tryz.f39 (EvtOut s k w)) ⟨#[.pointer (some ⟨s, 0, none⟩), .slice A n c, .int .i64 at_, u3, u4, u5, .pointer (some ⟨g6, 0, none⟩), .pointer (some ⟨b, 0, none⟩), .string ride2, .string car2, .int .i64 want, u11, u12, u13, u14, u15, u16, u17, u18, u19, u20, u21, u22, u23, u24, u25, u26, u27, u28, u29, u30, u31, u32, u33, u34, u35, u36, u37, u38, u39, u40, u41, u42, u43, u44, u45, u46, u47, u48, u49, u50, u51, u52, u53, u54, u55, u56, u57, u58, u59, u60, u61, u62, u63, u64, u65, u66, u67, u68, u69, u70, u71, u72, u73, u74, u75, u76, u77, u78, u79, u80, u81, u82, u83, u84, u85, u86, u87, u88, u89, u90, u91, u92, u93, u94, u95, u96, u97, u98, u99, u100, u101, u102, u103, u104, u105, u106, u107, u108, u109, u110, u111, u112, u113, u114, u115, u116, u117, u118, u119, u120, u121, u122, u123, u124, u125, u126, u127, u128, u129, u130, u131, u132, u133, u134, u135, u136, u137, u138, u139, u140, u141, u142, u143, u144, u145, u146, u147, u148, u149, u150, u151, u152, u153, u154, u155, u156, u157, u158, u159, u160, u161, u162, u163, u164, u165, u166, u167, u168, u169, u170, u171, u172, u173, u174, u175, u176, u177, u178, u179, u180, u181, u182, u183, u184, u185], []⟩ w9 := by
  have hC0 := hide hC
  conv => arg 2; whnf
  dsimp only
  have EB := boxE_ev b
  have hsb := hC.hsb
  have hbs : b ≠ s := by omega
  have hk := hC.hk
  have hl := hC.hl
  have hat := hC.hat
  have hsl := hC.hsl
  have hwb := hC.hwb
  have hsg6 := hC.hsg
  have hwg := hC.hwg
  have hgs6 : g6 ≠ s := by omega
  have HGB := hide hC.hgb
  have HR := hide hC.hR
  have HN := hide hC.hn
  have HOK := hide hC.hok
  have HTW := hide hC.tw
  have HG69 := hide hC.g6b
  clear hC
  have hT9 : TyW s b (k + 150) (BoxE b) w9 0 w9 := ⟨Two.refl _ _ _, hS9, ⟨_, ok_kind (ki := 7) (by omega), hB9⟩⟩
  have HT9 := hide hT9
  have HB9 := hide hB9
  have x3 : w9.cell? ⟨b, 3, none⟩ = some (.int .i64 7) := cell_of_row w9 _ 3 _ _ _ HB9.out
  have hbl9 := (Array.getElem?_eq_some_iff.1 HB9.out).1
  have hcell : ∀ i v, (evA ⟨eB, 0, 0, 7, eB, eB, eB, 0, 0, eB, 0⟩)[i]? = some v → w9.cell? ⟨b, i, none⟩ = some v := fun i v h => (cell_of_row w9 b i _ _ _ HB9.out).trans h
  have z : ∀ i, w9.frozen? ⟨b, i, none⟩ = false := fun i => by simp [World.frozen?, HB9.out]
  have a4 := hcell 4 _ rfl
  have a5 := hcell 5 _ rfl
  have a6 := hcell 6 _ rfl
  have a7 := hcell 7 _ rfl
  have a8 := hcell 8 _ rfl
  have a9 := hcell 9 _ rfl
  have a10 := hcell 10 _ rfl
  clear hcell hT9 hB9 hS9
  go_upto_region 13 with fail
  go_cut [55] (fun v wx => v = .int .i64 7 ∧ wx = w9)
  case first =>
    go_wp2_with fail
    go_meet
    exact ⟨rfl, rfl⟩
  case rest =>
  obtain ⟨rfl, hwc⟩ := hcut
  rw [hwc]
  clear hwc
  refine ‹∀ (a : Act) (w_1 : World), Code.wp _ _ _ a w_1 → _› _ _ ?_
  go_cut [] (fun wx => TyW s b (k + 150) (BoxE b) w9 40 wx)
  case first =>
    go_wp2_with (go_at_call 40; refine (w_Some _ [⟨#[110, 97]⟩, ⟨#[110, 98]⟩, ⟨#[110, 99]⟩, ⟨#[110, 122]⟩] _ s _ _ (HT9.out.str.nx ((Nx.refl _).alloc _)) (by omega) (hnew rfl) (by have := HT9.out.str.lt; omega) rfl (by simp) (by simp)).mono ?_; rintro e w10 ⟨nd, hm10, rfl, hg10, hs10⟩; (have hz10 : nd.size ≤ 1000 := by { simp only [List.mem_cons, List.not_mem_nil, or_false] at hm10; rcases hm10 with rfl | rfl | rfl | rfl <;> decide }); (have hT10 := hide ((TyW.alloc0 HT9.out EB _).gr0 EB hbs hg10 hs10 (by omega))); (have hgA10 := hide ((Gr.refl s w9).trans ((Gr.of_nx ((Nx.refl _).alloc _)).trans hg10))); (have hB10 := hide ((hgA10.out.block b hbl9 (by intro e; injection e with e; exact hbs e)).trans HB9.out)); (obtain ⟨d0, d1, d2, d3, d4, d5, d6, d7, d8, d9, d10⟩ := evb_cells hB10.out); (have zz10 : ∀ i, w10.frozen? ⟨b, i, none⟩ = false := fun i => by { simp [World.frozen?, hB10.out] }); (have hbl10 := (Array.getElem?_eq_some_iff.1 hB10.out).1); clear hm10 hg10 hs10)
    go_meet
    exact ((hT10.out.setS0 EB hsb (j := 5) (by decide) hc2).setS0 EB hsb (j := 6) (by decide) hz10).up (by omega)
  case rest =>
    refine ‹∀ (a : Act) (w_1 : World), Code.wp _ _ _ a w_1 → _› _ _ ?_
    exact st_e34 hC0.out hcut
set_option maxRecDepth 100000 in
set_option maxHeartbeats 1000000 in
theorem st_eK8 {lo : Nat} {A : Option Addr} {c : Nat} {l : List Ev} {n : Nat} {at_ : Int} {s k : Nat} {w : World} {b g6 : Nat} {w9 : World} (hC : EvC lo A c l n at_ s k w b g6 w9) (hB9 : w9.heap[b]? = some (.cells #[.string ⟨#[]⟩, .int .i64 0, .int .i64 0, .int .i64 8, .string ⟨#[]⟩, .string ⟨#[]⟩, .string ⟨#[]⟩, .int .i64 0, .int .i64 0, .string ⟨#[]⟩, .int .i64 0] 31 (0, 0))) (hS9 : Str w9 s (k + 150)) {ride2 car2 : ByteArray} (_ : ride2.size ≤ 1000) (_ : car2.size ≤ 1000) {want : Int} {u3 u4 u5 u11 u12 u13 u14 u15 u16 u17 u18 u19 u20 u21 u22 u23 u24 u25 u26 u27 u28 u29 u30 u31 u32 u33 u34 u35 u36 u37 u38 u39 u40 u41 u42 u43 u44 u45 u46 u47 u48 u49 u50 u51 u52 u53 u54 u55 u56 u57 u58 u59 u60 u61 u62 u63 u64 u65 u66 u67 u68 u69 u70 u71 u72 u73 u74 u75 u76 u77 u78 u79 u80 u81 u82 u83 u84 u85 u86 u87 u88 u89 u90 u91 u92 u93 u94 u95 u96 u97 u98 u99 u100 u101 u102 u103 u104 u105 u106 u107 u108 u109 u110 u111 u112 u113 u114 u115 u116 u117 u118 u119 u120 u121 u122 u123 u124 u125 u126 u127 u128 u129 u130 u131 u132 u133 u134 u135 u136 u137 u138 u139 u140 u141 u142 u143 u144 u145 u146 u147 u148 u149 u150 u151 u152 u153 u154 u155 u156 u157 u158 u159 u160 u161 u162 u163 u164 u165 u166 u167 u168 u169 u170 u171 u172 u173 u174 u175 u176 u177 u178 u179 u180 u181 u182 u183 u184 u185 : Value} :
    Code.wp Tryz.prog (codeEV 13) (bodyPost Tryz.prog Tryz.f39 (EvtOut s k w)) ⟨#[.pointer (some ⟨s, 0, none⟩), .slice A n c, .int .i64 at_, u3, u4, u5, .pointer (some ⟨g6, 0, none⟩), .pointer (some ⟨b, 0, none⟩), .string ride2, .string car2, .int .i64 want, u11, u12, u13, u14, u15, u16, u17, u18, u19, u20, u21, u22, u23, u24, u25, u26, u27, u28, u29, u30, u31, u32, u33, u34, u35, u36, u37, u38, u39, u40, u41, u42, u43, u44, u45, u46, u47, u48, u49, u50, u51, u52, u53, u54, u55, u56, u57, u58, u59, u60, u61, u62, u63, u64, u65, u66, u67, u68, u69, u70, u71, u72, u73, u74, u75, u76, u77, u78, u79, u80, u81, u82, u83, u84, u85, u86, u87, u88, u89, u90, u91, u92, u93, u94, u95, u96, u97, u98, u99, u100, u101, u102, u103, u104, u105, u106, u107, u108, u109, u110, u111, u112, u113, u114, u115, u116, u117, u118, u119, u120, u121, u122, u123, u124, u125, u126, u127, u128, u129, u130, u131, u132, u133, u134, u135, u136, u137, u138, u139, u140, u141, u142, u143, u144, u145, u146, u147, u148, u149, u150, u151, u152, u153, u154, u155, u156, u157, u158, u159, u160, u161, u162, u163, u164, u165, u166, u167, u168, u169, u170, u171, u172, u173, u174, u175, u176, u177, u178, u179, u180, u181, u182, u183, u184, u185], []⟩ w9 := by
  have hC0 := hide hC
  conv => arg 2; whnf
  dsimp only
  have EB := boxE_ev b
  have hsb := hC.hsb
  have hbs : b ≠ s := by omega
  have hk := hC.hk
  have hl := hC.hl
  have hat := hC.hat
  have hsl := hC.hsl
  have hwb := hC.hwb
  have hsg6 := hC.hsg
  have hwg := hC.hwg
  have hgs6 : g6 ≠ s := by omega
  have HGB := hide hC.hgb
  have HR := hide hC.hR
  have HN := hide hC.hn
  have HOK := hide hC.hok
  have HTW := hide hC.tw
  have HG69 := hide hC.g6b
  clear hC
  have hT9 : TyW s b (k + 150) (BoxE b) w9 0 w9 := ⟨Two.refl _ _ _, hS9, ⟨_, ok_kind (ki := 8) (by omega), hB9⟩⟩
  have HT9 := hide hT9
  have HB9 := hide hB9
  have x3 : w9.cell? ⟨b, 3, none⟩ = some (.int .i64 8) := cell_of_row w9 _ 3 _ _ _ HB9.out
  have hbl9 := (Array.getElem?_eq_some_iff.1 HB9.out).1
  have hcell : ∀ i v, (evA ⟨eB, 0, 0, 8, eB, eB, eB, 0, 0, eB, 0⟩)[i]? = some v → w9.cell? ⟨b, i, none⟩ = some v := fun i v h => (cell_of_row w9 b i _ _ _ HB9.out).trans h
  have z : ∀ i, w9.frozen? ⟨b, i, none⟩ = false := fun i => by simp [World.frozen?, HB9.out]
  have a4 := hcell 4 _ rfl
  have a5 := hcell 5 _ rfl
  have a6 := hcell 6 _ rfl
  have a7 := hcell 7 _ rfl
  have a8 := hcell 8 _ rfl
  have a9 := hcell 9 _ rfl
  have a10 := hcell 10 _ rfl
  clear hcell hT9 hB9 hS9
  go_upto_region 13 with fail
  go_cut [55] (fun v wx => v = .int .i64 8 ∧ wx = w9)
  case first =>
    go_wp2_with fail
    go_meet
    exact ⟨rfl, rfl⟩
  case rest =>
  obtain ⟨rfl, hwc⟩ := hcut
  rw [hwc]
  clear hwc
  refine ‹∀ (a : Act) (w_1 : World), Code.wp _ _ _ a w_1 → _› _ _ ?_
  go_cut [] (fun wx => TyW s b (k + 150) (BoxE b) w9 40 wx)
  case first =>
    go_wp2_with (go_at_call 40; refine (w_Some _ [⟨#[99, 98]⟩, ⟨#[99, 98]⟩, ⟨#[99, 97]⟩] _ s _ _ (HT9.out.str.nx ((Nx.refl _).alloc _)) (by omega) (hnew rfl) (by have := HT9.out.str.lt; omega) rfl (by simp) (by simp)).mono ?_; rintro e w10 ⟨nd, hm10, rfl, hg10, hs10⟩; (have hz10 : nd.size ≤ 1000 := by { simp only [List.mem_cons, List.not_mem_nil, or_false] at hm10; rcases hm10 with rfl | rfl | rfl <;> decide }); (have hT10 := hide ((TyW.alloc0 HT9.out EB _).gr0 EB hbs hg10 hs10 (by omega))); (have hgA10 := hide ((Gr.refl s w9).trans ((Gr.of_nx ((Nx.refl _).alloc _)).trans hg10))); (have hB10 := hide ((hgA10.out.block b hbl9 (by intro e; injection e with e; exact hbs e)).trans HB9.out)); (obtain ⟨d0, d1, d2, d3, d4, d5, d6, d7, d8, d9, d10⟩ := evb_cells hB10.out); (have zz10 : ∀ i, w10.frozen? ⟨b, i, none⟩ = false := fun i => by { simp [World.frozen?, hB10.out] }); (have hbl10 := (Array.getElem?_eq_some_iff.1 hB10.out).1); clear hm10 hg10 hs10)
    go_meet
    exact (hT10.out.setS0 EB hsb (j := 5) (by decide) hz10).up (by omega)
  case rest =>
    refine ‹∀ (a : Act) (w_1 : World), Code.wp _ _ _ a w_1 → _› _ _ ?_
    exact st_e34 hC0.out hcut
set_option maxRecDepth 100000 in
set_option maxHeartbeats 1000000 in
theorem st_eK9 {lo : Nat} {A : Option Addr} {c : Nat} {l : List Ev} {n : Nat} {at_ : Int} {s k : Nat} {w : World} {b g6 : Nat} {w9 : World} (hC : EvC lo A c l n at_ s k w b g6 w9) (hB9 : w9.heap[b]? = some (.cells #[.string ⟨#[]⟩, .int .i64 0, .int .i64 0, .int .i64 9, .string ⟨#[]⟩, .string ⟨#[]⟩, .string ⟨#[]⟩, .int .i64 0, .int .i64 0, .string ⟨#[]⟩, .int .i64 0] 31 (0, 0))) (hS9 : Str w9 s (k + 150)) {ride2 car2 : ByteArray} (_ : ride2.size ≤ 1000) (_ : car2.size ≤ 1000) {want : Int} {u3 u4 u5 u11 u12 u13 u14 u15 u16 u17 u18 u19 u20 u21 u22 u23 u24 u25 u26 u27 u28 u29 u30 u31 u32 u33 u34 u35 u36 u37 u38 u39 u40 u41 u42 u43 u44 u45 u46 u47 u48 u49 u50 u51 u52 u53 u54 u55 u56 u57 u58 u59 u60 u61 u62 u63 u64 u65 u66 u67 u68 u69 u70 u71 u72 u73 u74 u75 u76 u77 u78 u79 u80 u81 u82 u83 u84 u85 u86 u87 u88 u89 u90 u91 u92 u93 u94 u95 u96 u97 u98 u99 u100 u101 u102 u103 u104 u105 u106 u107 u108 u109 u110 u111 u112 u113 u114 u115 u116 u117 u118 u119 u120 u121 u122 u123 u124 u125 u126 u127 u128 u129 u130 u131 u132 u133 u134 u135 u136 u137 u138 u139 u140 u141 u142 u143 u144 u145 u146 u147 u148 u149 u150 u151 u152 u153 u154 u155 u156 u157 u158 u159 u160 u161 u162 u163 u164 u165 u166 u167 u168 u169 u170 u171 u172 u173 u174 u175 u176 u177 u178 u179 u180 u181 u182 u183 u184 u185 : Value} :
    Code.wp Tryz.prog (codeEV 13) (bodyPost Tryz.prog Tryz.f39 (EvtOut s k w)) ⟨#[.pointer (some ⟨s, 0, none⟩), .slice A n c, .int .i64 at_, u3, u4, u5, .pointer (some ⟨g6, 0, none⟩), .pointer (some ⟨b, 0, none⟩), .string ride2, .string car2, .int .i64 want, u11, u12, u13, u14, u15, u16, u17, u18, u19, u20, u21, u22, u23, u24, u25, u26, u27, u28, u29, u30, u31, u32, u33, u34, u35, u36, u37, u38, u39, u40, u41, u42, u43, u44, u45, u46, u47, u48, u49, u50, u51, u52, u53, u54, u55, u56, u57, u58, u59, u60, u61, u62, u63, u64, u65, u66, u67, u68, u69, u70, u71, u72, u73, u74, u75, u76, u77, u78, u79, u80, u81, u82, u83, u84, u85, u86, u87, u88, u89, u90, u91, u92, u93, u94, u95, u96, u97, u98, u99, u100, u101, u102, u103, u104, u105, u106, u107, u108, u109, u110, u111, u112, u113, u114, u115, u116, u117, u118, u119, u120, u121, u122, u123, u124, u125, u126, u127, u128, u129, u130, u131, u132, u133, u134, u135, u136, u137, u138, u139, u140, u141, u142, u143, u144, u145, u146, u147, u148, u149, u150, u151, u152, u153, u154, u155, u156, u157, u158, u159, u160, u161, u162, u163, u164, u165, u166, u167, u168, u169, u170, u171, u172, u173, u174, u175, u176, u177, u178, u179, u180, u181, u182, u183, u184, u185], []⟩ w9 := by
  have hC0 := hide hC
  conv => arg 2; whnf
  dsimp only
  have EB := boxE_ev b
  have hsb := hC.hsb
  have hbs : b ≠ s := by omega
  have hk := hC.hk
  have hl := hC.hl
  have hat := hC.hat
  have hsl := hC.hsl
  have hwb := hC.hwb
  have hsg6 := hC.hsg
  have hwg := hC.hwg
  have hgs6 : g6 ≠ s := by omega
  have HGB := hide hC.hgb
  have HR := hide hC.hR
  have HN := hide hC.hn
  have HOK := hide hC.hok
  have HTW := hide hC.tw
  have HG69 := hide hC.g6b
  clear hC
  have hT9 : TyW s b (k + 150) (BoxE b) w9 0 w9 := ⟨Two.refl _ _ _, hS9, ⟨_, ok_kind (ki := 9) (by omega), hB9⟩⟩
  have HT9 := hide hT9
  have HB9 := hide hB9
  have x3 : w9.cell? ⟨b, 3, none⟩ = some (.int .i64 9) := cell_of_row w9 _ 3 _ _ _ HB9.out
  have hbl9 := (Array.getElem?_eq_some_iff.1 HB9.out).1
  have hcell : ∀ i v, (evA ⟨eB, 0, 0, 9, eB, eB, eB, 0, 0, eB, 0⟩)[i]? = some v → w9.cell? ⟨b, i, none⟩ = some v := fun i v h => (cell_of_row w9 b i _ _ _ HB9.out).trans h
  have z : ∀ i, w9.frozen? ⟨b, i, none⟩ = false := fun i => by simp [World.frozen?, HB9.out]
  have a4 := hcell 4 _ rfl
  have a5 := hcell 5 _ rfl
  have a6 := hcell 6 _ rfl
  have a7 := hcell 7 _ rfl
  have a8 := hcell 8 _ rfl
  have a9 := hcell 9 _ rfl
  have a10 := hcell 10 _ rfl
  clear hcell hT9 hB9 hS9
  go_upto_region 13 with fail
  go_cut [55] (fun v wx => v = .int .i64 9 ∧ wx = w9)
  case first =>
    go_wp2_with fail
    go_meet
    exact ⟨rfl, rfl⟩
  case rest =>
  obtain ⟨rfl, hwc⟩ := hcut
  rw [hwc]
  clear hwc
  refine ‹∀ (a : Act) (w_1 : World), Code.wp _ _ _ a w_1 → _› _ _ ?_
  go_cut [] (fun wx => TyW s b (k + 150) (BoxE b) w9 40 wx)
  case first =>
    go_upto_region 31 with (first
      | (go_at_call 40; refine (w_Some _ [⟨#[115, 97]⟩, ⟨#[115, 98]⟩] _ s _ _ (HT9.out.str.nx ((Nx.refl _).alloc _)) (by omega) (hnew rfl) (by have := HT9.out.str.lt; omega) rfl (by simp) (by simp)).mono ?_; rintro e w10 ⟨fo, hm10, rfl, hg10, hs10⟩; (have hz10 : fo.size ≤ 1000 := by { simp only [List.mem_cons, List.not_mem_nil, or_false] at hm10; rcases hm10 with rfl | rfl <;> decide }); (have hT10 := hide ((TyW.alloc0 HT9.out EB _).gr0 EB hbs hg10 hs10 (by omega))); (have hgA10 := hide ((Gr.refl s w9).trans ((Gr.of_nx ((Nx.refl _).alloc _)).trans hg10))); (have hB10 := hide ((hgA10.out.block b hbl9 (by intro e; injection e with e; exact hbs e)).trans HB9.out)); (obtain ⟨d0, d1, d2, d3, d4, d5, d6, d7, d8, d9, d10⟩ := evb_cells hB10.out); (have zz10 : ∀ i, w10.frozen? ⟨b, i, none⟩ = false := fun i => by { simp [World.frozen?, hB10.out] }); (have hbl10 := (Array.getElem?_eq_some_iff.1 hB10.out).1); clear hm10 hg10 hs10)
      | (go_at_call 9; refine (w_Range 1 9 s _ _ hT10.out.str (by omega) (by omega) (by omega)).mono ?_; rintro e w11 ⟨nu, hr11a, hr11b, rfl, hg11, hs11⟩; (have hT11 := hide (TyW.gr0 hT10.out EB hbs hg11 hs11 (by omega))); (have hgA11 := hide (hgA10.out.trans hg11)); (have hB11 := hide ((hgA11.out.block b hbl9 (by intro e; injection e with e; exact hbs e)).trans HB9.out)); (obtain ⟨d0, d1, d2, d3, d4, d5, d6, d7, d8, d9, d10⟩ := evb_cells hB11.out); (have zz11 : ∀ i, w11.frozen? ⟨b, i, none⟩ = false := fun i => by { simp [World.frozen?, hB11.out] }); (have hbl11 := (Array.getElem?_eq_some_iff.1 hB11.out).1); clear hg11 hs11))
    obtain ⟨w12, hw12⟩ : ∃ w12, w12 = (w11.setCell ⟨b, 9, none⟩ (.string fo)).setCell ⟨b, 10, none⟩ (.int .i64 nu) := ⟨_, rfl⟩
    rw [← hw12]
    have hT12 : TyW s b (k + 150) (BoxE b) w9 2 w12 := by rw [hw12]; exact ((hT11.out.setS0 EB hsb (j := 9) (by decide) hz10).setI0 EB hsb (j := 10) (by decide) (by omega))
    have hB12 := heap_set (i := 10) (u := .int .i64 nu) (heap_set (i := 9) (u := .string fo) hB11.out)
    rw [← hw12] at hB12
    have HT12 := hide hT12
    have HB12 := hide hB12
    have hbl12 := (Array.getElem?_eq_some_iff.1 hB12).1
    clear hw12 hT12 hB12 d0 d1 d2 d3 d4 d5 d6 d7 d8 d9 d10 zz10 zz11
    by_cases hn0 : 0 < n
    · have tn : decide (0 < (n : Int)) = true := by rw [decide_eq_true_eq]; omega
      go_wp2_with fail
      refine (w_Flip 4 s _ _ HT12.out.str (by omega) (by omega)).mono ?_
      rintro e w13 ⟨bo, rfl, hg13, hS13⟩
      have HT13 := hide (HT12.out.gr0 EB hbs hg13 hS13 (by omega))
      have HG13 := hide hg13
      clear hg13 hS13
      cases bo with
      | true =>
        go_wp2_with fail
        go_meet
        exact HT13.out.up (by omega)
      | false =>
        go_wp2_with fail
        refine (w_Next (n : Int) s _ _ HT13.out.str (by omega) (by omega)).mono ?_
        rintro e w14 ⟨i, hi1, hi2, rfl, hg14, hS14⟩
        obtain ⟨q, rfl⟩ := Int.eq_ofNat_of_zero_le hi1
        have HT14 := hide (HT13.out.gr0 EB hbs hg14 hS14 (by omega))
        have hG14 := HG13.out.trans hg14
        have hB14 := (hG14.block b hbl12 (by intro e; injection e with e; exact hbs e)).trans HB12.out
        have hql : q < l.length := by have := HN.out; omega
        have hgw14 := (HTW.out.trans HT14.out.two).toGr hwb
        obtain ⟨bk, off, eb, _, hbk, hbr, hcs⟩ := (HR.out.gr hgw14 hsl).open_ (Nx.refl w14) (by omega)
        obtain ⟨c0, c1, c2, c3, c4, c5, c6, c7, c8, c9, c10⟩ := ev_cells (hcs q hql)
        have hox := HOK.out l[q] (List.getElem_mem hql)
        generalize l[q] = x at *
        obtain ⟨xso, xno, xat, xki, xri, xca, xnd, xup, xdn, xfo, xnu⟩ := x
        simp only at c0 c1 c2 c3 c4 c5 c6 c7 c8 c9 c10
        obtain ⟨w15, hw15⟩ : ∃ w15, w15 = w14.alloc (.cells #[.string xso, .int .i64 xno, .int .i64 xat, .int .i64 xki, .string xri, .string xca, .string xnd, .int .i64 xup, .int .i64 xdn, .string xfo, .int .i64 xnu] 31 (0, 0)) := ⟨_, rfl⟩
        obtain ⟨g13, hg13⟩ : ∃ g13, g13 = w14.heap.size := ⟨_, rfl⟩
        have hB15 : w15.heap[g13]? = some (.cells #[.string xso, .int .i64 xno, .int .i64 xat, .int .i64 xki, .string xri, .string xca, .string xnd, .int .i64 xup, .int .i64 xdn, .string xfo, .int .i64 xnu] 31 (0, 0)) := by rw [hw15, hg13]; exact heap_alloc_new w14 _
        have hn15 : Nx w14 w15 := hw15 ▸ (Nx.refl w14).alloc _
        have HT15 := hide (HT14.out.nx EB hn15)
        have hBb := (hn15.block b (Array.getElem?_eq_some_iff.1 hB14).1).trans hB14
        have o0 : w15.cell? ⟨g13, 0, none⟩ = some (.string xso) := cell_of_row w15 _ 0 _ _ _ hB15
        have o1 : w15.cell? ⟨g13, 1, none⟩ = some (.int .i64 xno) := cell_of_row w15 _ 1 _ _ _ hB15
        have o9 : w15.cell? ⟨b, 9, none⟩ = some (.string fo) := cell_of_row w15 _ 9 _ _ _ hBb
        have o10 : w15.cell? ⟨b, 10, none⟩ = some (.int .i64 nu) := cell_of_row w15 _ 10 _ _ _ hBb
        have z15 : ∀ i, w15.frozen? ⟨b, i, none⟩ = false := fun i => by simp [World.frozen?, hBb]
        have hgl15 := (Array.getElem?_eq_some_iff.1 hB15).1
        have hbl15 := (Array.getElem?_eq_some_iff.1 hBb).1
        have hgb15 : g13 ≠ b := by have := (Array.getElem?_eq_some_iff.1 hB14).1; omega
        have hos := hox.source
        have hon := hox.no
        simp only at hos hon
        have q1 : (0 : Int) ≤ (q : Int) := by omega
        have q2 : (q : Int) < (n : Int) := by omega
        subst eb
        clear hcs hox hB14 hB15 hBb hn15 hg14 hS14 hG14
        go_upto_region 33 with fail
        rw [← hw15, ← hg13]
        clear hw15 hg13
        go_region
        all_goals (go_wp2; go_meet)
        all_goals
          refine TyW.up (m := 5) ?_ (by omega)
          repeat (first | with_reducible exact HT15.out.up (by omega) | with_reducible refine TyW.drew0 ?_ EB | refine TyW.setS0 ?_ EB hsb (by decide) hos | refine TyW.setI0 ?_ EB hsb (by decide) hon)
    · have tn : decide (0 < (n : Int)) = false := by rw [decide_eq_false_iff_not]; omega
      go_wp2_with fail
      go_meet
      exact HT12.out.up (by omega)
  case rest =>
    refine ‹∀ (a : Act) (w_1 : World), Code.wp _ _ _ a w_1 → _› _ _ ?_
    exact st_e34 hC0.out hcut
set_option maxRecDepth 100000 in
theorem st_e13 {lo : Nat} {A : Option Addr} {c : Nat} {l : List Ev} {n : Nat} {at_ : Int} {s k : Nat} {w : World} {b g6 : Nat} {w9 : World} (hC : EvC lo A c l n at_ s k w b g6 w9) {ki : Int} (hki : 1 ≤ ki ∧ ki ≤ 9) (hB9 : w9.heap[b]? = some (.cells #[.string ⟨#[]⟩, .int .i64 0, .int .i64 0, .int .i64 ki, .string ⟨#[]⟩, .string ⟨#[]⟩, .string ⟨#[]⟩, .int .i64 0, .int .i64 0, .string ⟨#[]⟩, .int .i64 0] 31 (0, 0))) (hS9 : Str w9 s (k + 150)) {ride2 car2 : ByteArray} (hr2 : ride2.size ≤ 1000) (hc2 : car2.size ≤ 1000) {want : Int} {u3 u4 u5 u11 u12 u13 u14 u15 u16 u17 u18 u19 u20 u21 u22 u23 u24 u25 u26 u27 u28 u29 u30 u31 u32 u33 u34 u35 u36 u37 u38 u39 u40 u41 u42 u43 u44 u45 u46 u47 u48 u49 u50 u51 u52 u53 u54 u55 u56 u57 u58 u59 u60 u61 u62 u63 u64 u65 u66 u67 u68 u69 u70 u71 u72 u73 u74 u75 u76 u77 u78 u79 u80 u81 u82 u83 u84 u85 u86 u87 u88 u89 u90 u91 u92 u93 u94 u95 u96 u97 u98 u99 u100 u101 u102 u103 u104 u105 u106 u107 u108 u109 u110 u111 u112 u113 u114 u115 u116 u117 u118 u119 u120 u121 u122 u123 u124 u125 u126 u127 u128 u129 u130 u131 u132 u133 u134 u135 u136 u137 u138 u139 u140 u141 u142 u143 u144 u145 u146 u147 u148 u149 u150 u151 u152 u153 u154 u155 u156 u157 u158 u159 u160 u161 u162 u163 u164 u165 u166 u167 u168 u169 u170 u171 u172 u173 u174 u175 u176 u177 u178 u179 u180 u181 u182 u183 u184 u185 : Value} :
    Code.wp Tryz.prog (codeEV 13) (bodyPost Tryz.prog Tryz.f39 (EvtOut s k w)) ⟨#[.pointer (some ⟨s, 0, none⟩), .slice A n c, .int .i64 at_, u3, u4, u5, .pointer (some ⟨g6, 0, none⟩), .pointer (some ⟨b, 0, none⟩), .string ride2, .string car2, .int .i64 want, u11, u12, u13, u14, u15, u16, u17, u18, u19, u20, u21, u22, u23, u24, u25, u26, u27, u28, u29, u30, u31, u32, u33, u34, u35, u36, u37, u38, u39, u40, u41, u42, u43, u44, u45, u46, u47, u48, u49, u50, u51, u52, u53, u54, u55, u56, u57, u58, u59, u60, u61, u62, u63, u64, u65, u66, u67, u68, u69, u70, u71, u72, u73, u74, u75, u76, u77, u78, u79, u80, u81, u82, u83, u84, u85, u86, u87, u88, u89, u90, u91, u92, u93, u94, u95, u96, u97, u98, u99, u100, u101, u102, u103, u104, u105, u106, u107, u108, u109, u110, u111, u112, u113, u114, u115, u116, u117, u118, u119, u120, u121, u122, u123, u124, u125, u126, u127, u128, u129, u130, u131, u132, u133, u134, u135, u136, u137, u138, u139, u140, u141, u142, u143, u144, u145, u146, u147, u148, u149, u150, u151, u152, u153, u154, u155, u156, u157, u158, u159, u160, u161, u162, u163, u164, u165, u166, u167, u168, u169, u170, u171, u172, u173, u174, u175, u176, u177, u178, u179, u180, u181, u182, u183, u184, u185], []⟩ w9 := by
  have hkk : ki = 1 ∨ ki = 2 ∨ ki = 3 ∨ ki = 4 ∨ ki = 5 ∨ ki = 6 ∨ ki = 7 ∨ ki = 8 ∨ ki = 9 := by omega
  rcases hkk with rfl | rfl | rfl | rfl | rfl | rfl | rfl | rfl | rfl
  · exact st_eK1 hC hB9 hS9 hr2 hc2
  · exact st_eK2 hC hB9 hS9 hr2 hc2
  · exact st_eK3 hC hB9 hS9 hr2 hc2
  · exact st_eK4 hC hB9 hS9 hr2 hc2
  · exact st_eK5 hC hB9 hS9 hr2 hc2
  · exact st_eK6 hC hB9 hS9 hr2 hc2
  · exact st_eK7 hC hB9 hS9 hr2 hc2
  · exact st_eK8 hC hB9 hS9 hr2 hc2
  · exact st_eK9 hC hB9 hS9 hr2 hc2
end Go.Proofs.YtfkmbeppckelfaaGreatDoor
