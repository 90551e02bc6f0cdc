/- Groups that would pay less alone. -/
import Derived.Test.YtjhmgkoghapocaaDoorHand
import Derived.Test.YtjhmgkoghapocaaDoorBits
namespace Go.Proofs.YtjhmgkoghapocaaDoor
open Go.RowKit Go.Sort Go.Proofs Go.Shelf

theorem el_S : ElemOf Tryd.prog 26 9 1 16 := ElemOf.mk' (z := .string ByteArray.empty) Tryd.underlying26 (by kernel_rfl) rfl
theorem encS_len (x : ByteArray) : (encS x).length = 1 := rfl
theorem encS_one (x : ByteArray) : ∀ v ∈ encS x, v.oneCell' = true := by
  intro v hv; simp [encS] at hv; subst hv; rfl
theorem sumG_bd (cs : List Int) (hc : ∀ x ∈ cs, -1000000000 ≤ x ∧ x ≤ 1000000000) (g k : Nat) : -(k * 1000000000 : Int) ≤ sumG cs g k ∧ sumG cs g k ≤ k * 1000000000 := by
  induction k with
  | zero => simp [sumG]
  | succ k ih =>
    have h : -1000000000 ≤ cs.getD k 0 ∧ cs.getD k 0 ≤ 1000000000 := by
      rw [List.getD_eq_getElem?_getD]
      cases h : cs[k]? with
      | none => simp
      | some x => exact hc x (List.mem_of_getElem? h)
    have e : ((k + 1 : Nat) : Int) = (k : Int) + 1 := by omega
    simp only [sumG]
    split <;> omega
theorem whoTo_len (rides : List ByteArray) (g k : Nat) : (whoTo rides g k).length ≤ k := by
  induction k with
  | zero => exact Nat.le_refl _
  | succ k ih =>
    simp only [whoTo]
    split
    · rw [List.length_append]; simp; omega
    · omega
theorem gainL_drop (rides : List ByteArray) (ct cs : List Int) (m g : Nat) (hg : g < m) : gainL rides ct cs ((List.range m).drop g) = if cs.getD g 0 < sumG ct g rides.length then whoTo rides g rides.length else gainL rides ct cs ((List.range m).drop (g + 1)) := by
  rw [List.drop_eq_getElem_cons (by simpa using hg)]
  simp [gainL]
/-- The first group that would pay less. -/
def gainV (rides : List ByteArray) (cs : List Int) (ds : List Due) : List ByteArray := gainL rides (ds.map (·.cents)) cs (List.range (2 ^ rides.length))
/-- Keys, or a fault. -/
def KeysU (F : Int) (who : List ByteArray) (w : World) (e : Ending) (w' : World) : Prop :=
  ∃ (A : Option Addr) (c : Nat) (zs : List ByteArray), e = .returned (.tuple #[.slice A zs.length c, .int .i64 F]) ∧ zs = (if F = 0 then who else []) ∧ Rd w' w.heap.size A 1 encS zs ∧ Nx w w'
theorem KeysU.no {F : Int} {who : List ByteArray} {w w' : World} (h : F ≠ 0) (hn : Nx w w') : KeysU F who w (.returned (.tuple #[.slice none 0 0, .int .i64 F])) w' := ⟨none, 0, [], rfl, by rw [if_neg h], Rd.nil, hn⟩

theorem duesF_right {l : List ByteArray} {ds : List Due} (h : duesF l ds = 0) : l = ds.map (·.key) ∧ ds.any badD = false := by
  unfold duesF at h
  by_cases h1 : l = ds.map (·.key)
  · rw [if_pos h1] at h
    cases h2 : ds.any badD
    · exact ⟨h1, rfl⟩
    · rw [show (ds.any fun d => outB d.cents (-maxCt) maxCt) = true from h2] at h; simp at h
  · rw [if_neg h1] at h; omega
theorem fairF_right {l : List ByteArray} {cs : List Int} (h : fairF l cs = 0) : l.length ≤ 10 ∧ cs.length = 2 ^ l.length ∧ cs.getD 0 0 = 0 ∧ ∀ x ∈ cs, 0 ≤ x ∧ x ≤ 1000000000 := by
  unfold fairF at h
  by_cases h1 : keysF l = 0
  · rw [if_pos h1] at h
    by_cases h2 : cs.length = 2 ^ l.length
    · rw [if_pos h2] at h
      by_cases h3 : cs.getD 0 0 ≠ 0 ∨ cs.any centB = true
      · rw [if_pos h3] at h; omega
      · refine ⟨keysF_len h1, h2, Classical.byContradiction fun h4 => h3 (.inl h4), fun x hx => centB_bd ?_⟩
        cases h5 : centB x
        · rfl
        · exact absurd (.inr (List.any_eq_true.2 ⟨x, hx, h5⟩)) h3
    · rw [if_neg h2] at h; omega
  · rw [if_neg h1] at h; exact absurd h h1
theorem badD_bd {ds : List Due} (h : ds.any badD = false) : ∀ x ∈ ds.map (·.cents), -1000000000 ≤ x ∧ x ≤ 1000000000 := by
  intro x hx
  obtain ⟨d, hd, rfl⟩ := List.mem_map.1 hx
  have : badD d = false := by
    cases h1 : badD d
    · rfl
    · exact absurd (List.any_eq_true.2 ⟨d, hd, h1⟩) (by rw [h]; simp)
  have := outB_false.1 this
  unfold maxCt at this
  exact this

set_option maxRecDepth 100000 in
set_option maxHeartbeats 4000000 in
theorem w_Gains (lo lo' lo2 : Nat) (A B D : Option Addr) (c c' c2 : Nat) (l : List ByteArray) (cs : List Int) (ds : List Due) (w : World) (hR : Rd w lo A 1 encS l) (hS : Small l) (hC : Rd w lo' B 1 encI cs) (hD : Rd w lo2 D 2 encDue ds) (hl : l.length ≤ 6) (hl' : cs.length ≤ 65536) (hl2 : ds.length ≤ 65536) :
    Calls Tryd.prog 14 #[.slice A l.length c, .slice B cs.length c', .slice D ds.length c2] w (KeysU (orI [fairF l cs, duesF l ds]) (gainV l cs ds) w) := by
  have HFa := hide (w_fairFault lo lo' A B c c' l cs w hR hS hC (by omega) hl')
  have HEq := hide (w_EqDues 57 eg_of_Gains1 w_Gains1 lo lo2 A D c c2 l ds w hR hD (by omega) hl2)
  have HCo := hide (fun w' (hn : Nx w w') => w_ContFD 59 badD eg_of_Gains2 w_Gains2 lo2 D c2 ds w' (hD.nx hn) hl2)
  rw [orI_two]
  by_cases h0 : fairF l cs = 0
  · rw [if_pos h0]
    have H0 := hide h0
    rw [h0] at HFa
    by_cases he : l = ds.map (·.key)
    · rw [decide_eq_true he] at HEq
      cases hb : ds.any badD
      · have HDF := hide (duesF_ok he hb)
        rw [HDF.out]
        rw [hb] at HCo
        obtain ⟨_, hcl, _, hcb⟩ := fairF_right h0
        have hct := badD_bd hb
        have hnd : ds.length = l.length := by rw [he, List.length_map]
        have HGV := hide (show gainV l cs ds = gainL l (ds.map (·.cents)) cs (List.range (2 ^ l.length)) from rfl)
        have HE := hide he
        have HC := hide hC
        have HD := hide hD
        have HCB := hide hcb
        have HCT1 := hide hct
        have HCT := hide (sumG_bd (ds.map (·.cents)) hct)
        have hp := pow_bd (n := l.length) (by omega)
        generalize hm : cs.length = m at *
        rw [hnd] at HEq HCo ⊢
        have HND := hide hnd
        have HM := hide hm
        have HCL := hide hcl
        rw [← hcl] at HGV hp
        clear h0 hb he hC hD hR hS hct hcb hnd hm hcl
        generalize hn : l.length = n at *
        have HN := hide hn
        clear hn
        go_enter Tryd.func14, Tryd.ntmps14
        go_wp2_with (first
          | (go_at_call 46; refine (HFa.out).mono ?_; rintro e w1 ⟨rfl, rfl⟩)
          | (go_at_call 56; refine (HEq.out).mono ?_; rintro e w1 ⟨rfl, hn1⟩)
          | (go_at_call 58; refine (HCo.out _ hn1).mono ?_; rintro e w2 ⟨rfl, hn2⟩))
        have hN2 := hide (hn1.trans hn2)
        clear HFa HEq HCo hn1 hn2
        go_loopw [6, 7, 9, 10, 11, 12, 13, 28] (fun _ _ _ _ _ _ _ i wr => ∃ g : Nat, g ≤ m ∧ i = .int .i64 g ∧ gainL l (ds.map (·.cents)) cs (List.range m) = gainL l (ds.map (·.cents)) cs ((List.range m).drop g) ∧ Nx w wr) (fun _ _ _ _ _ _ _ i _ => m - (intOf i).toNat)
        case atStart => exact ⟨0, Nat.zero_le _, rfl, by rw [List.drop_zero], hN2.out⟩
        case round =>
          clear hN2
          obtain ⟨g, hg, rfl, hq, hbw⟩ := hrel
          have HQ := hide hq
          clear hq
          by_cases hlt : g < m
          · have HDr := hide (gainL_drop l (ds.map (·.cents)) cs m g hlt)
            rw [HN.out] at HDr
            go_wp2_with fail
            obtain ⟨wo, hwo⟩ : ∃ wo, wo = wr := ⟨_, rfl⟩
            rw [← hwo] at hbw ⊢
            clear hwo
            go_loopw [10, 11, 12, 13, 33] (fun v s _ _ i wr => ∃ k : Nat, k ≤ n ∧ i = .int .i64 k ∧ wr.ownsRow w.heap.size 9 1 v (whoTo l g k).length ((whoTo l g k).flatMap encS) ∧ s = .int .i64 (sumG (ds.map (·.cents)) g k) ∧ Nx w wr) (fun _ _ _ _ i _ => n - (intOf i).toNat)
            case atStart => exact ⟨0, Nat.zero_le _, rfl, World.ownsRow_nil _ _ _ _, rfl, hbw⟩
            case round =>
              clear hbw
              obtain ⟨k, hk, rfl, hown, rfl, hbw⟩ := hrel
              have hsb := HCT.out g k
              by_cases hlk : k < n
              · have hlt2 : k < ds.length := by have := HND.out; omega
                obtain ⟨b, off, rfl, _, hb, hbr, hc⟩ := HD.out.open_ hbw (by omega)
                have c0 : wr.cell? ⟨b, off + k * 2, none⟩ = some (.string ds[k].key) := hc k hlt2 0 _ rfl
                have c1 : wr.cell? ⟨b, off + k * 2 + 1, none⟩ = some (.int .i64 ds[k].cents) := hc k hlt2 1 _ rfl
                clear hc
                have hkey : l.getD k default = ds[k].key := by rw [HE.out, List.getD_eq_getElem?_getD, List.getElem?_map, List.getElem?_eq_getElem hlt2]; rfl
                have hcen : (ds.map (·.cents)).getD k 0 = ds[k].cents := by rw [List.getD_eq_getElem?_getD, List.getElem?_map, List.getElem?_eq_getElem hlt2]; rfl
                have hcb : -1000000000 ≤ ds[k].cents ∧ ds[k].cents ≤ 1000000000 := by
                  exact HCT1.out ds[k].cents (List.mem_map.2 ⟨_, List.getElem_mem hlt2, rfl⟩)
                have HW := hide (show whoTo l g (k + 1) = if bitN g k = 1 then whoTo l g k ++ [ds[k].key] else whoTo l g k by simp only [whoTo]; rw [hkey])
                have HSu := hide (show sumG (ds.map (·.cents)) g (k + 1) = if bitN g k = 1 then sumG (ds.map (·.cents)) g k + ds[k].cents else sumG (ds.map (·.cents)) g k by simp only [sumG]; rw [hcen])
                have hwl := whoTo_len l g k
                have hab := and_bit g k (by omega)
                clear hkey hcen
                generalize whoTo l g k = W at *
                generalize sumG (ds.map (·.cents)) g k = s at *
                generalize ds[k].key = key at *
                generalize ds[k].cents = cen at *
                rcases bit_le g k with hbit | hbit
                · have HB := hide hbit
                  rw [hbit] at hab
                  clear hbit
                  go_wp2_with fail
                  go_roundw
                  case rel => exact ⟨k + 1, by omega, by go_num, by rw [HW.out, if_neg (by rw [HB.out]; omega)]; exact hown.alloc _, by rw [HSu.out, if_neg (by rw [HB.out]; omega)], hbw.alloc _⟩
                  case measure => simp [intOf]; omega
                · have HB := hide hbit
                  rw [hbit] at hab
                  clear hbit
                  have hsz := hbw.sz
                  go_wp2_with (at_builtin; refine wpApp rfl _ _ _ rfl el_S encS encS_len encS_one (by omega) (by omega) w.heap.size _ W rfl ((hown.alloc _).alloc _) _ key _ rfl (hnew (by simp)) rfl (by omega) (by simp; omega) ?_; intro v2 w2 hown2 hg2; (have x1 : w2.cell? ⟨wr.heap.size, 1, none⟩ = some (.int .i64 cen) := World.grownBy.cell hg2 (show ((wr.alloc _).alloc _).cell? ⟨wr.heap.size, 1, none⟩ = _ by go_simp) (by intro e; first | (have h := (hown.lt _ e).2; exact absurd h (by simp)) | (have h := (hown.lt _ e.symm).2; exact absurd h (by simp)))))
                  go_roundw
                  case rel => exact ⟨k + 1, by omega, by go_num, by rw [HW.out, if_pos HB.out]; exact hown2, by rw [HSu.out, if_pos HB.out], ((hbw.alloc _).alloc _).grown hg2 (own_blk_lt hown)⟩
                  case measure => simp [intOf]; omega
              · have ek : k = n := by omega
                subst ek
                have hlc : g < cs.length := by have := HM.out; omega
                obtain ⟨b, off, rfl, _, hb, hbr, hc⟩ := HC.out.open_ hbw (by omega)
                have c0 : wr.cell? ⟨b, off + g, none⟩ = some (.int .i64 cs[g]) := by have := hc g hlc 0 _ rfl; simpa using this
                clear hc
                have HG := hide (show cs.getD g 0 = cs[g] from getD_at hlc)
                generalize sumG (ds.map (·.cents)) g k = s at *
                generalize cs[g] = cg at *
                by_cases hlt2 : cg < s
                · go_wp2_with fail
                  go_ret2
                  obtain ⟨A', c3, ev, hR', _⟩ := Rd.of_own encS_len rfl hown
                  refine ⟨A', c3, whoTo l g k, congrArg (fun v => Ending.returned (Value.tuple #[v, .int .i64 0])) ev, ?_, hR', hbw⟩
                  rw [if_pos rfl, HGV.out, HQ.out, HDr.out, if_pos (by rw [HG.out]; exact hlt2)]
                · go_wp2_with fail
                  go_roundw
                  case rel => exact ⟨g + 1, by omega, by go_num, by rw [HQ.out, HDr.out, if_neg (by rw [HG.out]; exact hlt2)], hbw⟩
                  case measure => simp [intOf]; omega
          · go_wp2_with fail
            go_ret2
            refine ⟨none, 0, [], rfl, ?_, Rd.nil, hbw⟩
            rw [if_pos rfl, HGV.out, HQ.out, List.drop_of_length_le (by simp; omega)]
            rfl
      · have HF := hide (duesF_arg he hb)
        rw [hb] at HCo
        clear h0 he hb hD hR hS hC
        generalize cs.length = m at *
        generalize l.length = n at *
        generalize ds.length = n2 at *
        go_enter Tryd.func14, Tryd.ntmps14
        go_wp2_with (first
          | (go_at_call 46; refine (HFa.out).mono ?_; rintro e w1 ⟨rfl, rfl⟩)
          | (go_at_call 56; refine (HEq.out).mono ?_; rintro e w1 ⟨rfl, hn1⟩)
          | (go_at_call 58; refine (HCo.out _ hn1).mono ?_; rintro e w2 ⟨rfl, hn2⟩))
        go_ret2
        rw [HF.out]
        exact KeysU.no (by omega) (hn1.trans hn2)
    · have HF := hide (duesF_form he)
      rw [decide_eq_false he] at HEq
      clear h0 he hD hR hS hC HCo
      generalize cs.length = m at *
      generalize l.length = n at *
      generalize ds.length = n2 at *
      go_enter Tryd.func14, Tryd.ntmps14
      go_wp2_with (first
        | (go_at_call 46; refine (HFa.out).mono ?_; rintro e w1 ⟨rfl, rfl⟩)
        | (go_at_call 56; refine (HEq.out).mono ?_; rintro e w1 ⟨rfl, hn1⟩))
      go_ret2
      rw [HF.out]
      exact KeysU.no (by omega) hn1
  · rw [if_neg h0]
    have t1 : (fairF l cs != 0) = true := by simpa using h0
    have H0 := hide h0
    clear h0 hD hR hS hC HCo HEq
    generalize cs.length = m at *
    generalize l.length = n at *
    generalize ds.length = n2 at *
    generalize fairF l cs = F at *
    go_enter Tryd.func14, Tryd.ntmps14
    go_wp2_with (go_at_call 46; refine (HFa.out).mono ?_; rintro e w1 ⟨rfl, rfl⟩)
    go_ret2
    exact KeysU.no H0.out (Nx.refl _)

theorem bit_zero (i : Nat) : bitN 0 i = 0 := by unfold bitN; simp
theorem sumG_zero (cs : List Int) (k : Nat) : sumG cs 0 k = 0 := by
  induction k with
  | zero => rfl
  | succ k ih => simp only [sumG]; rw [bit_zero, if_neg (by omega), ih]
set_option maxRecDepth 100000 in
set_option maxHeartbeats 4000000 in
theorem w_GainsOf (lo lo' lo2 : Nat) (A B D : Option Addr) (c c' c2 : Nat) (l : List ByteArray) (cs : List Int) (ds : List Due) (w : World) (hR : Rd w lo A 1 encS l) (hC : Rd w lo' B 1 encI cs) (hD : Rd w lo2 D 2 encDue ds) (hl : l.length ≤ 6) (h0 : fairF l cs = 0) (h1 : duesF l ds = 0) :
    Calls Tryd.prog 18 #[.slice A l.length c, .slice B cs.length c', .slice D ds.length c2] w fun e w' => ∃ (A' : Option Addr) (c3 : Nat), e = .returned (.slice A' (gainV l cs ds).length c3) ∧ Rd w' w.heap.size A' 1 encS (gainV l cs ds) ∧ Nx w w' := by
  obtain ⟨_, hcl, hc0, hcb⟩ := fairF_right h0
  obtain ⟨he, hb⟩ := duesF_right h1
  have hct := badD_bd hb
  have hnd : ds.length = l.length := by rw [he, List.length_map]
  have HGV := hide (show gainV l cs ds = gainL l (ds.map (·.cents)) cs (List.range (2 ^ l.length)) from rfl)
  have HC := hide hC
  have HD := hide hD
  have HR := hide hR
  have HCT1 := hide hct
  have HCT := hide (sumG_bd (ds.map (·.cents)) hct)
  have hp := pow_bd (n := l.length) (by omega)
  have hst := gainL_drop l (ds.map (·.cents)) cs (2 ^ l.length) 0 (by omega)
  rw [hc0, sumG_zero, if_neg (by omega), List.drop_zero] at hst
  generalize gainV l cs ds = V at *
  generalize hm : cs.length = m at *
  rw [hnd]
  have HND := hide hnd
  have HM := hide hm
  rw [← hcl] at HGV hp hst
  have HST := hide hst
  clear h0 hb he hC hD hR hct hcb hnd hm hcl h1 hc0 hst
  generalize hn : l.length = n at *
  have HN := hide hn
  clear hn
  go_enter Tryd.func18, Tryd.ntmps18
  go_wp2_with fail
  go_loopw [6, 7, 8, 9, 10, 11] (fun _ i _ _ _ _ wr => ∃ g : Nat, g ≤ m ∧ i = .int .i64 g ∧ gainL l (ds.map (·.cents)) cs (List.range m) = gainL l (ds.map (·.cents)) cs ((List.range m).drop g) ∧ Nx w wr) (fun _ i _ _ _ _ _ => m - (intOf i).toNat)
  case atStart => exact ⟨1, by omega, rfl, HST.out, Nx.refl _⟩
  case round =>
    obtain ⟨g, hg, rfl, hq, hbw⟩ := hrel
    have HQ := hide hq
    clear hq
    by_cases hlt : g < m
    · have HDr := hide (gainL_drop l (ds.map (·.cents)) cs m g hlt)
      rw [HN.out] at HDr
      go_wp2_with fail
      obtain ⟨wo, hwo⟩ : ∃ wo, wo = wr := ⟨_, rfl⟩
      rw [← hwo] at hbw ⊢
      clear hwo
      go_loopw [8, 9, 10, 11, 20] (fun v s _ _ i wr => ∃ k : Nat, k ≤ n ∧ i = .int .i64 k ∧ wr.ownsRow w.heap.size 9 1 v (whoTo l g k).length ((whoTo l g k).flatMap encS) ∧ s = .int .i64 (sumG (ds.map (·.cents)) g k) ∧ Nx w wr) (fun _ _ _ _ i _ => n - (intOf i).toNat)
      case atStart => exact ⟨0, Nat.zero_le _, rfl, World.ownsRow_nil _ _ _ _, rfl, hbw⟩
      case round =>
        clear hbw
        obtain ⟨k, hk, rfl, hown, rfl, hbw⟩ := hrel
        have hsb := HCT.out g k
        by_cases hlk : k < n
        · have hlt2 : k < ds.length := by have := HND.out; omega
          have hlt1 : k < l.length := by have := HN.out; omega
          obtain ⟨b, off, rfl, _, hb, hbr, hc⟩ := HD.out.open_ hbw (by omega)
          have c1 : wr.cell? ⟨b, off + k * 2 + 1, none⟩ = some (.int .i64 ds[k].cents) := hc k hlt2 1 _ rfl
          obtain ⟨b1, off1, rfl, _, hb1, hbr1, hc1⟩ := HR.out.open_ hbw (by omega)
          have d0 : wr.cell? ⟨b1, off1 + k, none⟩ = some (.string l[k]) := by have := hc1 k hlt1 0 _ rfl; simpa using this
          clear hc hc1
          have hkey : l.getD k default = l[k] := by rw [List.getD_eq_getElem?_getD, List.getElem?_eq_getElem hlt1]; rfl
          have hcen : (ds.map (·.cents)).getD k 0 = ds[k].cents := by rw [List.getD_eq_getElem?_getD, List.getElem?_map, List.getElem?_eq_getElem hlt2]; rfl
          have hcb : -1000000000 ≤ ds[k].cents ∧ ds[k].cents ≤ 1000000000 := by
            exact HCT1.out ds[k].cents (List.mem_map.2 ⟨_, List.getElem_mem hlt2, rfl⟩)
          have HW := hide (show whoTo l g (k + 1) = if bitN g k = 1 then whoTo l g k ++ [l[k]] else whoTo l g k by simp only [whoTo]; rw [hkey])
          have HSu := hide (show sumG (ds.map (·.cents)) g (k + 1) = if bitN g k = 1 then sumG (ds.map (·.cents)) g k + ds[k].cents else sumG (ds.map (·.cents)) g k by simp only [sumG]; rw [hcen])
          have hwl := whoTo_len l g k
          have hab := mod_bit g k
          have hat := tmod_bit g k
          clear hkey hcen
          generalize whoTo l g k = W at *
          generalize sumG (ds.map (·.cents)) g k = s at *
          generalize l[k] = key at *
          generalize ds[k].cents = cen at *
          rcases bit_le g k with hbit | hbit
          · have HB := hide hbit
            rw [hbit] at hab hat
            clear hbit
            go_wp2_with fail
            go_roundw
            case rel => exact ⟨k + 1, by omega, by go_num, by rw [HW.out, if_neg (by rw [HB.out]; omega)]; exact hown, by rw [HSu.out, if_neg (by rw [HB.out]; omega)], hbw⟩
            case measure => simp [intOf]; omega
          · have HB := hide hbit
            rw [hbit] at hab hat
            clear hbit
            have hsz := hbw.sz
            go_wp2_with (at_builtin; refine wpApp rfl _ _ _ rfl el_S encS encS_len encS_one (by omega) (by omega) w.heap.size _ W rfl (hown.alloc _) _ key _ rfl (hnew (by simp)) rfl (by omega) (by simp; omega) ?_; intro v2 w2 hown2 hg2; (have x1 : w2.cell? ⟨b, off + k * 2 + 1, none⟩ = some (.int .i64 cen) := World.grownBy.cell hg2 ((Below.cell ((Nx.refl wr).alloc _) (p := ⟨b, _, none⟩) hbr).trans c1) (by intro e; first | (have h := (hown.lt _ e).1; exact absurd h (by show ¬ w.heap.size ≤ b; omega)) | (have h := (hown.lt _ e.symm).1; exact absurd h (by show ¬ w.heap.size ≤ b; omega)))))
            go_roundw
            case rel => exact ⟨k + 1, by omega, by go_num, by rw [HW.out, if_pos HB.out]; exact hown2, by rw [HSu.out, if_pos HB.out], (hbw.alloc _).grown hg2 (own_blk_lt hown)⟩
            case measure => simp [intOf]; omega
        · have ek : k = n := by omega
          subst ek
          have hlc : g < cs.length := by have := HM.out; omega
          obtain ⟨b, off, rfl, _, hb, hbr, hc⟩ := HC.out.open_ hbw (by omega)
          have c0 : wr.cell? ⟨b, off + g, none⟩ = some (.int .i64 cs[g]) := by have := hc g hlc 0 _ rfl; simpa using this
          clear hc
          have HG := hide (show cs.getD g 0 = cs[g] from getD_at hlc)
          generalize sumG (ds.map (·.cents)) g k = s at *
          generalize cs[g] = cg at *
          by_cases hlt2 : cg < s
          · go_wp2_with fail
            go_ret
            obtain ⟨A', c3, ev, hR', _⟩ := Rd.of_own encS_len rfl hown
            have ev2 : whoTo l g k = V := by rw [HGV.out, HQ.out, HDr.out, if_pos (by rw [HG.out]; exact hlt2)]
            rw [ev2] at ev hR'
            exact ⟨A', c3, congrArg Ending.returned ev, hR', hbw⟩
          · go_wp2_with fail
            go_roundw
            case rel => exact ⟨g + 1, by omega, by go_num, by rw [HQ.out, HDr.out, if_neg (by rw [HG.out]; exact hlt2)], hbw⟩
            case measure => simp [intOf]; omega
    · go_wp2_with fail
      go_ret
      have ev2 : V = [] := by rw [HGV.out, HQ.out, List.drop_of_length_le (by simp; omega)]; rfl
      rw [ev2]
      first | exact ⟨none, 0, rfl, Rd.nil, hbw⟩ | exact ⟨none, ⟨0, rfl⟩, Rd.nil, hbw⟩
end Go.Proofs.YtjhmgkoghapocaaDoor
