/- The zones to which nodes come: the program's list and the reference's. -/
import Derived.Test.YtjhmgkoghapocaaDoorZoneO
import Derived.Test.YtjhmgkoghapocaaDoorStrS
import Derived.Shelf.Slices.Cells
import Derived.Lib.LazyBuf
namespace Go.Proofs.YtjhmgkoghapocaaDoor
open Go.RowKit Go.Proofs Go.Shelf

/-- Some strings in new memory. -/
def StrsR (L : List ByteArray) (w : World) (e : Ending) (w' : World) : Prop :=
  ∃ (A : Option Addr) (c : Nat), e = .returned (.slice A L.length c) ∧ Rd w' w.heap.size A 1 encS L ∧ Nx w w'

theorem ne_empty {z : ByteArray} (h : ¬ z = ByteArray.empty) : z.toList.isEmpty = false := by
  rw [Lib.toList_data]
  cases h1 : z.data.toList with
  | nil => exact absurd (data_inj (a := z) (b := ByteArray.empty) h1) h
  | cons _ _ => rfl
theorem last_get {L : List ByteArray} (h : 0 < L.length) : L.getLast? = some (L[L.length - 1]'(by omega)) := by
  rw [List.getLast?_eq_getElem?, List.getElem?_eq_getElem (by omega)]

set_option maxRecDepth 100000 in
set_option maxHeartbeats 2000000 in
theorem w_crossed (lo lo' : Nat) (A B : Option Addr) (c c' : Nat) (zs : List Zone) (l : List ByteArray) (w : World) (hR : RdZones w lo A zs) (hl : zs.length ≤ 100) (hs : ∀ z ∈ zs, z.nodes.Pairwise ltS) (hB : Rd w lo' B 1 encS l) (hl' : l.length ≤ 65536) :
    Calls Tryd.prog 70 #[.slice A zs.length c, .slice B l.length c'] w (StrsR (crossO zs l) w) := by
  have HZ := hide (fun s w' hn => w_zoneOf lo A c zs s w' (hR.nx hn) hl hs)
  have HB := hide hB
  generalize hn : l.length = n at *
  generalize zs.length = zl at *
  have HN := hide hn
  clear hR hn hs hB
  go_enter Tryd.func70, Tryd.ntmps70
  go_wp2_with fail
  go_loopw [5, 11] (fun v i wr => ∃ k : Nat, k ≤ n ∧ i = .int .i64 k ∧ (crossO zs (l.take k)).length ≤ k ∧ Nx w wr ∧ wr.ownsRow w.heap.size 9 1 v (crossO zs (l.take k)).length ((crossO zs (l.take k)).flatMap encS)) (fun _ i _ => n - (intOf i).toNat)
  case atStart => exact ⟨0, Nat.zero_le _, rfl, by simp [crossO, filtO, Lib.compact, Lib.compactUpTo], Nx.refl _, World.ownsRow_nil _ _ _ _⟩
  case round =>
    obtain ⟨k, hk, rfl, hcl, hbw, hown⟩ := hrel
    by_cases hlt : k < n
    · have hlt' : k < l.length := by have := HN.out; omega
      have HD := hide (crossO_take zs l k hlt')
      obtain ⟨b, off, rfl, _, hb, hbr, hc⟩ := HB.out.open_ hbw (by omega)
      have c0 : wr.cell? ⟨b, off + k, none⟩ = some (.string l[k]) := by have := hc k hlt' 0 _ rfl; simpa using this
      clear hc
      generalize l[k] = nd at *
      generalize crossO zs (l.take k) = L at *
      by_cases hz : zoneO zs nd = ByteArray.empty
      · have HD2 := HD.out
        rw [if_pos (.inl hz)] at HD2
        have HD3 := hide HD2
        have HC := HZ.out nd wr hbw
        rw [hz] at HC
        have HC2 := hide HC
        clear HD HD2 HC hz
        have HO := hide hown
        clear hown
        go_wp2_with (go_at_call 66; refine HC2.out.mono ?_; rintro e w1 ⟨rfl, hn1⟩)
        go_roundw
        case rel => exact ⟨k + 1, by omega, by go_num, by rw [HD3.out]; omega, hbw.trans hn1, by rw [HD3.out]; exact own_nx HO.out hn1⟩
        case measure => simp [intOf]; omega
      · have he := ne_empty hz
        have HZN := hide hz
        have HC := HZ.out nd wr hbw
        generalize zoneO zs nd = z at *
        have HC2 := hide HC
        clear HC hz
        by_cases hL0 : L.length = 0
        · have hLn : L = [] := List.eq_nil_of_length_eq_zero hL0
          have HD2 := HD.out
          rw [if_neg (fun hc => hc.elim HZN.out (fun h => h.1 hLn))] at HD2
          have HD3 := hide HD2
          obtain ⟨A1, c1, ev, _, _⟩ := Rd.of_own encS_len rfl hown
          obtain rfl := ev
          have t1 : ((L.length : Int) == 0) = true := by rw [hL0]; rfl
          have HO := hide hown
          clear HD HD2 hown hLn hL0
          go_wp2_with (first
            | (go_at_call 66; refine HC2.out.mono ?_; rintro e w1 ⟨rfl, hn1⟩)
            | (at_builtin; refine wpApp rfl _ _ _ rfl el_S encS encS_len encS_one (by omega) (by omega) w.heap.size _ L rfl ((own_nx HO.out hn1).alloc _) _ z _ rfl (hnew (by simp)) rfl (by omega) (by have := hbw.sz; have := hn1.sz; simp; omega) ?_; intro v2 w2 hown2 hg2))
          have hnx2 := ((hbw.trans hn1).alloc (.cells #[.string z] 9)).grown hg2 (fun j hj => own_blk_lt HO.out j hj)
          go_roundw
          case rel => exact ⟨k + 1, by omega, by go_num, by rw [HD3.out, List.length_append]; simp; omega, hnx2, by rw [HD3.out]; exact hown2⟩
          case measure => simp [intOf]; omega
        · have hLp : 0 < L.length := by omega
          have hlast := last_get hLp
          obtain ⟨A1, c1, ev, hRL, _⟩ := Rd.of_own encS_len rfl hown
          obtain rfl := ev
          obtain ⟨b2, off2, rfl, _, hb2, _, hc2⟩ := hRL.open_ (Nx.refl _) hLp
          have c5 : wr.cell? ⟨b2, off2 + (L.length - 1), none⟩ = some (.string (L[L.length - 1]'(by omega))) := by have := hc2 (L.length - 1) (by omega) 0 _ rfl; simpa using this
          have C5 := hide c5
          generalize (L[L.length - 1]'(by omega)) = p at *
          have t1 : ((L.length : Int) == 0) = false := by rw [beq_eq_false_iff_ne]; omega
          have l1 : IntKind.i64.wrap ((L.length : Int) - 1) = (L.length : Int) - 1 := IntWalk.i64_in _ (by omega)
          have l2 : (1 : Int) ≤ (L.length : Int) := by omega
          have l3 : ((L.length : Int) - 1).toNat = L.length - 1 := by omega
          have l4 : (L.length : Int) - 1 < (L.length : Int) := by omega
          have hLne : L ≠ [] := fun h => hL0 (by rw [h]; rfl)
          have HO := hide hown
          by_cases hp : p = z
          · have t2 : (p.toList == z.toList) = true := by rw [eqS_iff]; simpa using hp
            have HD2 := HD.out
            rw [if_pos (.inr ⟨hLne, by rw [hlast, hp]⟩)] at HD2
            have HD3 := hide HD2
            clear HD HD2 hown hLne hlast hp c5 hc2 hRL hL0
            go_wp2_with (first
              | (go_at_call 66; refine HC2.out.mono ?_; rintro e w1 ⟨rfl, hn1⟩; (have c6 : w1.cell? ⟨b2, off2 + (L.length - 1), none⟩ = some (.string p) := World.grownBy.cell (hn1.gr none) C5.out (by simp))))
            go_roundw
            case rel => exact ⟨k + 1, by omega, by go_num, by rw [HD3.out]; omega, hbw.trans hn1, by rw [HD3.out]; exact own_nx HO.out hn1⟩
            case measure => simp [intOf]; omega
          · have t2 : (p.toList == z.toList) = false := by rw [eqS_iff]; simpa using hp
            have HD2 := HD.out
            rw [if_neg (fun hc => hc.elim HZN.out (fun h => by
              have h2 := h.2
              rw [hlast] at h2; injection h2 with h2; exact hp h2))] at HD2
            have HD3 := hide HD2
            clear HD HD2 hown hLne hlast hp c5 hc2 hRL hL0
            go_wp2_with (first
              | (go_at_call 66; refine HC2.out.mono ?_; rintro e w1 ⟨rfl, hn1⟩; (have c6 : w1.cell? ⟨b2, off2 + (L.length - 1), none⟩ = some (.string p) := World.grownBy.cell (hn1.gr none) C5.out (by simp)))
              | (at_builtin; refine wpApp rfl _ _ _ rfl el_S encS encS_len encS_one (by omega) (by omega) w.heap.size _ L rfl ((own_nx HO.out hn1).alloc _) _ z _ rfl (hnew (by simp)) rfl (by omega) (by have := hbw.sz; have := hn1.sz; simp; omega) ?_; intro v2 w2 hown2 hg2))
            have hnx2 := ((hbw.trans hn1).alloc (.cells #[.string z] 9)).grown hg2 (fun j hj => own_blk_lt HO.out j hj)
            go_roundw
            case rel => exact ⟨k + 1, by omega, by go_num, by rw [HD3.out, List.length_append]; simp; omega, hnx2, by rw [HD3.out]; exact hown2⟩
            case measure => simp [intOf]; omega
    · have ek : k = n := by omega
      subst ek
      have HTL := hide (show l.take k = l from List.take_of_length_le (by have := HN.out; omega))
      rw [HTL.out] at hown
      obtain ⟨A1, c1, ev, hRL, _⟩ := Rd.of_own encS_len rfl hown
      obtain rfl := ev
      go_wp2_with fail
      go_ret
      exact ⟨A1, c1, rfl, hRL, hbw⟩

theorem strs_map (L : List ByteArray) : Lib.strsOf (fun i => L.getD i ByteArray.empty) L.length = L.map (fun s => s.data.toList) := by
  unfold Lib.strsOf
  apply List.ext_getElem?
  intro i
  rw [List.getElem?_map, List.getElem?_map]
  by_cases hi : i < L.length
  · rw [List.getElem?_range hi, List.getElem?_eq_getElem hi]
    simp [List.getD_eq_getElem?_getD, List.getElem?_eq_getElem hi]
  · rw [List.getElem?_eq_none (by simp; omega), List.getElem?_eq_none (by omega)]
    rfl
theorem encStr_back (s : ByteArray) : Go.Proofs.encStr s.data.toList = .string s := by
  obtain ⟨⟨l⟩⟩ := s
  rfl
theorem w_CompactS {base g cap : Nat} (L : List ByteArray) (w : World) (h : w.ownsRow base 9 1 (.slice (some ⟨g, 0, none⟩) L.length cap) L.length (L.flatMap encS)) (hl : L.length ≤ 65536) :
    Calls Tryd.prog 73 #[.slice (some ⟨g, 0, none⟩) L.length cap] w fun e w' => e = .returned (.slice (some ⟨g, 0, none⟩) (Lib.compact L).length cap) ∧ Rd w' base (some ⟨g, 0, none⟩) 1 encS (Lib.compact L) ∧ ∀ w0, Nx w0 w → w0.heap.size ≤ base → Nx w0 w' := by
  have hcap : L.length ≤ cap := by
    rcases h.2 with ⟨h0, _⟩ | ⟨g', cap', cur, hv, _, _, hnc, _⟩
    · cases h0
    · cases hv; exact hnc
  have hlt := h.lt g rfl
  have hcell : ∀ i, i < L.length → w.cell? ⟨g, 0 + i, none⟩ = some (.string (L.getD i ByteArray.empty)) := fun i hi => by
    have := own_cell encS_len rfl h i hi 0 _ rfl
    rw [List.getD_eq_getElem?_getD, List.getElem?_eq_getElem hi, Nat.zero_add]
    simpa using this
  have hcon := Any.slices_Compact_string_cells Tryd.compactStr g 0 L.length cap (fun i => L.getD i ByteArray.empty) w (by omega) hcap hcell (fun j _ => by rw [Nat.zero_add]; exact h.frozenAt j)
  rw [strs_map, compact_map (fun s : ByteArray => s.data.toList) (fun a b e => data_inj e), List.length_map] at hcon
  change Calls Tryd.prog 73 _ _ _ at hcon
  have hle := Lib.compact_length_le L
  refine hcon.mono ?_
  rintro e w' ⟨rfl, q, rfl⟩
  refine ⟨rfl, fun hp => ⟨g, 0, rfl, hlt.1, by simpa using hlt.2, fun i x hx j u hu => ?_⟩, fun w0 hn0 hb0 => ?_⟩
  · have hi : i < (Lib.compact L).length := (List.getElem?_eq_some_iff.1 hx).1
    have hj : j = 0 := by have := (List.getElem?_eq_some_iff.1 hu).1; simp [encS] at this; omega
    subst hj
    have hu2 : u = .string x := by simp [encS] at hu; exact hu.symm
    subst hu2
    have e0 := World.cell?_setCells_in g (((Lib.compact L).map (fun s : ByteArray => s.data.toList) ++ List.replicate (L.length - (Lib.compact L).length) []).map Go.Proofs.encStr) 0 (w.drewN q) (fun t ht => by
      have := hcell t (by simp at ht; omega)
      show (w.cell? ⟨g, 0 + t, none⟩).isSome = true
      rw [this]; rfl) i (by simp; omega)
    rw [Nat.zero_add] at e0 ⊢
    simp only [Nat.mul_one, Nat.add_zero]
    rw [e0, List.getElem_map, List.getElem_append_left (by simpa using hi), List.getElem_map, encStr_back]
    have := (List.getElem?_eq_some_iff.1 hx).2
    rw [this]
  · exact below_setCells (by omega) _ _ _ (hn0.drewN q)

set_option maxRecDepth 100000 in
set_option maxHeartbeats 2000000 in
theorem w_CrossedOf (lo lo' : Nat) (A B : Option Addr) (c c' : Nat) (zs : List Zone) (l : List ByteArray) (w : World) (hR : RdZones w lo A zs) (hl : zs.length ≤ 100) (hB : Rd w lo' B 1 encS l) (hl' : l.length ≤ 65536) :
    Calls Tryd.prog 33 #[.slice A zs.length c, .slice B l.length c'] w (StrsR (crossO zs l) w) := by
  have HZ := hide (fun s w' hn => w_ZoneFor lo A c zs s w' (hR.nx hn) hl)
  have HB := hide hB
  generalize hn : l.length = n at *
  generalize zs.length = zl at *
  have HN := hide hn
  clear hR hn hB
  go_enter Tryd.func33, Tryd.ntmps33
  go_wp2_with fail
  go_loopw [5, 11] (fun v i wr => ∃ k : Nat, k ≤ n ∧ i = .int .i64 k ∧ (filtO zs (l.take k)).length ≤ k ∧ Nx w wr ∧ wr.ownsRow w.heap.size 9 1 v (filtO zs (l.take k)).length ((filtO zs (l.take k)).flatMap encS)) (fun _ i _ => n - (intOf i).toNat)
  case atStart => exact ⟨0, Nat.zero_le _, rfl, by simp [filtO], Nx.refl _, World.ownsRow_nil _ _ _ _⟩
  case round =>
    obtain ⟨k, hk, rfl, hcl, hbw, hown⟩ := hrel
    by_cases hlt : k < n
    · have hlt' : k < l.length := by have := HN.out; omega
      have HD := hide (filtO_take zs l k hlt')
      obtain ⟨b, off, rfl, _, hb, hbr, hc⟩ := HB.out.open_ hbw (by omega)
      have c0 : wr.cell? ⟨b, off + k, none⟩ = some (.string l[k]) := by have := hc k hlt' 0 _ rfl; simpa using this
      clear hc
      generalize l[k] = nd at *
      generalize filtO zs (l.take k) = L at *
      by_cases hz : zoneO zs nd = ByteArray.empty
      · have HD2 := HD.out
        rw [if_pos hz] at HD2
        have HD3 := hide HD2
        have HC := HZ.out nd wr hbw
        rw [hz] at HC
        have HC2 := hide HC
        clear HD HD2 HC hz
        have HO := hide hown
        clear hown
        go_wp2_with (go_at_call 30; refine HC2.out.mono ?_; rintro e w1 ⟨rfl, hn1⟩)
        go_roundw
        case rel => exact ⟨k + 1, by omega, by go_num, by rw [HD3.out]; omega, hbw.trans hn1, by rw [HD3.out]; exact own_nx HO.out hn1⟩
        case measure => simp [intOf]; omega
      · have he := ne_empty hz
        have HD2 := HD.out
        rw [if_neg hz] at HD2
        have HD3 := hide HD2
        have HC := HZ.out nd wr hbw
        generalize zoneO zs nd = z at *
        have HC2 := hide HC
        have HO := hide hown
        clear HC hz HD HD2 hown
        go_wp2_with (first
          | (go_at_call 30; refine HC2.out.mono ?_; rintro e w1 ⟨rfl, hn1⟩)
          | (at_builtin; refine wpApp rfl _ _ _ rfl el_S encS encS_len encS_one (by omega) (by omega) w.heap.size _ L rfl ((own_nx HO.out hn1).alloc _) _ z _ rfl (hnew (by simp)) rfl (by omega) (by have := hbw.sz; have := hn1.sz; simp; omega) ?_; intro v2 w2 hown2 hg2))
        have hnx2 := ((hbw.trans hn1).alloc (.cells #[.string z] 9)).grown hg2 (fun j hj => own_blk_lt HO.out j hj)
        go_roundw
        case rel => exact ⟨k + 1, by omega, by go_num, by rw [HD3.out, List.length_append]; simp; omega, hnx2, by rw [HD3.out]; exact hown2⟩
        case measure => simp [intOf]; omega
    · have ek : k = n := by omega
      subst ek
      have HTL := hide (show l.take k = l from List.take_of_length_le (by have := HN.out; omega))
      rw [HTL.out] at hown
      have HCO := hide (show crossO zs l = Lib.compact (filtO zs l) from rfl)
      rw [HTL.out] at hcl
      generalize filtO zs l = L at *
      rcases hown.2 with ⟨rfl, h0⟩ | ⟨g, cap, cur, rfl, hg, _⟩
      · have hLn : L = [] := List.eq_nil_of_length_eq_zero h0
        subst hLn
        have hcon := fun W => Any.slices_Compact_string_empty Tryd.compactStr none 0 W
        change ∀ W, Calls Tryd.prog 73 _ _ _ at hcon
        clear hown
        go_wp2_with (go_at_call 73; refine (hcon _).mono ?_; rintro e w2 ⟨rfl, rfl⟩)
        go_ret
        rw [HCO.out]
        exact ⟨none, 0, rfl, Rd.nil, hbw⟩
      · have hcon := w_CompactS L wr hown (by omega)
        have HCN := hide hcon
        clear hown hcon
        go_wp2_with (go_at_call 73; refine HCN.out.mono ?_; rintro e w2 ⟨rfl, hR2, hn2⟩)
        go_ret
        rw [HCO.out]
        exact ⟨some ⟨g, 0, none⟩, cap, rfl, hR2, hn2 _ hbw (Nat.le_refl _)⟩
end Go.Proofs.YtjhmgkoghapocaaDoor
