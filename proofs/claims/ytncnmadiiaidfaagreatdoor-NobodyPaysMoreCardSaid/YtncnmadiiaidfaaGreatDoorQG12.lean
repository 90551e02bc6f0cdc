/- The zone of a node; the zones to which nodes come: the program's and the reference's. -/
import Derived.Test.YtncnmadiiaidfaaGreatDoorQG2
import Derived.Test.YtncnmadiiaidfaaGreatDoorQZoneF
import Derived.Test.YtncnmadiiaidfaaGreatDoorQG1
import Derived.Test.YtncnmadiiaidfaaGreatDoorQG7
import Derived.Shelf.Slices.CompactS
import Derived.Deep.DeepCutAuto
import Derived.Test.YtncnmadiiaidfaaGreatDoorQShelfZ
import Derived.Test.YtncnmadiiaidfaaGreatDoorQG0
import Derived.Shelf.Slices.Cells
import Derived.Lib.LazyBuf
namespace Go.Proofs.YtncnmadiiaidfaaGreatDoor
open Go.RowKit Go.Proofs Go.Shelf

set_option maxRecDepth 100000 in
set_option maxHeartbeats 2000000 in
theorem w_zoneOf (lo : Nat) (A : Option Addr) (c : Nat) (zs : List Zone) (s : ByteArray) (w : World) (hR : RdZones w lo A zs) (hl : zs.length ≤ 100) (hs : ∀ z ∈ zs, z.nodes.Pairwise ltS) :
    Calls Tryz.prog 115 #[.slice A zs.length c, .string s] w fun e w' => e = .returned (.string (zoneO zs s)) ∧ Nx w w' := by
  have HX := hide hR.2
  have HR := hide hR.1
  have HS := hide hs
  generalize hn : zs.length = n at *
  have HN := hide hn
  clear hR hn hs
  go_enter Tryz.func115, Tryz.ntmps115
  go_wp2_with fail
  go_loopw [11] (fun i wr => ∃ k : Nat, k ≤ n ∧ i = .int .i64 k ∧ Nx w wr ∧ zoneO zs s = zoneO (zs.drop k) s) (fun i _ => n - (intOf i).toNat)
  case atStart => exact ⟨0, Nat.zero_le _, rfl, Nx.refl _, rfl⟩
  case round =>
    obtain ⟨k, hk, rfl, hbw, hq⟩ := hrel
    have HQ := hide hq
    clear hq
    by_cases hlt : k < n
    · have hlt' : k < zs.length := by have := HN.out; omega
      have HD := hide (zoneO_drop zs s k hlt')
      obtain ⟨hRx, hSx, hLx, hKx⟩ := HX.out zs[k] (List.getElem_mem hlt')
      have HPS := hide (HS.out zs[k] (List.getElem_mem hlt'))
      obtain ⟨b, off, rfl, _, hb, hbr, hc⟩ := HR.out.open_ hbw (by omega)
      have c0 : wr.cell? ⟨b, off + k * 2, none⟩ = some (.string zs[k].key) := hc k hlt' 0 _ rfl
      have c1 : wr.cell? ⟨b, off + k * 2 + 1, none⟩ = some (.slice zs[k].a zs[k].nodes.length zs[k].cap) := hc k hlt' 1 _ rfl
      clear hc
      generalize zs[k] = x at *
      have HC := hide (w_BinS _ _ x.cap _ s (wr.alloc (.cells #[.string x.key, .slice x.a x.nodes.length x.cap] 61)) (hRx.nx (hbw.alloc _)) (by omega) HPS.out)
      have g0 : (wr.alloc (.cells #[.string x.key, .slice x.a x.nodes.length x.cap] 61)).cell? ⟨wr.heap.size, 0, none⟩ = some (.string x.key) := by go_simp
      have HG := hide g0
      clear hRx hSx g0
      cases hm : memB x.nodes s
      · have HM := hide hm
        rw [hm] at HC
        clear hm
        go_wp2_with (go_at_call 171; refine HC.out.mono ?_; rintro e w1 ⟨q, rfl, hn1⟩)
        go_roundw
        case rel => exact ⟨k + 1, by omega, by go_num, (hbw.alloc _).trans hn1, by rw [HQ.out, HD.out, HM.out]; rfl⟩
        case measure => simp [intOf]; omega
      · have HM := hide hm
        rw [hm] at HC
        clear hm
        go_wp2_with (go_at_call 171; refine HC.out.mono ?_; rintro e w1 ⟨q, rfl, hn1⟩; (have g1 : w1.cell? ⟨wr.heap.size, 0, none⟩ = some (.string x.key) := World.grownBy.cell (hn1.gr none) HG.out (by simp)))
        go_ret
        exact ⟨congrArg Ending.returned (congrArg Value.string (by rw [HQ.out, HD.out, HM.out]; rfl)), (hbw.alloc _).trans hn1⟩
    · have ek : k = n := by omega
      subst ek
      have HE := hide (show zoneO (zs.drop k) s = ByteArray.empty by rw [List.drop_eq_nil_iff.2 (by have := HN.out; omega)]; rfl)
      go_wp2_with fail
      go_ret
      exact ⟨congrArg Ending.returned (congrArg Value.string (by rw [HQ.out, HE.out]; rfl)), hbw⟩

end Go.Proofs.YtncnmadiiaidfaaGreatDoor
/- The zones to which nodes come: the program's list and the reference's. -/
namespace Go.Proofs.YtncnmadiiaidfaaGreatDoor
open Go.RowKit Go.Proofs Go.Shelf

/-- Some strings in new memory. -/
def StrsR (L : List ByteArray) (w : World) (e : Ending) (w' : World) : Prop :=
  ∃ (A : Option Addr) (c : Nat), e = .returned (.slice A L.length c) ∧ Rd w' w.heap.size A 1 encS L ∧ Nx w w'

theorem ne_empty {z : ByteArray} (h : ¬ z = ByteArray.empty) : z.toList.isEmpty = false := by
  rw [Lib.toList_data]
  cases h1 : z.data.toList with
  | nil => exact absurd (data_inj (a := z) (b := ByteArray.empty) h1) h
  | cons _ _ => rfl
theorem last_get {L : List ByteArray} (h : 0 < L.length) : L.getLast? = some (L[L.length - 1]'(by omega)) := by
  rw [List.getLast?_eq_getElem?, List.getElem?_eq_getElem (by omega)]

set_option maxRecDepth 100000 in
set_option maxHeartbeats 2000000 in
theorem w_crossed (lo lo' : Nat) (A B : Option Addr) (c c' : Nat) (zs : List Zone) (l : List ByteArray) (w : World) (hR : RdZones w lo A zs) (hl : zs.length ≤ 100) (hs : ∀ z ∈ zs, z.nodes.Pairwise ltS) (hB : Rd w lo' B 1 encS l) (hl' : l.length ≤ 65536) :
    Calls Tryz.prog 73 #[.slice A zs.length c, .slice B l.length c'] w (StrsR (crossO zs l) w) := by
  have HZ := hide (fun s w' hn => w_zoneOf lo A c zs s w' (hR.nx hn) hl hs)
  have HB := hide hB
  generalize hn : l.length = n at *
  generalize zs.length = zl at *
  have HN := hide hn
  clear hR hn hs hB
  go_enter Tryz.func73, Tryz.ntmps73
  go_wp2_with fail
  go_loopw [5, 11] (fun v i wr => ∃ k : Nat, k ≤ n ∧ i = .int .i64 k ∧ (crossO zs (l.take k)).length ≤ k ∧ Nx w wr ∧ wr.ownsRow w.heap.size 9 1 v (crossO zs (l.take k)).length ((crossO zs (l.take k)).flatMap encS)) (fun _ i _ => n - (intOf i).toNat)
  case atStart => exact ⟨0, Nat.zero_le _, rfl, by simp [crossO, filtO, Lib.compact, Lib.compactUpTo], Nx.refl _, World.ownsRow_nil _ _ _ _⟩
  case round =>
    obtain ⟨k, hk, rfl, hcl, hbw, hown⟩ := hrel
    by_cases hlt : k < n
    · have hlt' : k < l.length := by have := HN.out; omega
      have HD := hide (crossO_take zs l k hlt')
      obtain ⟨b, off, rfl, _, hb, hbr, hc⟩ := HB.out.open_ hbw (by omega)
      have c0 : wr.cell? ⟨b, off + k, none⟩ = some (.string l[k]) := by have := hc k hlt' 0 _ rfl; simpa using this
      clear hc
      generalize l[k] = nd at *
      generalize crossO zs (l.take k) = L at *
      by_cases hz : zoneO zs nd = ByteArray.empty
      · have HD2 := HD.out
        rw [if_pos (.inl hz)] at HD2
        have HD3 := hide HD2
        have HC := HZ.out nd wr hbw
        rw [hz] at HC
        have HC2 := hide HC
        clear HD HD2 HC hz
        have HO := hide hown
        clear hown
        go_wp2_with (go_at_call 115; refine HC2.out.mono ?_; rintro e w1 ⟨rfl, hn1⟩)
        go_roundw
        case rel => exact ⟨k + 1, by omega, by go_num, by rw [HD3.out]; omega, hbw.trans hn1, by rw [HD3.out]; exact own_nx HO.out hn1⟩
        case measure => simp [intOf]; omega
      · have he := ne_empty hz
        have HZN := hide hz
        have HC := HZ.out nd wr hbw
        generalize zoneO zs nd = z at *
        have HC2 := hide HC
        clear HC hz
        by_cases hL0 : L.length = 0
        · have hLn : L = [] := List.eq_nil_of_length_eq_zero hL0
          have HD2 := HD.out
          rw [if_neg (fun hc => hc.elim HZN.out (fun h => h.1 hLn))] at HD2
          have HD3 := hide HD2
          obtain ⟨A1, c1, ev, _, _⟩ := Rd.of_own encS_len rfl hown
          obtain rfl := ev
          have t1 : ((L.length : Int) == 0) = true := by rw [hL0]; rfl
          have HO := hide hown
          clear HD HD2 hown hLn hL0
          go_wp2_with (first
            | (go_at_call 115; refine HC2.out.mono ?_; rintro e w1 ⟨rfl, hn1⟩)
            | (at_builtin; refine wpApp rfl _ _ _ rfl el_S encS encS_len encS_one (by omega) (by omega) w.heap.size _ L rfl ((own_nx HO.out hn1).alloc _) _ z _ rfl (hnew (by simp)) rfl (by omega) (by have := hbw.sz; have := hn1.sz; simp; omega) ?_; intro v2 w2 hown2 hg2))
          have hnx2 := ((hbw.trans hn1).alloc (.cells #[.string z] 9)).grown hg2 (fun j hj => own_blk_lt HO.out j hj)
          go_roundw
          case rel => exact ⟨k + 1, by omega, by go_num, by rw [HD3.out, List.length_append]; simp; omega, hnx2, by rw [HD3.out]; exact hown2⟩
          case measure => simp [intOf]; omega
        · have hLp : 0 < L.length := by omega
          have hlast := last_get hLp
          obtain ⟨A1, c1, ev, hRL, _⟩ := Rd.of_own encS_len rfl hown
          obtain rfl := ev
          obtain ⟨b2, off2, rfl, _, hb2, _, hc2⟩ := hRL.open_ (Nx.refl _) hLp
          have c5 : wr.cell? ⟨b2, off2 + (L.length - 1), none⟩ = some (.string (L[L.length - 1]'(by omega))) := by have := hc2 (L.length - 1) (by omega) 0 _ rfl; simpa using this
          have C5 := hide c5
          generalize (L[L.length - 1]'(by omega)) = p at *
          have t1 : ((L.length : Int) == 0) = false := by rw [beq_eq_false_iff_ne]; omega
          have l1 : IntKind.i64.wrap ((L.length : Int) - 1) = (L.length : Int) - 1 := IntWalk.i64_in _ (by omega)
          have l2 : (1 : Int) ≤ (L.length : Int) := by omega
          have l3 : ((L.length : Int) - 1).toNat = L.length - 1 := by omega
          have l4 : (L.length : Int) - 1 < (L.length : Int) := by omega
          have hLne : L ≠ [] := fun h => hL0 (by rw [h]; rfl)
          have HO := hide hown
          by_cases hp : p = z
          · have t2 : (p.toList == z.toList) = true := by rw [eqS_iff]; simpa using hp
            have HD2 := HD.out
            rw [if_pos (.inr ⟨hLne, by rw [hlast, hp]⟩)] at HD2
            have HD3 := hide HD2
            clear HD HD2 hown hLne hlast hp c5 hc2 hRL hL0
            go_wp2_with (first
              | (go_at_call 115; refine HC2.out.mono ?_; rintro e w1 ⟨rfl, hn1⟩; (have c6 : w1.cell? ⟨b2, off2 + (L.length - 1), none⟩ = some (.string p) := World.grownBy.cell (hn1.gr none) C5.out (by simp))))
            go_roundw
            case rel => exact ⟨k + 1, by omega, by go_num, by rw [HD3.out]; omega, hbw.trans hn1, by rw [HD3.out]; exact own_nx HO.out hn1⟩
            case measure => simp [intOf]; omega
          · have t2 : (p.toList == z.toList) = false := by rw [eqS_iff]; simpa using hp
            have HD2 := HD.out
            rw [if_neg (fun hc => hc.elim HZN.out (fun h => by
              have h2 := h.2
              rw [hlast] at h2; injection h2 with h2; exact hp h2))] at HD2
            have HD3 := hide HD2
            clear HD HD2 hown hLne hlast hp c5 hc2 hRL hL0
            go_wp2_with (first
              | (go_at_call 115; refine HC2.out.mono ?_; rintro e w1 ⟨rfl, hn1⟩; (have c6 : w1.cell? ⟨b2, off2 + (L.length - 1), none⟩ = some (.string p) := World.grownBy.cell (hn1.gr none) C5.out (by simp)))
              | (at_builtin; refine wpApp rfl _ _ _ rfl el_S encS encS_len encS_one (by omega) (by omega) w.heap.size _ L rfl ((own_nx HO.out hn1).alloc _) _ z _ rfl (hnew (by simp)) rfl (by omega) (by have := hbw.sz; have := hn1.sz; simp; omega) ?_; intro v2 w2 hown2 hg2))
            have hnx2 := ((hbw.trans hn1).alloc (.cells #[.string z] 9)).grown hg2 (fun j hj => own_blk_lt HO.out j hj)
            go_roundw
            case rel => exact ⟨k + 1, by omega, by go_num, by rw [HD3.out, List.length_append]; simp; omega, hnx2, by rw [HD3.out]; exact hown2⟩
            case measure => simp [intOf]; omega
    · have ek : k = n := by omega
      subst ek
      have HTL := hide (show l.take k = l from List.take_of_length_le (by have := HN.out; omega))
      rw [HTL.out] at hown
      obtain ⟨A1, c1, ev, hRL, _⟩ := Rd.of_own encS_len rfl hown
      obtain rfl := ev
      go_wp2_with fail
      go_ret
      exact ⟨A1, c1, rfl, hRL, hbw⟩

end Go.Proofs.YtncnmadiiaidfaaGreatDoor
/- base.First of errors. -/
namespace Go.Proofs.YtncnmadiiaidfaaGreatDoor
open Go.RowKit

set_option maxHeartbeats 400000 in
theorem w_FirstE (lo : Nat) (A : Option Addr) (c : Nat) (zs : List Int) (w : World) (hR : Rd w lo A 1 encI zs) (hl : zs.length ≤ 65536) :
    Calls Tryz.prog 64 #[.slice A zs.length c] w fun e w' => e = .returned (.int .i64 (orI zs)) ∧ w = w' := by
  generalize hn : zs.length = n at *
  have HR := hide hR
  have HN := hide hn
  clear hR hn
  go_enter Tryz.func64, Tryz.ntmps64
  go_wp2
  go_loop [2, 4, 7] (fun _ _ i => ∃ k : Nat, k ≤ n ∧ i = .int .i64 k ∧ orI zs = orI (zs.drop k)) (fun _ _ i => n - (intOf i).toNat)
  case atStart => exact ⟨0, Nat.zero_le _, rfl, rfl⟩
  case round =>
    obtain ⟨k, hk, rfl, hq⟩ := hrel
    have HQ := hide hq
    clear hq
    by_cases hlt : k < n
    · have hlt' : k < zs.length := by have := HN.out; omega
      obtain ⟨b, off, rfl, _, hb, _, hc⟩ := HR.out.open_ (Nx.refl w) (by omega)
      have c0 : w.cell? ⟨b, off + k, none⟩ = some (.int .i64 zs[k]) := by have := hc k hlt' 0 _ rfl; simpa using this
      clear hc
      have HD := hide (orI_drop zs k hlt')
      by_cases hz : zs[k] = 0
      · have hz' : (zs[k] != 0) = false := by simpa using hz
        have HZ := hide hz
        clear hz
        go_wp2
        go_round
        case rel => exact ⟨k + 1, by omega, by go_num, by rw [HQ.out, HD.out, if_pos HZ.out]⟩
        case measure => simp [intOf]; omega
      · have hz' : (zs[k] != 0) = true := by simpa using hz
        have HZ := hide hz
        clear hz
        go_wp2
        go_ret
        exact ⟨ret_int (by rw [HQ.out, HD.out, if_neg HZ.out]), rfl⟩
    · have ek : k = n := by omega
      subst ek
      have HE := hide (show orI (zs.drop k) = 0 by rw [List.drop_eq_nil_iff.2 (by have := HN.out; omega)]; rfl)
      go_wp2
      go_ret
      exact ⟨ret_int (by rw [HQ.out, HE.out]), rfl⟩
end Go.Proofs.YtncnmadiiaidfaaGreatDoor
