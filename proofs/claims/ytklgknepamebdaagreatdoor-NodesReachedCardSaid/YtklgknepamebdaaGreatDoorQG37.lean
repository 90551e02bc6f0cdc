/- Plain: how long the ways between nodes take; rows of rows in memory. -/
import Derived.Test.YtklgknepamebdaaGreatDoorQG36
import Derived.Test.YtklgknepamebdaaGreatDoorQG8
import Derived.Test.YtklgknepamebdaaGreatDoorQG33
import Derived.Test.YtklgknepamebdaaGreatDoorQG31
import Derived.Test.YtklgknepamebdaaGreatDoorQG17
import Derived.Test.YtklgknepamebdaaGreatDoorQG29
import Derived.Deep.Onto
import Derived.Deep.DeepCutAuto
import Derived.Test.YtklgknepamebdaaGreatDoorQG21
import Derived.Test.YtklgknepamebdaaGreatDoorQG2
import Derived.Test.YtklgknepamebdaaGreatDoorQG4
import Derived.Laws.StructEq
import Derived.Test.YtklgknepamebdaaGreatDoorQG6
import Derived.Below
import Derived.WalkKit
import Derived.Test.YtklgknepamebdaaGreatDoorQRdsS
import Derived.Test.YtklgknepamebdaaGreatDoorQG20
import Derived.Test.YtklgknepamebdaaGreatDoorQG27
namespace Go.Proofs.YtklgknepamebdaaGreatDoor
open Go.RowKit

structure RowE where
  a : Option Addr
  c : Nat
  l : List Int
instance : Inhabited RowE := ⟨⟨none, 0, []⟩⟩
def encRow (r : RowE) : List Value := [.slice r.a r.l.length r.c]
theorem encRow_len (r : RowE) : (encRow r).length = 1 := rfl
theorem encRow_one (x : RowE) : ∀ v ∈ encRow x, v.oneCell' = true := by
  intro v hv; simp [encRow] at hv; subst hv; rfl
/-- How long a way takes; -1: there is none. -/
def matV (v ad : Int) : Int := if v < endT then v - ad else -1
def matR (ns : List Node) (rs : List Arc) (bs : List Ban) (l : List ByteArray) (ad : Int) (s : ByteArray) : List Int := l.map fun t => matV (arrS ns rs bs s t ad) ad
def matL (ns : List Node) (rs : List Arc) (bs : List Ban) (l : List ByteArray) (ad : Int) : List (List Int) := l.map (matR ns rs bs l ad)
/-- What is wrong with what Matrix is asked (of no more than 50 nodes). -/
def matF (ns : List Node) (rs : List Arc) (bs : List Ban) (l : List ByteArray) (ad : Int) : Int :=
  if roadsF ns rs bs = 0 then (if missB ns l = true then 8 else if momB ad then 0 else 1) else roadsF ns rs bs
theorem first_m1 {ns : List Node} {rs : List Arc} {bs : List Ban} {i k : Nat} {ad : Int} (h2 : chk (arcF ns) none rs = 0) (hi : i < ns.length) (hk : k < ns.length) (h0 : 0 ≤ ad) (h : gi (searchG (gphOf ns rs bs) i ad).first k < 0) : gi (searchG (gphOf ns rs bs) i ad).first k = -1 := by
  have hF := search_found (gph_ok (bs := bs) h2) h0 (show i < (gphOf ns rs bs).nn from hi)
  by_cases e : k = i
  · rw [e, hF.f0.1] at h; omega
  · rcases hF.f1 k hk e with ⟨h1, _⟩ | ⟨j, _, h2, _, _, h5, _⟩
    · exact h1
    · omega
theorem map_drop {α β : Type} (f : α → β) (l : List α) (k : Nat) (hk : k < l.length) : (l.drop k).map f = f l[k] :: (l.drop (k + 1)).map f := by
  rw [List.drop_eq_getElem_cons hk, List.map_cons]
/-- Rows of the call's own. -/
def OwnRows (w : World) (base : Nat) (es : List RowE) : Prop := ∀ r ∈ es, w.ownsRow base 3 1 (.slice r.a r.l.length r.c) r.l.length (r.l.flatMap encI)
theorem OwnRows.kept {w w' : World} {base : Nat} {es : List RowE} (h : OwnRows w base es) {row : Option Nat} (hg : w.grownBy w' row) (hne : ∀ r ∈ es, (Value.slice r.a r.l.length r.c).ownBlock = none ∨ (Value.slice r.a r.l.length r.c).ownBlock ≠ row) : OwnRows w' base es :=
  fun r hr => (h r hr).kept hg (hne r hr)
theorem OwnRows.nx {w w' : World} {base : Nat} {es : List RowE} (h : OwnRows w base es) (hn : Nx w w') : OwnRows w' base es := fun r hr => own_nx (h r hr) hn
theorem OwnRows.gr {w w' : World} {base s : Nat} {es : List RowE} (h : OwnRows w base es) (hn : Gr s w w') (hs : s < base) : OwnRows w' base es := fun r hr => own_gr (h r hr) hn hs
end Go.Proofs.YtklgknepamebdaaGreatDoor
/- How long the ways between nodes take: the program. -/
namespace Go.Proofs.YtklgknepamebdaaGreatDoor
open Go.RowKit

theorem el_Rows : ElemOf Tryz.prog 74 22 1 24 := ElemOf.mk' (z := .slice none 0 0) Tryz.underlying74 (by kernel_rfl) rfl
def MatOut (w : World) (rows : List (List Int)) (F : Int) (e : Ending) (w' : World) : Prop := ∃ (Z : Option Addr) (c : Nat) (es : List RowE), es.map (·.l) = rows ∧ e = .returned (.tuple #[.slice Z es.length c, .int .i64 F]) ∧ Rd w' 0 Z 1 encRow es ∧ (∀ r ∈ es, Rd w' 0 r.a 1 encI r.l) ∧ Nx w w'
set_option maxRecDepth 100000 in
set_option maxHeartbeats 8000000 in
theorem w_Matrix (lo : Nat) (A B C : Option Addr) (ca cb cc : Nat) (ns : List Node) (rs : List Arc) (bs : List Ban) (lo2 : Nat) (D : Option Addr) (cd : Nat) (l : List ByteArray) (ad : Int) (w : World)
    (hN : Rd w lo A 3 encNode ns) (hA : RdArcs w lo B rs) (hB : Rd w lo C 2 encBan bs) (hnl : ns.length ≤ 400) (hal : rs.length ≤ 400) (hbl : bs.length ≤ 400) (hS : SmallN ns) (hD : Rd w lo2 D 1 encS l) (hl : l.length ≤ 50) :
    Calls Tryz.prog 38 #[.agg #[.slice A ns.length ca, .slice B rs.length cb, .slice C bs.length cc], .slice D l.length cd, .int .i64 ad] w (MatOut w (if matF ns rs bs l ad = 0 then matL ns rs bs l ad else []) (matF ns rs bs l ad)) := by
  obtain ⟨wa, hwa⟩ : ∃ wa, wa = w.alloc (.cells #[.slice A ns.length ca, .slice B rs.length cb, .slice C bs.length cc] 30) := ⟨_, rfl⟩
  have hna : Nx w wa := hwa ▸ (Nx.refl w).alloc _
  have hgw : w.heap.size < wa.heap.size := by rw [hwa]; simp
  have b0 : wa.cell? ⟨w.heap.size, 0, none⟩ = some (.slice A ns.length ca) := by rw [hwa]; go_simp
  have b1 : wa.cell? ⟨w.heap.size, 1, none⟩ = some (.slice B rs.length cb) := by rw [hwa]; go_simp
  have b2 : wa.cell? ⟨w.heap.size, 2, none⟩ = some (.slice C bs.length cc) := by rw [hwa]; go_simp
  have hBox : BoxR wa w.heap.size lo A B C ca cb cc ns rs bs := ⟨b0, b1, b2, hgw, hN.nx hna, hA.nx hna, hB.nx hna, hnl, hal, hbl⟩
  have HC := hide (w_CheckRoads lo lo lo A B C ca cb cc ns rs bs wa hBox.hN hS hBox.nl hBox.hA hBox.al hBox.hB hBox.bl)
  have HF := hide (show matF ns rs bs l ad = if roadsF ns rs bs = 0 then (if missB ns l = true then 8 else if momB ad then 0 else 1) else roadsF ns rs bs from rfl)
  have HDD := hide (hD.nx hna)
  have HB := hide hBox
  have HOK := hide (fun h : roadsF ns rs bs = 0 => (⟨newOk_of h, (roads_ok h).2.1⟩ : NewOk ns rs bs ∧ chk (arcF ns) none rs = 0))
  have HNEWK := hide (fun h : roadsF ns rs bs = 0 => fun s (hs : 0 ≤ nodeI ns s) => nodeI_small h hs)
  clear hBox hN hA hB hD
  obtain ⟨F, hFF⟩ : ∃ F, F = matF ns rs bs l ad := ⟨_, rfl⟩
  rw [← hFF] at HF ⊢
  clear hFF
  obtain ⟨RW, hRW⟩ : ∃ RW, RW = if F = 0 then matL ns rs bs l ad else [] := ⟨_, rfl⟩
  rw [← hRW]
  have HRW := hide hRW
  clear hRW
  have HWA := hide hwa
  have HNA := hide hna
  clear hwa hna
  have tl : decide ((l.length : Int) > 50) = false := decide_eq_false (by omega)
  by_cases hR : roadsF ns rs bs = 0
  · obtain ⟨hNO, hCC⟩ := HOK.out hR
    have HF := hide (HF.out.trans (if_pos hR))
    have HMI := hide (fun W (hx : Nx wa W) => w_ContFS 97 (fun s => decide (nodeI ns s < 0)) (.pointer (some ⟨w.heap.size, 0, none⟩)) eg_matr1 lo2 D cd l W (fun y W2 hx2 => w_matr1 w.heap.size lo A ca ns y W2 (HB.out.nx (hx.trans hx2)).g0 (HB.out.nx (hx.trans hx2)).hN (by omega) hNO.sn) (HDD.out.nx hx) (by omega))
    have HNW := hide (fun W (hx : Nx wa W) => w_New w.heap.size lo A B C ca cb cc ns rs bs W (HB.out.nx hx) hNO)
    have HAR := hide (fun w0 W bt b n f bm M Ex (hM : MapR w0 bm w.heap.size lo A B C ca cb cc M ns rs bs) (hT : TripsR w0 W bt b n f bm ns.length rs.length (gphOf ns rs bs) Ex) hEx s t (hs : 0 ≤ nodeI ns s) (ht : 0 ≤ nodeI ns t) ha hn => w_Arrive w0 W bt b n f bm w.heap.size lo A B C ca cb cc M ns rs bs s t ad Ex hM hCC hNO.sn (HNEWK.out hR) hT hEx hs ht hnl ha hn)
    have HIX := hide (fun s t (hs : 0 ≤ nodeI ns s) (ht : 0 ≤ nodeI ns t) (ha : 0 ≤ ad ∧ ad ≤ 345686399999) => (show (gi (searchG (gphOf ns rs bs) (nodeN ns s) ad).first (nodeN ns t) = -1 ∧ arrS ns rs bs s t ad = endT) ∨ (0 ≤ gi (searchG (gphOf ns rs bs) (nodeN ns s) ad).first (nodeN ns t) ∧ arrS ns rs bs s t ad = gi (searchG (gphOf ns rs bs) (nodeN ns s) ad).first (nodeN ns t) ∧ gi (searchG (gphOf ns rs bs) (nodeN ns s) ad).first (nodeN ns t) < endT ∧ ad ≤ gi (searchG (gphOf ns rs bs) (nodeN ns s) ad).first (nodeN ns t)) by
      rcases arr_ix (bs := bs) hCC (nodeN_lt hs) (nodeN_lt ht) ha.1 (show ad < endT by unfold endT; omega) with ⟨h1, h2⟩ | h
      · exact .inl ⟨first_m1 hCC (nodeN_lt hs) (nodeN_lt ht) ha.1 h1, h2⟩
      · exact .inr h))
    rw [hR] at HC
    clear HOK hR hNO hCC
    rw [show (l.any fun s => decide (nodeI ns s < 0)) = missB ns l from rfl] at HMI
    have HMA := hide (fun h => miss_all (ns := ns) (l := l) h)
    generalize missB ns l = mb at *
    obtain ⟨MAT, hMAT⟩ : ∃ MAT, MAT = matL ns rs bs l ad := ⟨_, rfl⟩
    rw [← hMAT] at HRW
    have HMT := hide (show MAT = l.map (matR ns rs bs l ad) from hMAT)
    clear hMAT
    generalize hnl2 : l.length = n at *
    have HLN := hide hnl2
    clear hnl2
    go_enter Tryz.func38, Tryz.ntmps38
    go_upto_region 1 with fail
    rw [← HWA.out]
    generalize w.heap.size = g at *
    go_wp2_with fail
    refine HC.out.mono ?_
    rintro e w1 ⟨rfl, hn1⟩
    have HN1 := hide hn1
    clear b0 b1 b2 hn1 HC
    go_wp2_with fail
    refine (HMI.out w1 HN1.out).mono ?_
    rintro e w2 ⟨rfl, hn2⟩
    have HN2 := hide (HN1.out.trans hn2)
    clear hn2 HN1 HMI
    cases mb
    · have HF := HF.out
      rw [if_neg (by simp)] at HF
      cases hm : momB ad
      · rw [hm, if_neg (by simp)] at HF
        subst HF
        have hRW := HRW.out.trans (if_neg (by decide))
        subst hRW
        clear HRW
        go_wp2_with fail
        refine (w_Moment _ _).mono ?_
        rintro e w4 ⟨rfl, rfl⟩
        rw [hm]
        go_wp2_with fail
        exact bodyPost_ret (v := .tuple #[.slice none 0 0, .int .i64 1]) (by simp [results, Tryz.results38, go_sem]) rfl ⟨none, 0, [], rfl, rfl, Rd.nil, fun r hr => absurd hr (by simp), HNA.out.trans HN2.out⟩
      · rw [hm, if_pos rfl] at HF
        subst HF
        have hRW := (HRW.out.trans (if_pos rfl)).symm
        subst hRW
        clear HRW
        have HMB := hide (momB_true.1 hm)
        go_wp2_with fail
        refine (w_Moment _ _).mono ?_
        rintro e w4 ⟨rfl, rfl⟩
        rw [hm]
        clear hm
        go_wp2_with fail
        refine (HNW.out w2 HN2.out).mono ?_
        rintro e w4 ⟨bm, M, rfl, _, hM, hn4⟩
        have HM := hide hM
        have HN4 := hide (HN2.out.trans hn4)
        clear hM hn4 HN2 HNW
        go_wp2_with fail
        refine (w_NewTrips bm ns.length rs.length (gphOf ns rs bs) w4).mono ?_
        rintro e w5 ⟨bt, b, rfl, _, hT⟩
        have HT := hide hT
        have HBS := hide hT.mp.lt
        have HBL := hide hT.hb
        have HN5 := hide hT.nx
        have HAK := hide (fun W m fm Ex (hT : TripsR w4 W bt b m fm bm ns.length rs.length (gphOf ns rs bs) Ex) hEx s t (hs : 0 ≤ nodeI ns s) (ht : 0 ≤ nodeI ns t) hn => HAR.out w4 W bt b m fm bm M Ex HM.out hT hEx s t hs ht HMB.out hn)
        have HMS := hide (HMA.out (by first | trivial | rfl))
        have HIV := hide (fun s t (hs : 0 ≤ nodeI ns s) (ht : 0 ≤ nodeI ns t) => HIX.out s t hs ht HMB.out)
        obtain ⟨V, hV⟩ : ∃ V : ByteArray → ByteArray → Int, V = fun s t => arrS ns rs bs s t ad := ⟨_, rfl⟩
        have HIV := hide (fun s t (hs : 0 ≤ nodeI ns s) (ht : 0 ≤ nodeI ns t) => (show (gi (searchG (gphOf ns rs bs) (nodeN ns s) ad).first (nodeN ns t) = -1 ∧ V s t = endT) ∨ (0 ≤ gi (searchG (gphOf ns rs bs) (nodeN ns s) ad).first (nodeN ns t) ∧ V s t = gi (searchG (gphOf ns rs bs) (nodeN ns s) ad).first (nodeN ns t) ∧ gi (searchG (gphOf ns rs bs) (nodeN ns s) ad).first (nodeN ns t) < endT ∧ ad ≤ gi (searchG (gphOf ns rs bs) (nodeN ns s) ad).first (nodeN ns t)) by rw [hV]; exact HIV.out s t hs ht))
        obtain ⟨R, hRR⟩ : ∃ R : ByteArray → List Int, R = fun s => l.map fun t => matV (V s t) ad := ⟨_, rfl⟩
        have HMT := hide (show MAT = l.map R by rw [HMT.out, hRR, hV]; rfl)
        have HRV := hide (fun s => (show R s = l.map fun t => matV (V s t) ad by rw [hRR]))
        clear hT hV hRR HAR HIX HMA HM HNEWK
        generalize gphOf ns rs bs = G at *
        generalize ns.length = nn at *
        generalize rs.length = m at *
        go_wp2_with fail
        go_loopw [10, 35] (fun v u wr => ∃ (k : Nat) (es : List RowE) (q : Nat) (fm : Int × Int → Option (Option Nat)), k ≤ n ∧ u = .int .i64 k ∧ es.length = k ∧ MAT = es.map (·.l) ++ (l.drop k).map R ∧ wr.ownsRow w5.heap.size 22 1 v es.length (es.flatMap encRow) ∧ OwnRows wr w5.heap.size es ∧ TripsR w4 wr bt b q fm bm nn m G (fun x => v.ownBlock = some x) ∧ q ≤ k * 50 ∧ w5.heap.size ≤ wr.heap.size) (fun _ u _ => n - (intOf u).toNat)
        case atStart => exact ⟨0, [], 0, _, Nat.zero_le _, rfl, rfl, HMT.out, World.ownsRow_nil _ _ _ _, fun r hr => absurd hr (by simp), HT.out.more (fun x h => by cases h), Nat.zero_le _, Nat.le_refl _⟩
        case round =>
          obtain ⟨k, es, q, fm, hk, rfl, hes, hq, hown, hrows, hT, hqk, hwz⟩ := hrel
          have HQ := hide hq
          have HTT := hide hT
          have HO := hide hown
          have HRS := hide hrows
          have HES := hide hes
          clear hq hT hown hrows hes
          by_cases hlt : k < n
          · have hlt' : k < l.length := by have := HLN.out; omega
            have hwr := HN4.out.trans HTT.out.nx
            obtain ⟨by_, boff, rfl, _, hyb, hyb1, hyc⟩ := HDD.out.open_ hwr (by omega)
            have c0 : wr.cell? ⟨by_, boff + k, none⟩ = some (.string l[k]) := by have := hyc k hlt' 0 _ rfl; simpa using this
            have HD := hide (map_drop R l k hlt')
            have HSK := hide (HMS.out _ (List.getElem_mem hlt'))
            have HROW := hide (HRV.out l[k])
            clear hyc
            generalize l[k] = s at *
            obtain ⟨ROW, hROW⟩ : ∃ ROW, ROW = R s := ⟨_, rfl⟩
            rw [← hROW] at HD HROW
            have HBW := hide hwr
            clear hROW hwr
            go_wp2_with fail
            clear c0
            obtain ⟨wo, hwo⟩ : ∃ wo, wo = wr := ⟨_, rfl⟩
            subst hwo
            have HU := hide (fun x hx => (HO.out.lt x hx).2)
            go_loopw [13, 41] (fun vr u wi => ∃ (j : Nat) (acc : List Int) (q' : Nat) (fm' : Int × Int → Option (Option Nat)), j ≤ n ∧ u = .int .i64 j ∧ acc.length = j ∧ ROW = acc ++ (l.drop j).map (fun t => matV (V s t) ad) ∧ wi.ownsRow wo.heap.size 3 1 vr acc.length (acc.flatMap encI) ∧ TripsR w4 wi bt b q' fm' bm nn m G (fun x => u10.ownBlock = some x ∨ vr.ownBlock = some x) ∧ q' ≤ q + j ∧ Gr b wo wi) (fun _ u _ => n - (intOf u).toNat)
            case atStart => exact ⟨0, [], q, fm, Nat.zero_le _, rfl, rfl, HROW.out, World.ownsRow_nil _ _ _ _, HTT.out.more (fun x h => .inl (h.elim id (fun h => by cases h))), Nat.le_refl _, Gr.refl _ _⟩
            case round =>
              obtain ⟨j, acc, q', fm', hj, rfl, hac, hqr, hown, hT, hqj, hgw⟩ := hrel
              have HQR := hide hqr
              have HTI := hide hT
              have HOI := hide hown
              have HGW := hide hgw
              have HAC := hide hac
              clear hqr hT hown hgw hac
              have hszi : wo.heap.size ≤ wr.heap.size := HGW.out.sz
              by_cases hlj : j < n
              · have hlj' : j < l.length := by have := HLN.out; omega
                have hwi := HN4.out.trans HTI.out.nx
                obtain ⟨by2, boff2, e2, _, hyb2, hyb3, hyc2⟩ := HDD.out.open_ hwi (by omega)
                injection e2 with e2; injection e2 with e2 e3 e4
                subst e2 e3
                have c1 : wr.cell? ⟨by_, boff + j, none⟩ = some (.string l[j]) := by have := hyc2 j hlj' 0 _ rfl; simpa using this
                have HDJ := hide (map_drop (fun t => matV (V s t) ad) l j hlj')
                have ht := HMS.out _ (List.getElem_mem hlj')
                have hix := HIV.out s _ HSK.out ht
                have HA := hide (HAK.out wr q' fm' _ HTI.out (fun x hx => hx.elim (fun h => Nat.lt_of_lt_of_le (HU.out x h) hszi) (fun h => (HOI.out.lt x h).2)) s _ HSK.out ht (by omega))
                clear hyc2 ht
                generalize l[j] = t at *
                generalize gi (searchG G (nodeN ns s) ad).first (nodeN ns t) = z at *
                obtain ⟨mv, hmv⟩ : ∃ mv, mv = matV (V s t) ad := ⟨_, rfl⟩
                have HMV := hide (show (z < 0 → mv = z) ∧ (0 ≤ z → mv = z - ad) by
                  rw [hmv]
                  unfold matV
                  rcases hix with ⟨a1, a2⟩ | ⟨a1, a2, a3, _⟩
                  · rw [a2, if_neg (Int.lt_irrefl _)]; omega
                  · rw [a2, if_pos a3]; omega)
                have HDJ := hide (show (l.drop j).map (fun t => matV (V s t) ad) = mv :: (l.drop (j + 1)).map (fun t => matV (V s t) ad) by rw [hmv]; exact HDJ.out)
                have hzb : z < 345686400000 ∧ -1 ≤ z := by unfold endT at hix; omega
                have HBB := hide (show b < wo.heap.size from Nat.lt_of_lt_of_le HBS.out hwz)
                have HX2 := hide (fun x (hx : u13.ownBlock = some x) => (show w4.heap.size ≤ x by have h1 := (HOI.out.lt x hx).1; have h2 := HBW.out.sz; have h3 := HN5.out.sz; omega))
                clear hmv hix
                go_wp2_with fail
                refine HA.out.mono ?_
                rintro e w7 ⟨q7, fm7, rfl, hT7, hq7, hg7⟩
                have HT7 := hide hT7
                have HG7 := hide hg7
                have hO7 := own_gr HOI.out hg7 HBB.out
                have HO7 := hide hO7
                have hwz7 : wo.heap.size ≤ w7.heap.size := Nat.le_trans hszi hg7.sz
                clear hT7 hg7 c1 HA hO7
                by_cases h1 : 0 ≤ z
                · have e1 : decide (z ≥ 0) = true := decide_eq_true h1
                  have e1' : decide (0 ≤ z) = true := decide_eq_true h1
                  have k1 : IntKind.i64.wrap (z - ad) = z - ad := IntWalk.i64_in _ (by have := HMB.out; omega)
                  have HMW := hide (HMV.out.2 h1)
                  clear h1
                  go_wp2_with (at_builtin; refine wpApp2 rfl _ _ _ rfl el_IntR encI encI_len encI_one (by omega) (by omega) wo.heap.size _ acc rfl (HO7.out.alloc _) _ (z - ad) _ rfl (hnew rfl) rfl (by have := HAC.out; omega) (by simp; omega) ?_; intro v9 w9 hown9 hg9 hat9; (have HO9 := hide hown9); (have HG9 := hide hg9); (have HA9 := hide hat9); clear hown9 hg9 hat9)
                  go_roundw
                  case rel =>
                    refine ⟨j + 1, acc ++ [z - ad], q7, fm7, by omega, by go_num, by have := HAC.out; simp; omega, by rw [HQR.out, HDJ.out, HMW.out]; simp, HO9.out, ?_, by omega, ?_⟩
                    · exact HT7.out.push HG9.out (fun x hx => ⟨.inr hx, HX2.out x hx⟩) (fun x hx => hx.elim (fun h => .inl (.inl h)) (fun h => (HA9.out x h).elim (fun e => .inl (.inr e)) .inr))
                    · exact ((HGW.out.trans HG7.out).alloc _).grown HG9.out (fun x hx => .inr (own_blk_lt HO7.out x hx))
                  case measure => simp [intOf]; omega
                · have e1 : decide (z ≥ 0) = false := decide_eq_false h1
                  have HMW := hide (HMV.out.1 (by omega))
                  clear h1
                  go_wp2_with (at_builtin; refine wpApp2 rfl _ _ _ rfl el_IntR encI encI_len encI_one (by omega) (by omega) wo.heap.size _ acc rfl (HO7.out.alloc _) _ z _ rfl (hnew rfl) rfl (by have := HAC.out; omega) (by simp; omega) ?_; intro v9 w9 hown9 hg9 hat9; (have HO9 := hide hown9); (have HG9 := hide hg9); (have HA9 := hide hat9); clear hown9 hg9 hat9)
                  go_roundw
                  case rel =>
                    refine ⟨j + 1, acc ++ [z], q7, fm7, by omega, by go_num, by have := HAC.out; simp; omega, by rw [HQR.out, HDJ.out, HMW.out]; simp, HO9.out, ?_, by omega, ?_⟩
                    · exact HT7.out.push HG9.out (fun x hx => ⟨.inr hx, HX2.out x hx⟩) (fun x hx => hx.elim (fun h => .inl (.inl h)) (fun h => (HA9.out x h).elim (fun e => .inl (.inr e)) .inr))
                    · exact ((HGW.out.trans HG7.out).alloc _).grown HG9.out (fun x hx => .inr (own_blk_lt HO7.out x hx))
                  case measure => simp [intOf]; omega
              · obtain rfl : n = j := by omega
                have hRA : ROW = acc := by rw [HQR.out, List.drop_of_length_le (by have := HLN.out; omega)]; simp
                have HBB := hide (show b < w5.heap.size from HBS.out)
                have hOI := HOI.out
                obtain ⟨A', c', e', _, _⟩ := Rd.of_own encI_len rfl HOI.out
                subst e'
                have HOO := hide (own_gr HO.out HGW.out HBB.out)
                have HRR := hide (HRS.out.gr HGW.out HBB.out)
                have hw5 : w5.heap.size ≤ wr.heap.size := Nat.le_trans hwz hszi
                clear hOI
                have HRA := hide hRA
                clear hRA
                go_wp2_with (at_builtin; refine wpApp2 rfl _ _ _ rfl el_Rows encRow encRow_len encRow_one (by omega) (by omega) w5.heap.size _ es rfl (HOO.out.alloc _) _ ⟨A', c', acc⟩ _ rfl (hnew rfl) rfl (by have := HES.out; omega) (by simp; omega) ?_; intro v9 w9 hown9 hg9 hat9; (have HO9 := hide hown9); (have HG9 := hide hg9); (have HA9 := hide hat9); clear hown9 hg9 hat9)
                go_roundw
                case rel =>
                  refine ⟨k + 1, es ++ [⟨A', c', acc⟩], q', fm', by omega, by go_num, by have := HES.out; simp; omega, ?_, HO9.out, ?_, ?_, by omega, ?_⟩
                  · rw [HQ.out, HD.out, HRA.out]; simp
                  · intro r hr
                    have hI : (wr.alloc (.cells #[.slice A' acc.length c'] 22)).ownsRow w5.heap.size 3 1 (.slice r.a r.l.length r.c) r.l.length (r.l.flatMap encI) := by
                      rcases List.mem_append.1 hr with hr | hr
                      · exact (HRR.out r hr).alloc _
                      · have hr : r = ⟨A', c', acc⟩ := by simpa using hr
                        subst hr
                        exact (World.ownsRow.mono (base' := w5.heap.size) HOI.out hwz).alloc _
                    exact hI.kept HG9.out (own_apart hI (HOO.out.alloc _) (by decide))
                  · exact HTI.out.push HG9.out (fun x hx => ⟨.inl hx, by have h1 := (HOO.out.lt x hx).1; have h3 := HN5.out.sz; omega⟩) (fun x h => (HA9.out x h).elim (fun e => .inl (.inl e)) .inr)
                  · exact Nat.le_trans hw5 (Nat.le_trans (by simp) HG9.out.size)
                case measure => simp [intOf]; omega
          · obtain rfl : n = k := by omega
            have hMM : es.map (·.l) = MAT := by rw [HQ.out, List.drop_of_length_le (by have := HLN.out; omega)]; simp
            obtain ⟨Z, c, rfl, hRd, _⟩ := Rd.of_own encRow_len rfl HO.out
            have HRd := hide hRd
            have HMM := hide hMM
            have hNN := HNA.out.trans (HN4.out.trans HTT.out.nx)
            have hIN : ∀ r ∈ es, Rd wr 0 r.a 1 encI r.l := fun r hr => by
              obtain ⟨A', c', e, h, _⟩ := Rd.of_own encI_len rfl (HRS.out r hr)
              injection e with e _ _
              rw [e]
              exact h.low (Nat.zero_le _)
            have HIN := hide hIN
            clear hRd hMM hIN HO HQ
            go_wp2_with fail
            exact bodyPost_ret (v := .tuple #[.slice Z es.length c, .int .i64 0]) (by simp [results, Tryz.results38, go_sem]) rfl ⟨Z, c, es, HMM.out, rfl, HRd.out.low (Nat.zero_le _), HIN.out, hNN⟩
    · have HF := HF.out
      rw [if_pos rfl] at HF
      subst HF
      have hRW := HRW.out.trans (if_neg (by decide))
      subst hRW
      clear HRW
      go_wp2_with fail
      exact bodyPost_ret (v := .tuple #[.slice none 0 0, .int .i64 8]) (by simp [results, Tryz.results38, go_sem]) rfl ⟨none, 0, [], rfl, rfl, Rd.nil, fun r hr => absurd hr (by simp), HNA.out.trans HN2.out⟩
  · have hF := HF.out.trans (if_neg hR)
    have hRW := HRW.out.trans (if_neg (by rw [hF]; exact hR))
    subst hRW
    clear HRW
    rw [← hF] at HC hR
    have tE : (F == 0) = false := by simpa using hR
    have tE2 : (F != 0) = true := by simpa using hR
    clear hF HF hR HOK HNEWK
    go_enter Tryz.func38, Tryz.ntmps38
    go_upto_region 1 with fail
    rw [← HWA.out]
    go_wp2_with fail
    refine HC.out.mono ?_
    rintro e w1 ⟨rfl, hn1⟩
    clear b0 b1 b2
    go_wp2_with fail
    exact bodyPost_ret (v := .tuple #[.slice none 0 0, .int .i64 F]) (by simp [results, Tryz.results38, go_sem]) rfl ⟨none, 0, [], rfl, rfl, Rd.nil, fun r hr => absurd hr (by simp), HNA.out.trans hn1⟩
end Go.Proofs.YtklgknepamebdaaGreatDoor
/- Plain: what the law NodesReached weighs. -/
namespace Go.Proofs.YtklgknepamebdaaGreatDoor
open Go.RowKit

theorem getD_in {α : Type} {l : List α} {i : Nat} {d : α} (h : i < l.length) : l.getD i d = l[i] := by rw [List.getD_eq_getElem?_getD, List.getElem?_eq_getElem h]; rfl
theorem reach_or {ns : List Node} {rs : List Arc} {bs : List Ban} {f : ByteArray} {ad wi : Int} (h : roadsF ns rs bs = 0) : orI [noneF ns f, momF ad, if outB wi 0 86400000 then 1 else 0] = reachF ns rs bs f ad wi := by
  unfold reachF endsF
  rw [if_pos h]
  unfold noneF momF argF
  by_cases h1 : nodeI ns f < 0
  · rw [if_pos h1, if_pos (show nodeI ns f < 0 ∨ nodeI ns f < 0 from .inl h1)]; rfl
  · rw [if_neg h1, if_neg (show ¬ (nodeI ns f < 0 ∨ nodeI ns f < 0) by omega)]
    cases momB ad <;> cases outB wi 0 86400000 <;> rfl
theorem near_or {ns : List Node} {rs : List Arc} {bs : List Ban} {l : List ByteArray} {t : ByteArray} {ad : Int} (h : roadsF ns rs bs = 0) (hl : l.length ≤ 200) : orI [askF ns l 200, noneF ns t, momF ad] = nearF ns rs bs l t ad := by
  unfold nearF
  rw [if_pos h]
  unfold askF noneF momF argF
  rw [if_neg (by omega)]
  cases h1 : missB ns l
  · rw [if_neg (show ¬ (false = true) by simp)]
    by_cases h2 : nodeI ns t < 0
    · rw [if_pos h2, if_pos (show false = true ∨ nodeI ns t < 0 from .inr h2)]; rfl
    · rw [if_neg h2, if_neg (show ¬ (false = true ∨ nodeI ns t < 0) from fun h => h.elim (by simp) h2)]
      cases momB ad <;> rfl
  · rw [if_pos rfl, if_pos (show true = true ∨ nodeI ns t < 0 from .inl rfl)]; rfl
theorem mat_or {ns : List Node} {rs : List Arc} {bs : List Ban} {l : List ByteArray} {ad : Int} (h : roadsF ns rs bs = 0) (hl : l.length ≤ 50) : orI [askF ns l 50, momF ad] = matF ns rs bs l ad := by
  unfold matF
  rw [if_pos h]
  unfold askF momF argF
  rw [if_neg (by omega)]
  cases h1 : missB ns l
  · rw [if_neg (show ¬ (false = true) by simp), if_neg (show ¬ (false = true) by simp)]
    cases momB ad <;> rfl
  · rw [if_pos rfl, if_pos rfl]; rfl
theorem reachF_ok {ns : List Node} {rs : List Arc} {bs : List Ban} {f : ByteArray} {ad wi : Int} (h : reachF ns rs bs f ad wi = 0) : roadsF ns rs bs = 0 ∧ 0 ≤ nodeI ns f ∧ momB ad = true ∧ 0 ≤ wi ∧ wi ≤ 86400000 := by
  unfold reachF at h
  split at h
  · rename_i he
    obtain ⟨h1, h2, _, h4⟩ := endsF_ok he
    split at h
    · exact absurd h (by decide)
    · rename_i ho
      unfold outB at ho
      simp at ho
      exact ⟨h1, h2, h4, by omega, by omega⟩
  · rename_i he
    exact absurd h he
theorem nearF_ok {ns : List Node} {rs : List Arc} {bs : List Ban} {l : List ByteArray} {t : ByteArray} {ad : Int} (h : nearF ns rs bs l t ad = 0) : roadsF ns rs bs = 0 ∧ (∀ s ∈ l, 0 ≤ nodeI ns s) ∧ 0 ≤ nodeI ns t ∧ momB ad = true := by
  unfold nearF at h
  split at h
  · rename_i hr
    split at h
    · exact absurd h (by decide)
    · rename_i hm
      split at h
      · rename_i hb
        exact ⟨hr, miss_all (by cases hq : missB ns l with | false => rfl | true => exact absurd (.inl hq) hm), by omega, hb⟩
      · exact absurd h (by decide)
  · rename_i hr
    exact absurd h hr
theorem matF_ok {ns : List Node} {rs : List Arc} {bs : List Ban} {l : List ByteArray} {ad : Int} (h : matF ns rs bs l ad = 0) : roadsF ns rs bs = 0 ∧ (∀ s ∈ l, 0 ≤ nodeI ns s) ∧ momB ad = true := by
  unfold matF at h
  split at h
  · rename_i hr
    split at h
    · exact absurd h (by decide)
    · rename_i hm
      split at h
      · rename_i hb
        exact ⟨hr, miss_all (by cases hq : missB ns l with | false => rfl | true => exact absurd hq hm), hb⟩
      · exact absurd h (by decide)
  · rename_i hr
    exact absurd h hr
theorem reachF_bad {ns : List Node} {rs : List Arc} {bs : List Ban} {f : ByteArray} {ad wi : Int} (h : roadsF ns rs bs ≠ 0) : reachF ns rs bs f ad wi = roadsF ns rs bs := by
  have he : endsF ns rs bs f f ad = roadsF ns rs bs := if_neg h
  unfold reachF
  rw [he, if_neg h]
theorem matL_at {ns : List Node} {rs : List Arc} {bs : List Ban} {l : List ByteArray} {ad : Int} {es : List RowE} (h : es.map (·.l) = matL ns rs bs l ad) : es.length = l.length ∧ ∀ i, i < l.length → (es.getD i default).l.length = l.length ∧ ∀ j, j < l.length → (es.getD i default).l.getD j 0 = matV (arrS ns rs bs (l.getD i default) (l.getD j default) ad) ad := by
  have hl : es.length = l.length := by have := congrArg List.length h; simpa [matL] using this
  refine ⟨hl, fun i hi => ?_⟩
  have he : (es.getD i default).l = matR ns rs bs l ad (l.getD i default) := by
    have h1 : (es.map (·.l))[i]? = (matL ns rs bs l ad)[i]? := by rw [h]
    unfold matL at h1
    rw [List.getElem?_map, List.getElem?_map, List.getElem?_eq_getElem (show i < es.length by omega), List.getElem?_eq_getElem hi] at h1
    rw [getD_in (show i < es.length by omega), getD_in hi]
    exact Option.some.inj h1
  rw [he]
  unfold matR
  refine ⟨by simp, fun j hj => ?_⟩
  rw [getD_in (show j < (List.map (fun t => matV (arrS ns rs bs (l.getD i default) t ad) ad) l).length by simpa using hj), List.getElem_map, getD_in hj]
theorem reachL_len (ns : List Node) (rs : List Arc) (bs : List Ban) (f : ByteArray) (ad wi : Int) : (reachL ns rs bs f ad wi).length ≤ ns.length := by
  unfold reachL
  split
  · exact rOf_len _ _ _ _ _
  · exact Nat.zero_le _
theorem wi_cases {a b wi E : Int} (h : orI [a, b, if outB wi 0 86400000 then 1 else 0] = E) : ∃ z : Int, orI [a, b, z] = E ∧ ((decide (wi < 0) = true ∧ z = 1) ∨ (decide (wi < 0) = false ∧ decide (wi > 86400000) = true ∧ z = 1) ∨ (decide (wi < 0) = false ∧ decide (wi > 86400000) = false ∧ z = 0)) := by
  refine ⟨_, h, ?_⟩
  unfold outB
  by_cases h1 : wi < 0
  · left; simp [h1]
  · right
    by_cases h2 : (86400000 : Int) < wi
    · left; simp [h1, h2]
    · right; simp [h1, h2]
theorem arrS_in {ns : List Node} {rs : List Arc} {bs : List Ban} {s t : ByteArray} {ad : Int} (hC : chk (arcF ns) none rs = 0) (hs : 0 ≤ nodeI ns s) (ht : 0 ≤ nodeI ns t) (ha : 0 ≤ ad ∧ ad ≤ 345686399999) : ad ≤ arrS ns rs bs s t ad ∧ arrS ns rs bs s t ad ≤ endT := by
  have h := arr_ix (bs := bs) hC (nodeN_lt hs) (nodeN_lt ht) ha.1 (show ad < endT by unfold endT; omega)
  unfold arrS
  rcases h with ⟨_, h⟩ | ⟨_, h1, h2, h3⟩
  · rw [h]; unfold endT; omega
  · rw [h1]; omega
theorem sort_of {ns : List Node} {rs : List Arc} {bs : List Ban} (h : roadsF ns rs bs = 0) : SortN ns := sortN_of (roads_ok h).1
def NearAt (F : Int) (V : ByteArray → Int) (l : List ByteArray) (k : Nat) (fi be : Int) (P : Int × Int) : Prop := (F = 0 → nearO V (l.drop k) k fi be = P) ∧ (F ≠ 0 → (fi, be) = P)
theorem NearAt.done {F : Int} {V : ByteArray → Int} {l : List ByteArray} {k : Nat} {fi be : Int} {P : Int × Int} (h : NearAt F V l k fi be P) (hk : l.length ≤ k) : (fi, be) = P := by
  by_cases hF : F = 0
  · have := h.1 hF
    rw [List.drop_eq_nil_of_le hk] at this
    exact this
  · exact h.2 hF
theorem near_if {F : Int} {V : ByteArray → Int} {l : List ByteArray} {P : Int × Int} (h0 : F = 0 → nearO V l 0 (-1) endT = P) (h1 : F ≠ 0 → P = (-1, endT)) : NearAt F V l 0 (-1) endT P := ⟨fun h => h0 h, fun h => (h1 h).symm⟩
theorem reachOf_pack {P : Program} {ns : List Node} {rs : List Arc} {bs : List Ban} {f : ByteArray} {ad wi : Int} (hF : reachF ns rs bs f ad wi = 0) {fn : Nat} {args : Array Value} {W : World}
    (h : Calls P fn args W fun e w' => ∃ (Z : Option Addr) (c : Nat), e = .returned (.slice Z (rOf (fun k => arrG (gphOf ns rs bs) (nodeN ns f) k ad) ad wi ns 0).length c) ∧ Rd w' 0 Z 2 encPair (rOf (fun k => arrG (gphOf ns rs bs) (nodeN ns f) k ad) ad wi ns 0) ∧ Nx W w') :
    Calls P fn args W fun e w' => ∃ (Z : Option Addr) (c : Nat), e = .returned (.slice Z (reachL ns rs bs f ad wi).length c) ∧ Rd w' 0 Z 2 encPair (reachL ns rs bs f ad wi) ∧ Nx W w' := by
  rw [show reachL ns rs bs f ad wi = rOf (fun k => arrG (gphOf ns rs bs) (nodeN ns f) k ad) ad wi ns 0 from if_pos hF]
  exact h
theorem near_pack {P : Program} (p : Int × Int) (F : Int) {args : Array Value} {Q : World → Prop} {fn : Nat} (h : ∀ W, Q W → Calls P fn args W fun e w' => e = .returned (.tuple #[.int .i64 (if p.1 < 0 then 0 else p.1), .int .i64 (if p.1 < 0 then 0 else p.2), .bool (decide (0 ≤ p.1)), .int .i64 F]) ∧ Nx W w') :
    ∃ (k t : Int) (is : Bool), ((p.1 < 0 ∧ k = 0 ∧ t = 0 ∧ is = false) ∨ (0 ≤ p.1 ∧ k = p.1 ∧ t = p.2 ∧ is = true)) ∧ ∀ W, Q W → Calls P fn args W fun e w' => e = .returned (.tuple #[.int .i64 k, .int .i64 t, .bool is, .int .i64 F]) ∧ Nx W w' := by
  refine ⟨_, _, _, ?_, h⟩
  by_cases hp : p.1 < 0
  · left; rw [if_pos hp, if_pos hp]; exact ⟨hp, rfl, rfl, decide_eq_false (by omega)⟩
  · right; rw [if_neg hp, if_neg hp]; exact ⟨by omega, rfl, rfl, decide_eq_true (by omega)⟩
end Go.Proofs.YtklgknepamebdaaGreatDoor
/- slices.Equal of two rows of pairs that are the same. -/
namespace Go.Proofs.YtklgknepamebdaaGreatDoor
open Go.RowKit

theorem gd_Pair : Tryz.prog.eqGuardType Tryz.prog.depth 79 = false := by kernel_rfl
theorem sin_Pair (d : Nat) (x y a b : ByteArray) (w : World) : (Op.equalIn (d + 2) 79 (.agg #[.string x, .string y]) (.agg #[.string a, .string b])).run Tryz.prog w = .ok (x.toList == a.toList && y.toList == b.toList) w := by
  have u3 := Tryz.underlying9
  have a3 := Tryz.isAgg9
  have z3 := Tryz.sizeOf9
  have hS : Tryz.prog.underlying 79 = some (.struct (Tryz.prog.fieldsOf 79)) := by kernel_rfl
  have hp : Tryz.prog.stoodInHeld 79 = false := by kernel_rfl
  rw [run_equalIn_agg w (d + 1) 79 _ _ hS hp]
  simp only [Program.fieldsOf, Tryz.underlying79]
  go_simp
  cases h1 : x.toList == a.toList <;> cases h2 : y.toList == b.toList <;> simp_all
theorem neq_Pair (x y a b : ByteArray) (w : World) : (binOp .neq 79 (.agg #[.string x, .string y]) (.agg #[.string a, .string b])).run Tryz.prog w = .ok (.bool (!(x.toList == a.toList && y.toList == b.toList))) w := by
  rw [run_neq_struct, show (10000 : Nat) = 9998 + 2 from rfl, sin_Pair]; rfl
attribute [local go_sem ↓] neq_Pair

set_option maxRecDepth 100000 in
set_option maxHeartbeats 1000000 in
theorem w_EqualP (lo lo' : Nat) (A B : Option Addr) (c d : Nat) (l : List PairS) (w : World) (hA : Rd w lo A 2 encPair l) (hB : Rd w lo' B 2 encPair l) (hl : l.length ≤ 65536) :
    Calls Tryz.prog 39 #[.slice A l.length c, .slice B l.length d] w fun e w' => e = .returned (.bool true) ∧ Nx w w' := by
  generalize hn : l.length = n at *
  have HA := hide hA
  have HB := hide hB
  have HN := hide hn
  clear hA hB hn
  go_enter Tryz.func39, Tryz.ntmps39
  go_wp2
  go_loopw [5, 13] (fun _ i wr => ∃ k : Nat, k ≤ n ∧ i = .int .i64 k ∧ Nx w wr) (fun _ i _ => n - (intOf i).toNat)
  case atStart => exact ⟨0, Nat.zero_le _, rfl, Nx.refl _⟩
  case round =>
    obtain ⟨k, hk, rfl, hbw⟩ := hrel
    by_cases hlt : k < n
    · have hlt' : k < l.length := by have := HN.out; omega
      obtain ⟨b, off, rfl, _, hb, hbr, hc⟩ := HA.out.open_ hbw (by omega)
      obtain ⟨b', off', rfl, _, hb', hbr', hc'⟩ := HB.out.open_ hbw (by omega)
      have c0 : wr.cell? ⟨b, off + k * 2, none⟩ = some (.string l[k].name) := hc k hlt' 0 _ rfl
      have c1 : wr.cell? ⟨b, off + k * 2 + 1, none⟩ = some (.string l[k].val) := hc k hlt' 1 _ rfl
      have d0 : wr.cell? ⟨b', off' + k * 2, none⟩ = some (.string l[k].name) := hc' k hlt' 0 _ rfl
      have d1 : wr.cell? ⟨b', off' + k * 2 + 1, none⟩ = some (.string l[k].val) := hc' k hlt' 1 _ rfl
      clear hc hc'
      generalize l[k].name = s at *
      generalize l[k].val = v at *
      have te : (s.toList == s.toList) = true := by rw [eqS_iff]; exact decide_eq_true rfl
      have tf : (v.toList == v.toList) = true := by rw [eqS_iff]; exact decide_eq_true rfl
      have q1 : (0 : Int) ≤ (k : Int) := by omega
      have q2 : (k : Int) < (n : Int) := by omega
      go_wp2_with fail
      go_quiet (fail)
      go_wp2
      go_roundw
      case rel => exact ⟨k + 1, by omega, by go_num, hbw.drewN _⟩
      case measure => simp [intOf]; omega
    · go_wp2
      go_ret
      exact ⟨rfl, hbw⟩
end Go.Proofs.YtklgknepamebdaaGreatDoor
/- cmp.Or of three. -/
namespace Go.Proofs.YtklgknepamebdaaGreatDoor
open Go.RowKit
theorem w_Or3 (a b d : Int) (g c : Nat) (w : World) (hg : w.heap[g]? = some (.cells #[.int .i64 a, .int .i64 b, .int .i64 d] 42 (0, 0))) :
    Calls Tryz.prog 18 #[.slice (some ⟨g, 0, none⟩) 3 c] w fun e w' => e = .returned (.int .i64 (orI [a, b, d])) ∧ w = w' := by
  have hR : Rd w 0 (some ⟨g, 0, none⟩) 1 encI [a, b, d] := Rd.lit hg (Nat.zero_le _) (fun _ => rfl) rfl
  exact w_OrE 0 _ c [a, b, d] w hR (by simp)
end Go.Proofs.YtklgknepamebdaaGreatDoor
/- What the laws share: the end, the stream, cmp.Or of two or three. -/
namespace Go.Proofs.YtklgknepamebdaaGreatDoor
open Go.RowKit

/-- The law's world: what was there stays. -/
def TrueNx (w : World) (e : Ending) (w' : World) : Prop := e = .returned (.bool true) ∧ Nx w w'

theorem w_Or2 (a b : Int) (g c : Nat) (w : World) (hg : w.heap[g]? = some (.cells #[.int .i64 a, .int .i64 b] 42 (0, 0))) :
    Calls Tryz.prog 18 #[.slice (some ⟨g, 0, none⟩) 2 c] w fun e w' => e = .returned (.int .i64 (orI [a, b])) ∧ w = w' := by
  have hR : Rd w 0 (some ⟨g, 0, none⟩) 1 encI [a, b] := Rd.lit hg (Nat.zero_le _) (fun _ => rfl) rfl
  exact w_OrE 0 _ c [a, b] w hR (by simp)

theorem str_new (A : Option Addr) (n c : Nat) (w : World) (hn : n ≤ 9223372036854775807)
    (hL : 0 < n → ∃ b off, A = some ⟨b, off, none⟩ ∧ b < w.heap.size ∧ ∀ j, j < n → ∃ z : Int, w.cell? ⟨b, off + j, none⟩ = some (.int .i64 z) ∧ -9223372036854775808 ≤ z ∧ z ≤ 9223372036854775807) :
    Str (w.alloc (.cells #[.slice A n c, .int .i64 0] 25)) w.heap.size 0 := by
  refine ⟨A, n, c, 0, Nat.le_refl _, hn, hnew rfl, fun hp => ?_⟩
  obtain ⟨b, off, e, hb, hz⟩ := hL hp
  refine ⟨b, off, e, hb, fun j hj => ?_⟩
  obtain ⟨z, h1, h2⟩ := hz j hj
  exact ⟨z, (Below.cell ((Nx.refl w).alloc _) (p := ⟨b, _, none⟩) hb).trans h1, h2⟩
end Go.Proofs.YtklgknepamebdaaGreatDoor
/- The rest of a function's code from a region on. Of no program. -/
namespace Go.Proofs.YtklgknepamebdaaGreatDoor
open Go

/-- The first region's number. -/
def firstReg : Code → Option Nat
  | .region n _ _ => some n
  | .seq a _ => firstReg a
  | .scope c => firstReg c
  | .block _ c => firstReg c
  | .loop c => firstReg c
  | _ => none
def isReg (r : Nat) (c : Code) : Bool := match firstReg c with | some n => Nat.beq n r | none => false
/-- What follows from the statement on that begins with region r. -/
def fromReg (r : Nat) : Code → Code
  | .seq a b => bif isReg r a then .seq a b else fromReg r b
  | .scope c => fromReg r c
  | .block _ c => fromReg r c
  | c => c
end Go.Proofs.YtklgknepamebdaaGreatDoor
/- jitlaw1.NodesReached, its last part: how long the ways take. -/
namespace Go.Proofs.YtklgknepamebdaaGreatDoor
open Go.RowKit

noncomputable def codeNR (r : Nat) : Code := fromReg r (Tryz.f5.body.getD .skip)

set_option maxRecDepth 100000 in
set_option maxHeartbeats 8000000 in
theorem st_NR26 {w w5 wc : World} {g lo nn nr nb n ca cb cc cy cd : Nat} {B0 B1 B2 D Y : Option Addr} {ns : List Node} {rs : List Arc} {bs : List Ban} {l : List ByteArray} {es : List RowE} {ad MF : Int} (HT : Hid (∀ W, Nx w5 W → Nx w W)) (HB5 : Hid (∀ W, Nx w5 W → W.cell? ⟨g, 0, none⟩ = some (.slice B0 nn ca) ∧ W.cell? ⟨g, 1, none⟩ = some (.slice B1 nr cb) ∧ W.cell? ⟨g, 2, none⟩ = some (.slice B2 nb cc))) (HDD : Hid (Rd w5 lo D 1 encS l)) (HLN : Hid (l.length = n)) (hn4 : n ≤ 4) (HG : Hid (MF = 0 → (es.length = l.length ∧ ∀ i, i < l.length → (es.getD i default).l.length = l.length ∧ ∀ j, j < l.length → (es.getD i default).l.getD j 0 = matV (arrS ns rs bs (l.getD i default) (l.getD j default) ad) ad) ∧ (0 ≤ ad ∧ ad ≤ 345686399999) ∧ ∀ s ∈ l, ∀ t ∈ l, (ad ≤ arrS ns rs bs s t ad ∧ arrS ns rs bs s t ad ≤ endT) ∧ ∀ W, Nx w5 W → Calls Tryz.prog 32 #[.agg #[.slice B0 nn ca, .slice B1 nr cb, .slice B2 nb cc], .string s, .string t, .int .i64 ad] W fun e w' => e = .returned (.int .i64 (arrS ns rs bs s t ad)) ∧ Nx W w')) (HBAD : Hid (MF ≠ 0 → es = []))
    (hn5f : Nx w5 wc) (HRY : Hid (Rd wc 0 Y 1 encRow es)) (HRR : Hid (∀ r ∈ es, Rd wc 0 r.a 1 encI r.l)) {u0 u1 u2 u3 u5 u6 u9 u10 u11 u12 u13 u14 u15 u18 u19 u20 u21 u22 u23 u24 u25 u27 u28 u29 u30 u31 u32 u33 u34 u35 u36 u37 u38 u39 u40 u41 u42 u43 u44 u45 u46 u47 u48 u49 u50 u51 u52 u53 u54 u55 u56 u57 u58 u59 u60 u61 u62 u63 u64 u65 u66 u67 u68 u69 u70 u71 u72 u73 u74 u75 u76 u77 u78 u79 u80 u81 u82 u83 u84 u85 u86 u87 u88 u89 u90 u91 u92 u93 u94 u95 u96 u97 u98 u99 u100 u101 u102 u103 u104 u105 u106 u107 u108 u109 u110 u111 u112 u113 u114 u115 u116 u117 u118 u119 u120 u121 u122 u123 u124 u125 u126 u127 u128 u129 u130 u131 u132 u133 u134 u135 u136 u137 u138 u139 u140 u141 u142 u143 u144 u145 u146 u147 u148 u149 u150 u151 u152 u153 u154 u155 u156 u157 u158 u159 u160 u161 u162 u163 u164 u165 u166 u167 u168 u169 u170 u171 u172 u173 u174 u175 u176 u177 u178 u179 u180 u181 u182 u183 u184 u185 u186 u187 u188 u189 u190 u191 u192 u193 u194 u195 u196 u197 u198 u199 u200 u201 u202 u203 u204 u205 u206 u207 u208 u209 u210 u211 u212 u213 u214 u215 u216 u217 u218 u219 u220 u221 u222 u223 u224 u225 u226 u227 u228 u229 u230 u231 u232 u233 u234 u235 u236 u237 u238 u239 u240 u241 u242 u243 u244 u245 u246 u247 u248 u249 u250 u251 u252 u253 u254 u255 u256 u257 u258 u259 u260 u261 u262 u263 u264 u265 u266 u267 u268 u269 u270 u271 u272 u273 : Value} :
    Code.wp Tryz.prog (codeNR 26) (bodyPost Tryz.prog Tryz.f5 (TrueNx w)) ⟨#[u0, u1, u2, u3, .pointer (some ⟨g, 0, none⟩), u5, u6, .slice D n cd, .int .i64 ad, u9, u10, u11, u12, u13, u14, u15, .slice Y es.length cy, .int .i64 MF, u18, u19, u20, u21, u22, u23, u24, u25, .int .i64 MF, u27, u28, u29, u30, u31, u32, u33, u34, u35, u36, u37, u38, u39, u40, u41, u42, u43, u44, u45, u46, u47, u48, u49, u50, u51, u52, u53, u54, u55, u56, u57, u58, u59, u60, u61, u62, u63, u64, u65, u66, u67, u68, u69, u70, u71, u72, u73, u74, u75, u76, u77, u78, u79, u80, u81, u82, u83, u84, u85, u86, u87, u88, u89, u90, u91, u92, u93, u94, u95, u96, u97, u98, u99, u100, u101, u102, u103, u104, u105, u106, u107, u108, u109, u110, u111, u112, u113, u114, u115, u116, u117, u118, u119, u120, u121, u122, u123, u124, u125, u126, u127, u128, u129, u130, u131, u132, u133, u134, u135, u136, u137, u138, u139, u140, u141, u142, u143, u144, u145, u146, u147, u148, u149, u150, u151, u152, u153, u154, u155, u156, u157, u158, u159, u160, u161, u162, u163, u164, u165, u166, u167, u168, u169, u170, u171, u172, u173, u174, u175, u176, u177, u178, u179, u180, u181, u182, u183, u184, u185, u186, u187, u188, u189, u190, u191, u192, u193, u194, u195, u196, u197, u198, u199, u200, u201, u202, u203, u204, u205, u206, u207, u208, u209, u210, u211, u212, u213, u214, u215, u216, u217, u218, u219, u220, u221, u222, u223, u224, u225, u226, u227, u228, u229, u230, u231, u232, u233, u234, u235, u236, u237, u238, u239, u240, u241, u242, u243, u244, u245, u246, u247, u248, u249, u250, u251, u252, u253, u254, u255, u256, u257, u258, u259, u260, u261, u262, u263, u264, u265, u266, u267, u268, u269, u270, u271, u272, u273], []⟩ wc := by
  conv => arg 2; whnf
  by_cases hM0 : MF = 0
  · obtain ⟨⟨hel, hev⟩, hmb, har⟩ := HG.out hM0
    have HMB := hide hmb
    have HEV := hide hev
    have hen : es.length = n := by have := HLN.out; omega
    have HEN := hide hen
    have HAW := hide (fun s (hs : s ∈ l) t (ht : t ∈ l) => (har s hs t ht).2)
    have HAB := hide (fun s (hs : s ∈ l) t (ht : t ∈ l) => (har s hs t ht).1)
    rw [hen]
    subst hM0
    have tn : (n == n) = true := by simp
    clear hel hev hen hmb har HG HBAD
    go_wp2_with fail
    go_loopw [234] (fun u wr => ∃ k : Nat, k ≤ n ∧ u = .int .i64 k ∧ Nx wc wr) (fun u _ => n - (intOf u).toNat)
    case atStart => exact ⟨0, Nat.zero_le _, rfl, Nx.refl _⟩
    case round =>
      obtain ⟨k, hk, rfl, hbw⟩ := hrel
      by_cases hlt : k < n
      · have hlt' : k < l.length := by have := HLN.out; omega
        have hle' : k < es.length := by have := HEN.out; omega
        obtain ⟨ra, rc, rl, hrl, hrv, hrd, hre⟩ : ∃ ra rc rl, rl.length = n ∧ (∀ j, j < n → rl.getD j 0 = matV (arrS ns rs bs (l.getD k default) (l.getD j default) ad) ad) ∧ Rd wc 0 ra 1 encI rl ∧ es[k] = ⟨ra, rc, rl⟩ := by
          obtain ⟨h1, h2⟩ := HEV.out k hlt'
          rw [getD_in hle'] at h1 h2
          exact ⟨es[k].a, es[k].c, es[k].l, by have := HLN.out; omega, fun j hj => h2 j (by have := HLN.out; omega), HRR.out _ (List.getElem_mem hle'), rfl⟩
        have q1 : (0 : Int) ≤ (k : Int) := by omega
        have q2 : (k : Int) < (n : Int) := by omega
        obtain ⟨yb, yo, rfl, _, hyb, hyb1, hyc⟩ := HRY.out.open_ hbw (by omega)
        have d0 : wr.cell? ⟨yb, yo + k, none⟩ = some (.slice ra n rc) := by have h := hyc k hle' 0 (.slice es[k].a es[k].l.length es[k].c) rfl; rw [hre] at h; rw [← hrl]; simpa using h
        have HRD := hide hrd
        have HRV := hide hrv
        have HRLN := hide hrl
        have HSK := hide (show l.getD k default ∈ l by rw [getD_in hlt']; exact List.getElem_mem hlt')
        have HKD := hide (getD_in (d := default) hlt')
        clear hyc hrd hrv hre hrl
        generalize l.getD k default = s at *
        go_wp2_with fail
        clear d0
        obtain ⟨wo, hwo⟩ : ∃ wo, wo = wr := ⟨_, rfl⟩
        subst hwo
        go_loopw [246] (fun u wi => ∃ j : Nat, j ≤ n ∧ u = .int .i64 j ∧ Nx wo wi) (fun u _ => n - (intOf u).toNat)
        case atStart => exact ⟨0, Nat.zero_le _, rfl, Nx.refl _⟩
        case round =>
          obtain ⟨j, hj, rfl, hbi⟩ := hrel
          by_cases hlj : j < n
          · have hlj' : j < l.length := by have := HLN.out; omega
            have hrj' : j < rl.length := by have := HRLN.out; omega
            have p1 : (0 : Int) ≤ (j : Int) := by omega
            have p2 : (j : Int) < (n : Int) := by omega
            have hwi := hn5f.trans (hbw.trans hbi)
            obtain ⟨zb, zo, rfl, _, hzb, hzb1, hzc⟩ := HRD.out.open_ (hbw.trans hbi) (by omega)
            have hv := HRV.out j hlj
            have e0 : wr.cell? ⟨zb, zo + j, none⟩ = some (.int .i64 (matV (arrS ns rs bs s (l.getD j default) ad) ad)) := by rw [← hv, getD_in hrj']; have := hzc j hrj' 0 _ rfl; simpa using this
            obtain ⟨xb, xo, rfl, _, hxb, hxb1, hxc⟩ := HDD.out.open_ hwi (by omega)
            have f0 : wr.cell? ⟨xb, xo + k, none⟩ = some (.string s) := by rw [HKD.out]; have := hxc k hlt' 0 _ rfl; simpa using this
            have f1 : wr.cell? ⟨xb, xo + j, none⟩ = some (.string (l.getD j default)) := by rw [getD_in hlj']; have := hxc j hlj' 0 _ rfl; simpa using this
            have HTJ := hide (show l.getD j default ∈ l by rw [getD_in hlj']; exact List.getElem_mem hlj')
            clear hzc hxc hv
            generalize l.getD j default = t at *
            have HA := hide (HAW.out s HSK.out t HTJ.out)
            obtain ⟨b1, b2⟩ := HAB.out s HSK.out t HTJ.out
            generalize arrS ns rs bs s t ad = x at *
            have hmb := HMB.out
            have b3 : x ≤ 345686400000 := b2
            have W1 : IntKind.i64.wrap (x - ad) = x - ad := IntWalk.i64_in (x - ad) (by omega)
            have W2 : IntKind.i64.wrap (345686400000 - ad) = 345686400000 - ad := IntWalk.i64_in (345686400000 - ad) (by omega)
            obtain ⟨c0, c1, c2⟩ := HB5.out wr hwi
            obtain ⟨mv, hmv⟩ : ∃ mv, mv = matV x ad := ⟨_, rfl⟩
            rw [← hmv] at e0
            have HMV := hide hmv
            have HX := hide (Nx.refl wr)
            have HF0 := hide f0
            have HF1 := hide f1
            clear hmv b1 b2
            go_upto_region 38 with fail
            clear e0
            refine wp_region_held_drew (S := fun w' => (w'.cell? ⟨g, 0, none⟩ = some (.slice B0 nn ca) ∧ w'.cell? ⟨g, 1, none⟩ = some (.slice B1 nr cb) ∧ w'.cell? ⟨g, 2, none⟩ = some (.slice B2 nb cc)) ∧ w'.cell? ⟨xb, xo + k, none⟩ = some (.string s) ∧ w'.cell? ⟨xb, xo + j, none⟩ = some (.string t)) (by kernel_rfl) ?_ (fun hHeld => ?_)
            · exact ⟨HB5.out _ hwi.drew, f0, f1⟩
            clear c0 c1 c2 f0 f1
            refine wpAnyH_take (i := 0) (oi := ⟨some 251, _, _, _, _, _⟩) (v := ?_) rfl (by kernel_rfl) (by kernel_rfl) (by kernel_rfl) (fun _ _ _ h => h) (Or.inl ⟨by rfl, ?_⟩) (by assumption) ?_
            rotate_left 1
            · intro w hSw
              (try dsimp only at hSw)
              go_simp
              try with_reducible rfl
            try simp only [Act.put, List.setIfInBounds_toArray, List.set_cons_zero, List.set_cons_succ]
            refine wpAnyH_take (i := 1) (oi := ⟨some 252, _, _, _, _, _⟩) (v := ?_) rfl (by kernel_rfl) (by kernel_rfl) (by kernel_rfl) (fun _ _ _ h => h) (Or.inl ⟨by rfl, ?_⟩) (by assumption) ?_
            rotate_left 1
            · intro w hSw
              (try dsimp only at hSw)
              go_simp
              try with_reducible rfl
            try simp only [Act.put, List.setIfInBounds_toArray, List.set_cons_zero, List.set_cons_succ]
            refine wpAnyH_take (i := 2) (oi := ⟨some 253, _, _, _, _, _⟩) (v := ?_) rfl (by kernel_rfl) (by kernel_rfl) (by kernel_rfl) (fun _ _ _ h => h) (Or.inl ⟨by rfl, ?_⟩) (by assumption) ?_
            rotate_left 1
            · intro w hSw
              (try dsimp only at hSw)
              go_simp
              try with_reducible rfl
            try simp only [Act.put, List.setIfInBounds_toArray, List.set_cons_zero, List.set_cons_succ]
            refine wpAnyH_take (i := 3) (oi := ⟨some 254, _, _, _, _, _⟩) (v := ?_) rfl (by kernel_rfl) (by kernel_rfl) (by kernel_rfl) (fun _ _ _ h => h) (Or.inl ⟨by rfl, ?_⟩) (by assumption) ?_
            rotate_left 1
            · intro w hSw
              (try dsimp only at hSw)
              go_simp
              try with_reducible rfl
            try simp only [Act.put, List.setIfInBounds_toArray, List.set_cons_zero, List.set_cons_succ]
            refine wpAnyH_take (i := 4) (oi := ⟨some 255, _, _, _, _, _⟩) (v := ?_) rfl (by kernel_rfl) (by kernel_rfl) (by kernel_rfl) (fun _ _ _ h => h) (Or.inl ⟨by rfl, ?_⟩) (by assumption) ?_
            rotate_left 1
            · intro w hSw
              (try dsimp only at hSw)
              go_simp
              try with_reducible rfl
            try simp only [Act.put, List.setIfInBounds_toArray, List.set_cons_zero, List.set_cons_succ]
            refine wpAnyH_take (i := 5) (oi := ⟨some 256, _, _, _, _, _⟩) (v := ?_) rfl (by kernel_rfl) (by kernel_rfl) (by kernel_rfl) (fun _ _ _ h => h) (Or.inl ⟨by rfl, ?_⟩) (by assumption) ?_
            rotate_left 1
            · intro w hSw
              (try dsimp only at hSw)
              go_simp
              try with_reducible rfl
            try simp only [Act.put, List.setIfInBounds_toArray, List.set_cons_zero, List.set_cons_succ]
            refine wpAnyH_take (i := 6) (oi := ⟨some 257, _, _, _, _, _⟩) (v := ?_) rfl (by kernel_rfl) (by kernel_rfl) (by kernel_rfl) (fun _ _ _ h => h) (Or.inl ⟨by rfl, ?_⟩) (by assumption) ?_
            rotate_left 1
            · intro w hSw
              (try dsimp only at hSw)
              go_simp
              try with_reducible rfl
            try simp only [Act.put, List.setIfInBounds_toArray, List.set_cons_zero, List.set_cons_succ]
            refine wpAnyH_take (i := 7) (oi := ⟨some 258, _, _, _, _, _⟩) (v := ?_) rfl (by kernel_rfl) (by kernel_rfl) (by kernel_rfl) (fun _ _ _ h => h) (Or.inl ⟨by rfl, ?_⟩) (by assumption) ?_
            rotate_left 1
            · intro w hSw
              (try dsimp only at hSw)
              go_simp
              try with_reducible rfl
            try simp only [Act.put, List.setIfInBounds_toArray, List.set_cons_zero, List.set_cons_succ]
            refine wpAnyH_take (i := 8) (oi := ⟨some 259, _, _, _, _, _⟩) (v := ?_) rfl (by kernel_rfl) (by kernel_rfl) (by kernel_rfl) (fun _ _ _ h => h) (Or.inl ⟨by rfl, ?_⟩) (by assumption) ?_
            rotate_left 1
            · intro w hSw
              (try dsimp only at hSw)
              go_simp
              try with_reducible rfl
            try simp only [Act.put, List.setIfInBounds_toArray, List.set_cons_zero, List.set_cons_succ]
            refine wpAnyH_take (i := 9) (oi := ⟨some 260, _, _, _, _, _⟩) (v := ?_) rfl (by kernel_rfl) (by kernel_rfl) (by kernel_rfl) (fun _ _ _ h => h) (Or.inl ⟨by rfl, ?_⟩) (by assumption) ?_
            rotate_left 1
            · intro w hSw
              (try dsimp only at hSw)
              go_simp
              try with_reducible rfl
            try simp only [Act.put, List.setIfInBounds_toArray, List.set_cons_zero, List.set_cons_succ]
            refine wpAnyH_take (i := 11) (oi := ⟨some 262, _, _, _, _, _⟩) (v := ?_) rfl (by kernel_rfl) (by kernel_rfl) (by kernel_rfl) (fun _ _ _ h => h) (Or.inl ⟨by rfl, ?_⟩) (by assumption) ?_
            rotate_left 1
            · intro w hSw
              (try dsimp only at hSw)
              go_simp
              try with_reducible rfl
            try simp only [Act.put, List.setIfInBounds_toArray, List.set_cons_zero, List.set_cons_succ]
            refine wpAnyH_ready (rs := [10]) (by kernel_rfl) (by simp) ?_
            refine AllReadyH.cons rfl (fun K hK => ?_) AllReadyH.nil
            go_simp
            go_at_call 32
            refine (HA.out _ hwi.drew).mono ?_
            rintro e w19 ⟨rfl, hn19⟩
            have h19 : Nx wr w19 := (Nx.refl _).drew.trans hn19
            go_simp
            refine hK.out _ _ (⟨HB5.out _ (hwi.trans h19), nx_cell h19 hxb1 HF0.out, nx_cell h19 hxb1 HF1.out⟩) (fun hHeld => ?_)
            clear hK K
            try simp only [Act.put, List.setIfInBounds_toArray, List.set_cons_zero, List.set_cons_succ]
            refine wpAnyH_take (i := 12) (oi := ⟨some 263, _, _, _, _, _⟩) (v := ?_) rfl (by kernel_rfl) (by kernel_rfl) (by kernel_rfl) (fun _ _ _ h => h) (Or.inl ⟨by rfl, ?_⟩) (by assumption) ?_
            rotate_left 1
            · intro w hSw
              (try dsimp only at hSw)
              go_simp
              try with_reducible rfl
            try simp only [Act.put, List.setIfInBounds_toArray, List.set_cons_zero, List.set_cons_succ]
            refine wpAnyH_take (i := 13) (oi := ⟨some 31, _, _, _, _, _⟩) (v := ?_) rfl (by kernel_rfl) (by kernel_rfl) (by kernel_rfl) (fun _ _ _ h => h) (Or.inl ⟨by rfl, ?_⟩) (by assumption) ?_
            rotate_left 1
            · intro w hSw
              (try dsimp only at hSw)
              go_simp
              try with_reducible rfl
            try simp only [Act.put, List.setIfInBounds_toArray, List.set_cons_zero, List.set_cons_succ]
            refine wpAnyH_done (by kernel_rfl) ?_ _
            by_cases hx : x < endT
            · have t1 : decide (345686400000 - ad ≤ x - ad) = false := decide_eq_false (by unfold endT at hx; omega)
              have t2 : decide (x - ad ≥ 345686400000 - ad) = false := decide_eq_false (by unfold endT at hx; omega)
              have t3 : decide (345686400000 ≤ x) = false := decide_eq_false (by unfold endT at hx; omega)
              obtain rfl : mv = x - ad := by rw [HMV.out]; exact if_pos hx
              clear hx HMV hmb b3 hwi
              go_wp2_with fail
              go_roundw
              case rel => exact ⟨j + 1, by omega, by go_num, hbi.trans h19⟩
              case measure => simp [intOf]; omega
            · have t1 : decide (345686400000 - ad ≤ x - ad) = true := decide_eq_true (by unfold endT at hx; omega)
              have t2 : decide (x - ad ≥ 345686400000 - ad) = true := decide_eq_true (by unfold endT at hx; omega)
              have t3 : decide (345686400000 ≤ x) = true := decide_eq_true (by unfold endT at hx; omega)
              obtain rfl : mv = -1 := by rw [HMV.out]; exact if_neg hx
              clear hx HMV hmb b3 hwi
              go_wp2_with fail
              go_roundw
              case rel => exact ⟨j + 1, by omega, by go_num, hbi.trans h19⟩
              case measure => simp [intOf]; omega
          · go_wp2
            go_roundw
            case rel => exact ⟨k + 1, by omega, by go_num, hbw.trans hbi⟩
            case measure => simp [intOf]; omega
      · go_wp2_with fail
        refine (w_driven _).mono ?_
        rintro e w20 ⟨rfl, hn20⟩
        go_wp2_with fail
        go_ret
        exact ⟨rfl, HT.out _ ((hn5f.trans hbw).trans hn20)⟩
  · obtain rfl : es = [] := HBAD.out hM0
    have tF : (MF == 0) = false := by simpa using hM0
    have tF2 : (MF != 0) = true := by simpa using hM0
    have tM : (MF == MF) = true := by simp
    clear hM0 HRY HRR HG HBAD
    go_wp2_with fail
    refine (w_driven _).mono ?_
    rintro e w20 ⟨rfl, hn20⟩
    go_wp2_with fail
    go_ret
    exact ⟨rfl, HT.out _ (hn5f.trans hn20)⟩
end Go.Proofs.YtklgknepamebdaaGreatDoor
/- jitlaw1.NodesReached, its third part: which one is nearest. -/
namespace Go.Proofs.YtklgknepamebdaaGreatDoor
open Go.RowKit

set_option maxRecDepth 100000 in
set_option maxHeartbeats 8000000 in
theorem st_NR15 {w w5 w14 : World} {g lo nn nr nb n ca cb cc cy cd : Nat} {B0 B1 B2 D Y : Option Addr} {ns : List Node} {rs : List Arc} {bs : List Ban} {l : List ByteArray} {es : List RowE} {ad MF : Int} {to_ : ByteArray} {NF kk tt : Int} {is : Bool} {NP : Int × Int} {V : ByteArray → Int} (HT : Hid (∀ W, Nx w5 W → Nx w W)) (HB5 : Hid (∀ W, Nx w5 W → W.cell? ⟨g, 0, none⟩ = some (.slice B0 nn ca) ∧ W.cell? ⟨g, 1, none⟩ = some (.slice B1 nr cb) ∧ W.cell? ⟨g, 2, none⟩ = some (.slice B2 nb cc))) (HDD : Hid (Rd w5 lo D 1 encS l)) (HLN : Hid (l.length = n)) (hn4 : n ≤ 4) (HG : Hid (MF = 0 → (es.length = l.length ∧ ∀ i, i < l.length → (es.getD i default).l.length = l.length ∧ ∀ j, j < l.length → (es.getD i default).l.getD j 0 = matV (arrS ns rs bs (l.getD i default) (l.getD j default) ad) ad) ∧ (0 ≤ ad ∧ ad ≤ 345686399999) ∧ ∀ s ∈ l, ∀ t ∈ l, (ad ≤ arrS ns rs bs s t ad ∧ arrS ns rs bs s t ad ≤ endT) ∧ ∀ W, Nx w5 W → Calls Tryz.prog 32 #[.agg #[.slice B0 nn ca, .slice B1 nr cb, .slice B2 nb cc], .string s, .string t, .int .i64 ad] W fun e w' => e = .returned (.int .i64 (arrS ns rs bs s t ad)) ∧ Nx W w')) (HBAD : Hid (MF ≠ 0 → es = []))
    (hn5c : Nx w5 w14) (HRY : Hid (Rd w14 0 Y 1 encRow es)) (HRR : Hid (∀ r ∈ es, Rd w14 0 r.a 1 encI r.l))
    (HI1 : Hid ((NP.1 < 0 ∧ kk = 0 ∧ tt = 0 ∧ is = false) ∨ (0 ≤ NP.1 ∧ kk = NP.1 ∧ tt = NP.2 ∧ is = true))) (HNA : Hid (NearAt NF V l 0 (-1) endT NP))
    (HAV : Hid (NF = 0 → ∀ s, s ∈ l → ∀ W, Nx w5 W → Calls Tryz.prog 32 #[.agg #[.slice B0 nn ca, .slice B1 nr cb, .slice B2 nb cc], .string s, .string to_, .int .i64 ad] W fun e w' => e = .returned (.int .i64 (V s)) ∧ Nx W w'))
    (HNS2 : Hid (∀ W, Nx w5 W → Calls Tryz.prog 22 #[.agg #[.slice B0 nn ca, .slice B1 nr cb, .slice B2 nb cc], .slice D n cd, .int .i64 50] W fun e w' => e = .returned (.int .i64 (askF ns l 50)) ∧ Nx W w'))
    (HMO : Hid (orI [askF ns l 50, momF ad] = MF)) {u0 u1 u2 u3 u5 u9 u10 u11 u18 u19 u23 u24 u25 u26 u27 u28 u29 u30 u31 u32 u33 u34 u35 u36 u37 u38 u39 u40 u41 u42 u43 u44 u45 u46 u47 u48 u49 u50 u51 u52 u53 u54 u55 u56 u57 u58 u59 u60 u61 u62 u63 u64 u65 u66 u67 u68 u69 u70 u71 u72 u73 u74 u75 u76 u77 u78 u79 u80 u81 u82 u83 u84 u85 u86 u87 u88 u89 u90 u91 u92 u93 u94 u95 u96 u97 u98 u99 u100 u101 u102 u103 u104 u105 u106 u107 u108 u109 u110 u111 u112 u113 u114 u115 u116 u117 u118 u119 u120 u121 u122 u123 u124 u125 u126 u127 u128 u129 u130 u131 u132 u133 u134 u135 u136 u137 u138 u139 u140 u141 u142 u143 u144 u145 u146 u147 u148 u149 u150 u151 u152 u153 u154 u155 u156 u157 u158 u159 u160 u161 u162 u163 u164 u165 u166 u167 u168 u169 u170 u171 u172 u173 u174 u175 u176 u177 u178 u179 u180 u181 u182 u183 u184 u185 u186 u187 u188 u189 u190 u191 u192 u193 u194 u195 u196 u197 u198 u199 u200 u201 u202 u203 u204 u205 u206 u207 u208 u209 u210 u211 u212 u213 u214 u215 u216 u217 u218 u219 u220 u221 u222 u223 u224 u225 u226 u227 u228 u229 u230 u231 u232 u233 u234 u235 u236 u237 u238 u239 u240 u241 u242 u243 u244 u245 u246 u247 u248 u249 u250 u251 u252 u253 u254 u255 u256 u257 u258 u259 u260 u261 u262 u263 u264 u265 u266 u267 u268 u269 u270 u271 u272 u273 : Value} :
    Code.wp Tryz.prog (codeNR 15) (bodyPost Tryz.prog Tryz.f5 (TrueNx w)) ⟨#[u0, u1, u2, u3, .pointer (some ⟨g, 0, none⟩), u5, .string to_, .slice D n cd, .int .i64 ad, u9, u10, u11, .int .i64 kk, .int .i64 tt, .bool is, .int .i64 NF, .slice Y es.length cy, .int .i64 MF, u18, u19, .int .i64 345686400000, .int .i64 (-1), .int .i64 NF, u23, u24, u25, u26, u27, u28, u29, u30, u31, u32, u33, u34, u35, u36, u37, u38, u39, u40, u41, u42, u43, u44, u45, u46, u47, u48, u49, u50, u51, u52, u53, u54, u55, u56, u57, u58, u59, u60, u61, u62, u63, u64, u65, u66, u67, u68, u69, u70, u71, u72, u73, u74, u75, u76, u77, u78, u79, u80, u81, u82, u83, u84, u85, u86, u87, u88, u89, u90, u91, u92, u93, u94, u95, u96, u97, u98, u99, u100, u101, u102, u103, u104, u105, u106, u107, u108, u109, u110, u111, u112, u113, u114, u115, u116, u117, u118, u119, u120, u121, u122, u123, u124, u125, u126, u127, u128, u129, u130, u131, u132, u133, u134, u135, u136, u137, u138, u139, u140, u141, u142, u143, u144, u145, u146, u147, u148, u149, u150, u151, u152, u153, u154, u155, u156, u157, u158, u159, u160, u161, u162, u163, u164, u165, u166, u167, u168, u169, u170, u171, u172, u173, u174, u175, u176, u177, u178, u179, u180, u181, u182, u183, u184, u185, u186, u187, u188, u189, u190, u191, u192, u193, u194, u195, u196, u197, u198, u199, u200, u201, u202, u203, u204, u205, u206, u207, u208, u209, u210, u211, u212, u213, u214, u215, u216, u217, u218, u219, u220, u221, u222, u223, u224, u225, u226, u227, u228, u229, u230, u231, u232, u233, u234, u235, u236, u237, u238, u239, u240, u241, u242, u243, u244, u245, u246, u247, u248, u249, u250, u251, u252, u253, u254, u255, u256, u257, u258, u259, u260, u261, u262, u263, u264, u265, u266, u267, u268, u269, u270, u271, u272, u273], []⟩ w14 := by
  conv => arg 2; whnf
  go_wp2_with fail
  go_loopw [20, 21, 151] (fun vb vf u wr => ∃ (k : Nat) (fi be : Int), k ≤ n ∧ u = .int .i64 k ∧ vf = .int .i64 fi ∧ vb = .int .i64 be ∧ NearAt NF V l k fi be NP ∧ Nx w14 wr) (fun _ _ u _ => n - (intOf u).toNat)
  case atStart => exact ⟨0, -1, endT, Nat.zero_le _, rfl, rfl, rfl, HNA.out, Nx.refl _⟩
  case round =>
    obtain ⟨k, fi, be, hk, rfl, rfl, rfl, hq, hbw⟩ := hrel
    have HQ := hide hq
    clear hq
    have hwr := hn5c.trans hbw
    by_cases hlt : k < n
    · have hlt' : k < l.length := by have := HLN.out; omega
      obtain ⟨c0, c1, c2⟩ := HB5.out wr hwr
      have q1 : (0 : Int) ≤ (k : Int) := by omega
      have q2 : (k : Int) < (n : Int) := by omega
      obtain ⟨yb, yo, rfl, _, hyb, hyb1, hyc⟩ := HDD.out.open_ hwr (by omega)
      have d0 : wr.cell? ⟨yb, yo + k, none⟩ = some (.string l[k]) := by have := hyc k hlt' 0 _ rfl; simpa using this
      have HD := hide (nearO_drop V l k hlt' fi be)
      have HM := hide (List.getElem_mem hlt')
      clear hyc
      by_cases hN : NF = 0
      · have HA := hide (HAV.out hN l[k] HM.out wr hwr)
        have HQQ := hide (HQ.out.1 hN)
        generalize l[k] = s at *
        obtain ⟨x, hx⟩ : ∃ x, x = V s := ⟨_, rfl⟩
        rw [← hx] at HD HA
        clear hx
        have tN : (NF == 0) = true := by simpa using hN
        have HN' := hide hN
        clear hN
        by_cases hb : x < be
        · have t1 : decide (x < be) = true := decide_eq_true hb
          have HG := hide (show NearAt NF V l (k + 1) (k : Int) x NP from ⟨fun _ => by have h := HD.out; rw [if_pos hb] at h; rw [← h]; exact HQQ.out, fun h => absurd HN'.out h⟩)
          clear HD HQQ hb HQ
          go_wp2_with (go_at_call 32; refine HA.out.mono ?_; rintro e w15 ⟨rfl, hn15⟩)
          go_roundw
          case rel => exact ⟨k + 1, k, x, by omega, by go_num, rfl, rfl, HG.out, hbw.trans hn15⟩
          case measure => simp [intOf]; omega
        · have t1 : decide (x < be) = false := decide_eq_false hb
          have HG := hide (show NearAt NF V l (k + 1) fi be NP from ⟨fun _ => by have h := HD.out; rw [if_neg hb] at h; rw [← h]; exact HQQ.out, fun h => absurd HN'.out h⟩)
          clear HD HQQ hb HQ
          go_wp2_with (go_at_call 32; refine HA.out.mono ?_; rintro e w15 ⟨rfl, hn15⟩)
          go_roundw
          case rel => exact ⟨k + 1, fi, be, by omega, by go_num, rfl, rfl, HG.out, hbw.trans hn15⟩
          case measure => simp [intOf]; omega
      · have HG := hide (show NearAt NF V l (k + 1) fi be NP from ⟨fun h => absurd h hN, fun h => HQ.out.2 h⟩)
        have tN : (NF == 0) = false := by simpa using hN
        clear hN HQ HD HM
        generalize l[k] = s at *
        go_wp2_with fail
        go_roundw
        case rel => exact ⟨k + 1, fi, be, by omega, by go_num, rfl, rfl, HG.out, hbw⟩
        case measure => simp [intOf]; omega
    · obtain rfl : n = k := by omega
      have hP := HQ.out.done (by have := HLN.out; omega)
      have HI1 := HI1.out
      rw [← hP] at HI1
      clear hP HNA HAV HQ
      obtain ⟨w15, hw15⟩ : ∃ w15, w15 = wr := ⟨_, rfl⟩
      subst hw15
      have HRY := hide (HRY.out.nx hbw)
      have HRR := hide (fun r hr => (HRR.out r hr).nx hbw)
      clear hbw hn5c
      have hn5d := hwr
      clear hwr
      have HI := hide HI1
      clear HI1
      go_upto_region 23 with fail
      go_cut [202] (fun v wx => v = .bool false ∧ Nx w15 wx)
      case first =>
        have t0 : (NF == NF) = true := by simp
        have hI3 : (fi < 0 ∧ 0 = kk ∧ 0 = tt ∧ false = is) ∨ (0 ≤ fi ∧ fi = kk ∧ be = tt ∧ true = is) := HI.out.elim (fun h => .inl ⟨h.1, h.2.1.symm, h.2.2.1.symm, h.2.2.2.symm⟩) (fun h => .inr ⟨h.1, h.2.1.symm, h.2.2.1.symm, h.2.2.2.symm⟩)
        clear HI
        rcases hI3 with ⟨a1, rfl, rfl, rfl⟩ | ⟨a1, rfl, rfl, rfl⟩
        · have t1 : decide (0 ≤ fi) = false := decide_eq_false (by omega)
          have t1' : decide (fi ≥ 0) = false := t1
          clear hk hlt
          clear a1
          go_wp2_with fail
          go_meet
          exact ⟨rfl, Nx.refl _⟩
        · have t1 : decide (0 ≤ fi) = true := decide_eq_true a1
          have t1' : decide (fi ≥ 0) = true := t1
          clear hk hlt
          have t2 : (fi == fi) = true := by simp
          have t3 : (be == be) = true := by simp
          clear a1
          go_wp2_with fail
          go_meet
          exact ⟨rfl, Nx.refl _⟩
      case rest =>
        obtain ⟨rfl, hcut⟩ := hcut
        obtain ⟨w16, hw16⟩ : ∃ w16, w16 = wc := ⟨_, rfl⟩
        subst hw16
        have hn5e := hn5d.trans hcut
        have HRY := hide (HRY.out.nx hcut)
        have HRR := hide (fun r hr => (HRR.out r hr).nx hcut)
        clear hcut hn5d HI
        obtain ⟨c0, c1, c2⟩ := HB5.out w16 hn5e
        go_upto_region 25 with fail
        go_cut [26] (fun v wx => v = .int .i64 MF ∧ Nx w16 wx)
        case first =>
          go_wp2_with fail
          refine (HNS2.out w16 hn5e).mono ?_
          rintro e w17 ⟨rfl, hn17⟩
          go_wp2_with fail
          refine (w_MomentFault ad w17).mono ?_
          rintro e w' ⟨rfl, rfl⟩
          go_wp2_with fail
          refine (w_Or2 _ _ _ _ _ (hnew rfl)).mono ?_
          rintro e w' ⟨rfl, rfl⟩
          go_wp2_with fail
          go_meet
          exact ⟨congrArg (Value.int .i64) HMO.out, hn17.alloc _⟩
        case rest =>
          obtain ⟨rfl, hx⟩ := hcut
          refine ‹∀ (a : Act) (w_1 : World), Code.wp _ _ _ a w_1 → _› _ _ ?_
          exact st_NR26 HT HB5 HDD HLN hn4 HG HBAD (hn5e.trans hx) (hide (HRY.out.nx hx)) (hide (fun r hr => (HRR.out r hr).nx hx))
end Go.Proofs.YtklgknepamebdaaGreatDoor
