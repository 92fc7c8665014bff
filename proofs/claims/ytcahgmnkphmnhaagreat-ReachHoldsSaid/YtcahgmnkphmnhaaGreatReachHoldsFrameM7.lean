/- Contracts and plain laws, put together: ReachHolds1. -/
import Derived.Test.YtcahgmnkphmnhaaGreatReachHoldsFrameM6
import Derived.Test.YtcahgmnkphmnhaaGreatReachHoldsFrameM3
import Derived.Test.YtcahgmnkphmnhaaGreatReachHoldsFrameM4
/- ReachHolds: the walk. -/
namespace Go.Proofs.YtcahgmnkphmnhaaGreat
open Go.RowKit

set_option maxRecDepth 100000 in
theorem in_any (A : Option Addr) (n c : Nat) (L : List Nat) (x : Nat) (w : World) (hn : L.length = n) (hl : n ≤ 100000) (hr : RdX ncell 1 w A L) :
    Calls Tryz.prog 32 #[.slice A n c, .int .i64 (x : Int)] w fun e w' => e = .returned (.bool (decide (x ∈ L))) ∧ w = w' := by
  subst hn
  have HR := Hidden.mk hr
  clear hr
  go_enter Tryz.func32, Tryz.ntmps32
  go_wp2_with fail
  go_loopg [5] L.length (fun q i wr => ∃ k : Nat, k ≤ L.length ∧ q = L.length - k ∧ i = .int .i64 (k : Int) ∧ Hidden (x ∉ L.take k) ∧ w = wr)
  case atStart => exact ⟨0, by omega, rfl, rfl, ⟨by simp⟩, rfl⟩
  case round =>
    obtain ⟨k, hk, rfl, rfl, hnot, rfl⟩ := hrel
    by_cases hlt : k < L.length
    · obtain ⟨b, off, rfl, hcx⟩ := HR.out k hlt
      have c0 : w.cell? ⟨b, off + k, none⟩ = some (.int .i64 (L[k] : Int)) := by simpa using hcx 0 _ rfl
      have i0 : (0 : Int) ≤ k := by omega
      have i1 : (k : Int) < L.length := by omega
      have s1 : IntKind.i64.wrap ((k : Int) + 1) = (k : Int) + 1 := IntWalk.i64_in _ (by omega)
      by_cases he : L[k] = x
      · have hi : Hidden (decide (x ∈ L) = true) := ⟨decide_eq_true (he ▸ List.getElem_mem hlt)⟩
        have d1 : ((L[k] : Int) == (x : Int)) = true := by simp; omega
        have d2 : (L[k] == x) = true := by simp; exact he
        have d3 : decide ((L[k] : Int) = (x : Int)) = true := decide_eq_true (by omega)
        generalize (L[k] : Int) = y at *
        clear hcx he d2
        go_wp2_with fail
        go_ret
        exact ⟨congrArg (fun z => Ending.returned (.bool z)) hi.out.symm, rfl⟩
      · have hnk : Hidden (x ∉ L.take (k + 1)) := ⟨fun h => by
          rw [List.take_succ_eq_append_getElem hlt] at h
          rcases List.mem_append.1 h with h | h
          · exact hnot.out h
          · simp only [List.mem_singleton] at h; exact he h.symm⟩
        have d1 : ((L[k] : Int) == (x : Int)) = false := by simp; omega
        have d2 : (L[k] == x) = false := by simp; exact he
        have d3 : decide ((L[k] : Int) = (x : Int)) = false := decide_eq_false (by omega)
        generalize L[k] = y at *
        clear hcx he hnot
        go_wp2_with fail
        go_roundg (L.length - (k + 1))
        case measure => omega
        case rel => exact ⟨k + 1, by omega, rfl, by go_num, hnk, rfl⟩
    · have hi : Hidden (decide (x ∈ L) = false) := ⟨by
        have := hnot.out
        rw [List.take_of_length_le (by omega)] at this
        exact decide_eq_false this⟩
      go_wp2_with fail
      go_ret
      exact ⟨congrArg (fun z => Ending.returned (.bool z)) hi.out.symm, rfl⟩
set_option maxRecDepth 100000 in
set_option maxHeartbeats 4000000 in
theorem reachHolds_walk (A : Option Addr) (n c : Nat) (b : Bytes) (w : World) (hn : b.length = n) (hnc : n ≤ c) (hrd : Rd w A b) :
    Calls Tryz.prog 5 #[.slice A n c] w fun e w' => e = .returned (.bool true) ∧ Below w.heap.size w w' := by
  have HA := Hidden.mk (And.intro hn (And.intro hnc hrd))
  have HN := Hidden.mk (hnew_ok 320 w (by decide))
  rw [show ((320 : Nat) : Int) = 320 from rfl] at HN
  obtain ⟨l1, l2, l3, l4, k1, k2, k3, k4, k5, k6, k7, k8, k9, k10, k11, k12, k13, k14⟩ := holds_start
  clear hn hnc hrd
  go_enter Tryz.func5, Tryz.ntmps5
  go_wp2_with fail
  refine HN.out.mono ?_
  rintro e w1 ⟨h0, F0, rfl, hp⟩
  have HC := Hidden.mk (halloc_any 2 1 hp)
  rw [k1, k2, k3, show errV 0 = Value.nilIface from rfl] at HC
  clear hp HN k1 k2 k3
  go_wp2_with fail
  refine HC.out.mono ?_
  rintro e w2 ⟨rfl, F1, hm1⟩
  have HC2 := Hidden.mk (halloc_any 2 0 hm1.hp)
  rw [k4, k5, k6, show errV 0 = Value.nilIface from rfl] at HC2
  clear hm1 HC k4 k5 k6
  have u2 : IntKind.u8.wrap 2 = 2 := by decide
  go_wp2_with fail
  refine HC2.out.mono ?_
  rintro e w3 ⟨rfl, F2, hm2⟩
  have HW := Hidden.mk (hwrite_any 1 0 (some ⟨w3.heap.size, 0, none⟩) 1 1 [2] (hm2.hp.below ((Below.refl w3.heap.size w3).alloc (Nat.le_refl _) (.cells #[.int .u8 2] 5))) k11 rfl (by omega) (rd_byte1 w3 2 2 rfl))
  rw [show ((1 : Nat) : Int) = 1 from rfl, k7, k8, show errV 0 = Value.nilIface from rfl] at HW
  clear hm2 HC2 k7 k8 k11
  go_wp2_with fail
  refine HW.out.mono ?_
  rintro e w4 ⟨rfl, hm3⟩
  have HSE := Hidden.mk (rset_any [97] 1 hm3.hp k12 (by decide))
  rw [k9, k10, show errV 0 = Value.nilIface from rfl] at HSE
  generalize decide ((0 : Nat) = 0 ∧ (placeF l3 [97] 8).1 < 0) = fresh at *
  clear hm3 HW k9 k10 k12
  go_wp2_with fail
  refine HSE.out.mono ?_
  rintro e w5 ⟨rfl, F4, hm4⟩
  have HLI := Hidden.mk (live_any hm4.hp k13)
  rw [k14] at HLI
  have HB5 := Hidden.mk hm4.hp.bel
  generalize (liveL l4).flatMap ncell = LV0 at *
  clear hm4 HSE k13 k14
  go_wp2_with fail
  refine HLI.out.mono ?_
  rintro e w6 ⟨v6, rfl, hown6, hb6⟩
  have HB6 := Hidden.mk (HB5.out.trans (hb6.mono HB5.out.size))
  obtain ⟨A6, c6, rfl⟩ : ∃ A cq, v6 = .slice A 2 cq := by
    rcases hown6.2 with ⟨rfl, h0⟩ | ⟨g, cap, cur, rfl, -⟩
    · cases h0
    · exact ⟨_, _, rfl⟩
  have HLD := Hidden.mk (loaded_ok A n c b w6 HA.out.1 HA.out.2.1 (HA.out.2.2.below HB6.out))
  have HM := Hidden.mk (loadL_good b)
  generalize loadL b = m at *
  clear hown6 hb6 HLI HB5 u2
  go_wp2_with fail
  refine HLD.out.mono ?_
  rintro e w7 ⟨h, F, p, off, c1, rfl, hc1, hp7, hr7, hnp⟩
  have HP7 := Hidden.mk hp7
  have HR7 := Hidden.mk (And.intro hr7 hnp)
  have HFL : Hidden (∀ q, F q → q < w7.heap.size) := ⟨hp7.flt⟩
  have HW7 : Hidden (Below w.heap.size w w7) := ⟨HB6.out.trans (hp7.bel.mono HB6.out.size)⟩
  have HLV := Hidden.mk (live_any hp7 HM.out)
  have hl40 : (liveL m).length ≤ 40 := by
    have hx : ∀ x, x ∈ liveL m → hE m (x : Int) = 0 := fun x hx => way_hE HM.out ((liveL_mem HM.out).1 hx)
    have hu := liveL_up m
    generalize liveL m = S at *
    exact nodup_le1 (hu.imp fun h => by omega) fun k hk => hE_nat (hx k hk)
  have HLM : Hidden (∀ x ∈ liveL m, ∃ pp, fromW m x = some pp) := ⟨fun x hx => Option.isSome_iff_exists.1 ((liveL_mem HM.out).1 hx)⟩
  have HLR : Hidden (∀ x ∈ liveL m, ∀ y ∈ refsL m (x : Int), y ∈ liveL m) := ⟨fun x hx y hy => (liveL_mem HM.out).2 ((live_way HM.out ((liveL_mem HM.out).1 hx)).2 y hy)⟩
  have HLRT : Hidden (∀ x ∈ rootsH m, x ∈ liveL m) := ⟨fun x hx => (liveL_mem HM.out).2 (by rw [root_way HM.out hx]; rfl)⟩
  generalize liveL m = LV at *
  clear hp7 hr7 hnp HLD
  go_wp2_with fail
  refine HLV.out.mono ?_
  rintro e w8 ⟨v8, rfl, hown8, hb8⟩
  obtain ⟨A8, c8, rfl, -, -⟩ := own_split hown8
  have HR8 := Hidden.mk (own_rdX3 (f := ncell) (fun _ => rfl) rfl hown8)
  have HP8 := Hidden.mk (HP7.out.below hb8)
  have HB8 := Hidden.mk hb8
  have HB78 : Hidden (w7.heap.size ≤ w8.heap.size) := ⟨hb8.size⟩
  have HDD := Hidden.mk (dead_any HP8.out HM.out)
  have hd40 : (deadL m).length ≤ 40 := Nat.le_trans (deadE_len _ _) (entsL_len _ _ 40)
  have HSW := Hidden.mk (sweep_is HM.out)
  have HSD := Hidden.mk (sweep_dead HM.out)
  have HSWA : Hidden (∀ W F, Hp w6 W F h m → Calls Tryz.prog 28 #[.pointer (some ⟨h, 0, none⟩)] W fun e w' => e = .returned (.tuple #[.int .i64 ((deadL m).length : Int), .nilIface]) ∧ ∃ F', HpM w6 W w' F F' h (sweepL m)) := ⟨fun W F hW => sweep_any hW HM.out⟩
  generalize deadL m = DD at *
  clear hown8 hb8 HLV HP7
  go_wp2_with fail
  refine HDD.out.mono ?_
  rintro e w9 ⟨v9, rfl, hown9, hb9⟩
  obtain ⟨A9, c9, rfl, -, -⟩ := own_split hown9
  have HO9 := Hidden.mk hown9
  have HP9 := Hidden.mk (HP8.out.below hb9)
  have HB9 := Hidden.mk (HB8.out.trans (hb9.mono HB8.out.size))
  have HR9 := Hidden.mk (HR8.out.below hb9)
  have HAL := Hidden.mk (rall_any HP9.out)
  have hR8 : (rootsL m).length ≤ 8 := rootsF_len _ _
  have HRH : Hidden (rootsH m = (rootsL m).map (·.2)) := ⟨rfl⟩
  generalize rootsL m = R at *
  clear hown9 hb9 HDD HP8 HB8 HR8
  go_wp2_with fail
  refine HAL.out.mono ?_
  rintro e w10 ⟨v10, rfl, hown10, hb10⟩
  obtain ⟨A10, c10, rfl, -, -⟩ := own_split hown10
  have HP10 := Hidden.mk (HP9.out.below hb10)
  have HB10 := Hidden.mk (HB9.out.trans (hb10.mono HB9.out.size))
  have HRL := Hidden.mk (HR9.out.below hb10)
  have HRR := Hidden.mk (own_rdX3 (f := rcells) (fun _ => rfl) rfl hown10)
  have HO10 := Hidden.mk (And.intro (own_below HO9.out hb10) (Nat.le_trans HB9.out.size hb10.size))
  have HIN : Hidden (∀ (W : World) (x : Nat), Below w10.heap.size w10 W → Calls Tryz.prog 32 #[.slice A8 LV.length c8, .int .i64 (x : Int)] W fun e w' => e = .returned (.bool (decide (x ∈ LV))) ∧ W = w') := ⟨fun W x hW => in_any A8 LV.length c8 LV x W rfl (by omega) (HRL.out.below hW)⟩
  clear hown10 hb10 HAL HP9 HB9 HR9 HO9
  go_upto_block 0 with (fail)
  go_cut [] (fun wx => wx = w10)
  case first =>
    go_wp2_with fail
    go_loopg [18] R.length (fun q i wr => ∃ k : Nat, k ≤ R.length ∧ q = R.length - k ∧ i = .int .i64 (k : Int) ∧ wr = w10)
    case atStart => exact ⟨0, by omega, rfl, rfl, rfl⟩
    case round =>
      obtain ⟨k, hk, rfl, rfl, rfl⟩ := hrel
      by_cases hlt : k < R.length
      · obtain ⟨pb, ob, rfl, hcx⟩ := HRR.out k hlt
        have x1 := hcx 1 _ rfl
        have hin : R[k].2 ∈ LV := HLRT.out _ (by rw [HRH.out]; exact List.mem_map.2 ⟨_, List.getElem_mem hlt, rfl⟩)
        have HI := Hidden.mk (HIN.out wr R[k].2 (Below.refl _ _))
        rw [decide_eq_true hin] at HI
        generalize R[k].2 = q0 at *
        have i0 : (0 : Int) ≤ k := by omega
        have i1 : (k : Int) < R.length := by omega
        have s1 : IntKind.i64.wrap ((k : Int) + 1) = (k : Int) + 1 := IntWalk.i64_in _ (by omega)
        clear hcx hin
        go_wp2_with fail
        refine HI.out.mono ?_
        rintro e w11 ⟨rfl, rfl⟩
        clear HI x1
        go_wp2_with fail
        go_roundg (R.length - (k + 1))
        case measure => omega
        case rel => exact ⟨k + 1, by omega, rfl, by go_num, rfl⟩
      · obtain rfl : k = R.length := by omega
        have c0 : decide ((R.length : Int) < R.length) = false := decide_eq_false (by omega)
        go_wp2_with fail
        go_meet
        rfl
  case rest =>
  obtain rfl := hcut
  generalize wc = wz at *
  go_upto_block 2 with (fail)
  go_cut [] (fun wx => Hidden (Below wz.heap.size wz wx))
  case first =>
    go_wp2_with fail
    go_loopg [20] LV.length (fun q i wr => ∃ k : Nat, k ≤ LV.length ∧ q = LV.length - k ∧ i = .int .i64 (k : Int) ∧ Hidden (Below wz.heap.size wz wr))
    case atStart => exact ⟨0, by omega, rfl, rfl, ⟨Below.refl _ _⟩⟩
    case round =>
      obtain ⟨k, hk, rfl, rfl, hst⟩ := hrel
      generalize wr = wa at *
      by_cases hlt : k < LV.length
      · obtain ⟨pb, ob, hA8, hcx⟩ := (HRL.out.below hst.out) k hlt
        have x0 : wa.cell? ⟨pb, ob + k, none⟩ = some (.int .i64 (LV[k] : Int)) := by simpa using hcx 0 _ rfl
        have hxl := List.getElem_mem hlt
        obtain ⟨pp, hpp⟩ := HLM.out _ hxl
        have HRD := Hidden.mk (HLR.out _ hxl)
        have HKC : Hidden (∀ W, Below wa.heap.size wa W → W.cell? ⟨pb, ob + k, none⟩ = some (.int .i64 (LV[k] : Int))) := ⟨fun W hW => (hW.cell (block_lt_of_cell x0)).trans x0⟩
        generalize LV[k] = x at *
        have hE0 : hE m (x : Int) = 0 := way_hE HM.out (by rw [hpp]; rfl)
        have HRF := Hidden.mk (reachRefs_ok (x : Int) (HP10.out.below hst.out) HM.out hE0)
        have HPT : Hidden (∀ W, Below wz.heap.size wz W → Calls Tryz.prog 34 #[.pointer (some ⟨h, 0, none⟩), .int .i64 (x : Int)] W fun e w' => ∃ v, e = .returned (.tuple #[v, .nilIface]) ∧ w'.ownsRow W.heap.size 3 1 v pp.length (pp.flatMap ncell) ∧ Below W.heap.size W w') := ⟨fun W hW => path_ok x pp (HP10.out.below hW) HM.out hpp⟩
        obtain ⟨q, e1, e2, e3, e4, e5⟩ := way_links HM.out hpp
        have HPL := Hidden.mk (And.intro e1 (And.intro e3 (And.intro e4 e5)))
        rw [e1] at HPT
        have hrl := refsL_le HM.out (x : Int)
        have HB := Hidden.mk hst.out
        have i0 : (0 : Int) ≤ k := by omega
        have i1 : (k : Int) < LV.length := by omega
        have s1 : IntKind.i64.wrap ((k : Int) + 1) = (k : Int) + 1 := IntWalk.i64_in _ (by omega)
        generalize refsL m (x : Int) = RX at *
        clear hcx hst hxl hpp hE0 e3 e4 e5
        subst hA8
        go_wp2_with fail
        refine HRF.out.mono ?_
        rintro e w11 ⟨v21, rfl, hown11, hb11⟩
        obtain ⟨A21, c21, rfl, -, -⟩ := own_split hown11
        have HRX := Hidden.mk (own_rdX3 (f := ncell) (fun _ => rfl) rfl hown11)
        have HB11 := Hidden.mk (HB.out.trans (hb11.mono HB.out.size))
        have HKC11 : Hidden (∀ W, Below w11.heap.size w11 W → W.cell? ⟨pb, ob + k, none⟩ = some (.int .i64 (x : Int))) := ⟨fun W hW => HKC.out W (hb11.trans (hW.mono hb11.size))⟩
        have x1 := HKC11.out w11 (Below.refl _ _)
        clear hown11 hb11 HRF x0 HKC HB
        go_wp2_with fail
        refine (HPT.out w11 HB11.out).mono ?_
        rintro e w12 ⟨v23, rfl, hown12, hb12⟩
        obtain ⟨A23, c23, rfl, -, -⟩ := own_split hown12
        have HPX := Hidden.mk (own_rdX3 (f := ncell) (fun _ => rfl) e1 hown12)
        have HB12 := Hidden.mk (HB11.out.trans (hb12.mono HB11.out.size))
        have HRX12 := Hidden.mk (HRX.out.below hb12)
        have x2 := HKC11.out w12 hb12
        obtain ⟨pq, oq, hA23, hcq⟩ := HPX.out q (by omega)
        have y1 : w12.cell? ⟨pq, oq + q, none⟩ = some (.int .i64 (x : Int)) := by
          have := hcq 0 _ rfl
          rw [HPL.out.2.1 (by omega)] at this
          simpa using this
        subst hA23
        have f1 : decide ((q : Int) + 1 < 1) = false := decide_eq_false (by omega)
        have f2 : decide (q + 1 < 1) = false := decide_eq_false (by omega)
        have f3 : IntKind.i64.wrap ((q : Int) + 1 - 1) = (q : Int) := by rw [IntWalk.i64_in _ (by omega)]; omega
        have f4 : IntKind.i64.wrap (q : Int) = (q : Int) := IntWalk.i64_in _ (by omega)
        have f5 : (0 : Int) ≤ q := by omega
        have f6 : (q : Int) < (q : Int) + 1 := by omega
        have f7 : ((x : Int) != (x : Int)) = false := bne_self_eq_false _
        have f8 : ((x : Int) == (x : Int)) = true := beq_self_eq_true _
        clear hcq hown12 hb12 HPT HB11 HKC11 HRX x1
        go_wp2_with fail
        go_quiet (fail)
        have HB13 := Hidden.mk (below_drewN HB12.out nq)
        have HRX13 := Hidden.mk (HRX12.out.below (below_drewN (Below.refl _ w12) nq))
        have HPX13 := Hidden.mk (HPX.out.below (below_drewN (Below.refl _ w12) nq))
        clear x2 y1 HB12 HRX12 HPX f1 f2 f3 f4 f5 f6 f7 f8
        go_wp2_with fail
        generalize w12.drewN nq = wd at *
        go_loopg [25] RX.length (fun qq ii wr => ∃ j : Nat, j ≤ RX.length ∧ qq = RX.length - j ∧ ii = .int .i64 (j : Int) ∧ wr = wd)
        case atStart => exact ⟨0, by omega, rfl, rfl, rfl⟩
        case round =>
          obtain ⟨j, hj, rfl, rfl, rfl⟩ := hrel
          by_cases hjt : j < RX.length
          · obtain ⟨pr, or_, rfl, hcr⟩ := HRX13.out j hjt
            have z0 : wr.cell? ⟨pr, or_ + j, none⟩ = some (.int .i64 (RX[j] : Int)) := by simpa using hcr 0 _ rfl
            have hin := HRD.out _ (List.getElem_mem hjt)
            have HI := Hidden.mk (HIN.out wr RX[j] HB13.out)
            rw [decide_eq_true hin] at HI
            generalize RX[j] = y at *
            have j0 : (0 : Int) ≤ j := by omega
            have j1 : (j : Int) < RX.length := by omega
            have s4 : IntKind.i64.wrap ((j : Int) + 1) = (j : Int) + 1 := IntWalk.i64_in _ (by omega)
            clear hcr hin
            go_wp2_with fail
            refine HI.out.mono ?_
            rintro e w14 ⟨rfl, rfl⟩
            clear HI z0
            go_wp2_with fail
            go_roundg (RX.length - (j + 1))
            case measure => omega
            case rel => exact ⟨j + 1, by omega, rfl, by go_num, rfl⟩
          · obtain rfl : j = RX.length := by omega
            have c0 : decide ((RX.length : Int) < RX.length) = false := decide_eq_false (by omega)
            clear HRX13 HRD
            go_wp2_with fail
            clear c0
            obtain ⟨pz, oz, hAz, hcz⟩ := HPX13.out 0 (by omega)
            have HP0 : Hidden (∀ W, Below wr.heap.size wr W → W.cell? ⟨pq, oq, none⟩ = some (.int .i64 (pp[0]'(by omega) : Int))) := ⟨fun W hW => by
              injection hAz with ha
              injection ha with h1 h2
              have := hcz 0 _ rfl
              rw [← h1, ← h2] at this
              have h3 := (hW.cell (block_lt_of_cell this)).trans this
              simpa using h3⟩
            have HPR := Hidden.mk (HPL.out.2.2.1 (by omega))
            generalize pp[0]'(by omega) = p0 at *
            clear hcz hAz
            go_loopg [27, 28] R.length (fun qq sv ii wx => ∃ j : Nat, j ≤ R.length ∧ qq = R.length - j ∧ ii = .int .i64 (j : Int) ∧ sv = .bool (decide (p0 ∈ (R.map (·.2)).take j)) ∧ Hidden (Below wr.heap.size wr wx))
            case atStart => exact ⟨0, by omega, rfl, rfl, by simp, ⟨Below.refl _ _⟩⟩
            case round =>
              obtain ⟨j, hj, rfl, rfl, rfl, hsx⟩ := hrel
              generalize wr = wx at *
              by_cases hjt : j < R.length
              · obtain ⟨pr, or_, rfl, hcr⟩ := (HRR.out.below (HB13.out.trans (hsx.out.mono HB13.out.size))) j hjt
                have z1 := hcr 1 _ rfl
                have y0 := HP0.out wx hsx.out
                have HTS : Hidden ((R.map (·.2)).take (j + 1) = (R.map (·.2)).take j ++ [R[j].2]) := ⟨by rw [List.take_succ_eq_append_getElem (by simpa using hjt)]; simp⟩
                have HB15 := Hidden.mk hsx.out
                generalize R[j].2 = q0 at *
                generalize hb0 : decide (p0 ∈ (R.map (·.2)).take j) = b0 at *
                have HB0 := Hidden.mk hb0
                have j0 : (0 : Int) ≤ j := by omega
                have j1 : (j : Int) < R.length := by omega
                have o0 : (0 : Int) < (q : Int) + 1 := by omega
                have s4 : IntKind.i64.wrap ((j : Int) + 1) = (j : Int) + 1 := IntWalk.i64_in _ (by omega)
                clear hcr hsx hb0
                cases b0 with
                | true =>
                  have HT : Hidden (decide (p0 ∈ (R.map (·.2)).take (j + 1)) = true) := ⟨by
                    rw [HTS.out]
                    exact decide_eq_true (List.mem_append_left _ (of_decide_eq_true HB0.out))⟩
                  go_wp2_with fail
                  go_quiet (fail)
                  have HB16 := Hidden.mk (below_drewN HB15.out nq)
                  clear z1 y0 HB0 HTS
                  go_wp2_with fail
                  go_roundg (R.length - (j + 1))
                  case measure => omega
                  case rel => exact ⟨j + 1, by omega, rfl, by go_num, by rw [HT.out], HB16⟩
                | false =>
                  by_cases hq0 : q0 = p0
                  · have HT : Hidden (decide (p0 ∈ (R.map (·.2)).take (j + 1)) = true) := ⟨by
                      rw [HTS.out]
                      exact decide_eq_true (List.mem_append_right _ (by simp [hq0]))⟩
                    have g1 : ((q0 : Int) == (p0 : Int)) = true := by simp; omega
                    have g2 : (q0 == p0) = true := by simp; exact hq0
                    have g3 : decide ((q0 : Int) = (p0 : Int)) = true := decide_eq_true (by omega)
                    clear hq0
                    go_wp2_with fail
                    go_quiet (fail)
                    have HB16 := Hidden.mk (below_drewN HB15.out nq)
                    clear z1 y0 HB0 HTS g1 g2 g3
                    go_wp2_with fail
                    go_roundg (R.length - (j + 1))
                    case measure => omega
                    case rel => exact ⟨j + 1, by omega, rfl, by go_num, by rw [HT.out], HB16⟩
                  · have HT : Hidden (decide (p0 ∈ (R.map (·.2)).take (j + 1)) = false) := ⟨by
                      rw [HTS.out]
                      refine decide_eq_false fun hm => ?_
                      rcases List.mem_append.1 hm with h1 | h1
                      · exact of_decide_eq_false HB0.out h1
                      · simp only [List.mem_singleton] at h1; exact hq0 h1.symm⟩
                    have g1 : ((q0 : Int) == (p0 : Int)) = false := by simp; omega
                    have g2 : (q0 == p0) = false := by simp; exact hq0
                    have g3 : decide ((q0 : Int) = (p0 : Int)) = false := decide_eq_false (by omega)
                    clear hq0
                    go_wp2_with fail
                    go_quiet (fail)
                    have HB16 := Hidden.mk (below_drewN HB15.out nq)
                    clear z1 y0 HB0 HTS g1 g2 g3
                    go_wp2_with fail
                    go_roundg (R.length - (j + 1))
                    case measure => omega
                    case rel => exact ⟨j + 1, by omega, rfl, by go_num, by rw [HT.out], HB16⟩
              · obtain rfl : j = R.length := by omega
                have hT : decide (p0 ∈ (R.map (·.2)).take R.length) = true := by
                  rw [List.take_of_length_le (by simp), ← HRH.out]; exact decide_eq_true HPR.out
                rw [hT]
                have HB15 := Hidden.mk (HB13.out.trans (hsx.out.mono HB13.out.size))
                have HPX15 := Hidden.mk (HPX13.out.below hsx.out)
                have c0 : decide ((R.length : Int) < R.length) = false := decide_eq_false (by omega)
                clear hT hsx HP0 HPR HPX13
                go_wp2_with fail
                clear c0
                go_loopg [27, 29] q (fun qq sv ii wy => ∃ j : Nat, j ≤ q ∧ qq = q - j ∧ ii = .int .i64 ((j : Int) + 1) ∧ sv = .bool true ∧ Hidden (Below wx.heap.size wx wy))
                case atStart => exact ⟨0, by omega, rfl, rfl, rfl, ⟨Below.refl _ _⟩⟩
                case round =>
                  obtain ⟨j, hj, rfl, rfl, rfl, hsy⟩ := hrel
                  generalize wr = wy at *
                  by_cases hjq : j < q
                  · have hj1 : j + 1 < pp.length := by omega
                    obtain ⟨pu, ou, hAu, hcu⟩ := (HPX15.out.below hsy.out) j (by omega)
                    obtain ⟨pt, ot, hAt, hct⟩ := (HPX15.out.below hsy.out) (j + 1) hj1
                    obtain ⟨hEj, hmj⟩ := HPL.out.2.2.2 j hj1
                    have u0 : wy.cell? ⟨pq, oq + j, none⟩ = some (.int .i64 (pp[j] : Int)) := by
                      injection hAu with ha
                      injection ha with h1 h2
                      have := hcu 0 _ rfl
                      rw [← h1, ← h2] at this
                      simpa using this
                    have HU1 : Hidden (∀ W, Below wy.heap.size wy W → W.cell? ⟨pq, oq + (j + 1), none⟩ = some (.int .i64 (pp[j + 1] : Int))) := ⟨fun W hW => by
                      injection hAt with ha
                      injection ha with h1 h2
                      have := hct 0 _ rfl
                      rw [← h1, ← h2] at this
                      have h3 := (hW.cell (block_lt_of_cell this)).trans this
                      simpa using h3⟩
                    have HB17 := Hidden.mk (HB15.out.trans (hsy.out.mono HB15.out.size))
                    have HSY := Hidden.mk hsy.out
                    have HRJ := Hidden.mk (reachRefs_ok ((pp[j] : Nat) : Int) (HP10.out.below HB17.out) HM.out hEj)
                    have hrj := refsL_le HM.out ((pp[j] : Nat) : Int)
                    generalize refsL m ((pp[j] : Nat) : Int) = RJ at *
                    generalize pp[j] = pj at *
                    generalize pp[j + 1] = pk at *
                    have j0 : (0 : Int) ≤ j := by omega
                    have j1 : (j : Int) < (q : Int) + 1 := by omega
                    have j2 : (0 : Int) ≤ (j : Int) + 1 := by omega
                    have j3 : (j : Int) + 1 < (q : Int) + 1 := by omega
                    have c1 : decide ((j : Int) + 1 < (q : Int) + 1) = true := decide_eq_true j3
                    have c2 : decide (j + 1 < q + 1) = true := decide_eq_true (by omega)
                    have c3 : decide (j < q) = true := decide_eq_true hjq
                    have c4 : decide ((j : Int) < (q : Int)) = true := decide_eq_true (by omega)
                    have s4 : IntKind.i64.wrap ((j : Int) + 1 - 1) = (j : Int) := by rw [IntWalk.i64_in _ (by omega)]; omega
                    have s5 : IntKind.i64.wrap (j : Int) = (j : Int) := IntWalk.i64_in _ (by omega)
                    have s6 : IntKind.i64.wrap ((j : Int) + 1 + 1) = (j : Int) + 1 + 1 := IntWalk.i64_in _ (by omega)
                    clear hsy hAu hAt hcu hct hEj
                    go_wp2_with fail
                    refine HRJ.out.mono ?_
                    rintro e w18 ⟨v30, rfl, hown18, hb18⟩
                    obtain ⟨A30, c30, rfl, -, -⟩ := own_split hown18
                    have HIJ := Hidden.mk (in_any A30 RJ.length c30 RJ pk w18 rfl hrj (own_rdX3 (f := ncell) (fun _ => rfl) rfl hown18))
                    rw [decide_eq_true hmj] at HIJ
                    have u1 := HU1.out w18 hb18
                    have HB18 := Hidden.mk (HSY.out.trans (hb18.mono HSY.out.size))
                    clear hown18 hb18 HRJ u0 HU1 HSY HB17
                    go_wp2_with fail
                    refine HIJ.out.mono ?_
                    rintro e w19 ⟨rfl, rfl⟩
                    clear HIJ u1
                    go_wp2_with fail
                    go_roundg (q - (j + 1))
                    case measure => omega
                    case rel => exact ⟨j + 1, by omega, rfl, by go_num, rfl, HB18⟩
                  · obtain rfl : j = q := by omega
                    have c1 : decide ((j : Int) + 1 < (j : Int) + 1) = false := decide_eq_false (by omega)
                    have c2 : decide (j + 1 < j + 1) = false := decide_eq_false (by omega)
                    have c3 : decide (j < j) = false := decide_eq_false (by omega)
                    have HB18 := Hidden.mk (HB15.out.trans (hsy.out.mono HB15.out.size))
                    clear hsy HPL HPX15
                    go_wp2_with fail
                    go_roundg (LV.length - (k + 1))
                    case measure => omega
                    case rel => exact ⟨k + 1, by omega, rfl, by go_num, HB18⟩
      · obtain rfl : k = LV.length := by omega
        have c0 : decide ((LV.length : Int) < LV.length) = false := decide_eq_false (by omega)
        have HS := Hidden.mk hst.out
        clear hst
        go_wp2_with fail
        go_meet
        exact HS
  case rest =>
  have HBc := Hidden.mk hcut.out
  have HSWC := Hidden.mk (HSWA.out wc F (HP10.out.below HBc.out))
  have HDR : Hidden (wc.ownsRow w8.heap.size 3 1 (.slice A9 DD.length c9) DD.length (DD.flatMap ncell)) := ⟨own_below HO10.out.1 HBc.out⟩
  have HMR : Hidden (Rd wc (some ⟨p, off, none⟩) m) := ⟨HR7.out.1.below (HB10.out.trans (HBc.out.mono HB10.out.size))⟩
  have HWC : Hidden (Below w6.heap.size w6 wc) := ⟨(HP10.out.below HBc.out).bel⟩
  have HDS : Hidden (∀ W F, Hp w6 W F h (sweepL m) → Calls Tryz.prog 31 #[.pointer (some ⟨h, 0, none⟩)] W fun e w' => ∃ v, e = .returned v ∧ w'.ownsRow W.heap.size 3 1 v 0 [] ∧ Below W.heap.size W w') := ⟨fun W F hW => by
    have := dead_any hW HSW.out.good
    rw [HSD.out] at this
    exact this⟩
  have HGS := Hidden.mk HSW.out.good
  have HOB : Hidden (∀ k, k < 40 → (k + 1 ∈ DD → objT (sweepL m) k = -1) ∧ (k + 1 ∉ DD → objT (sweepL m) k = objT m k ∧ objS (sweepL m) k = objS m k)) := ⟨fun k hk => ⟨fun hm => by
    unfold objT
    rw [if_neg (fun hh => ((HSW.out.has hk).1 hh).2 hm)], fun hm => HSW.out.obj HM.out hk hm⟩⟩
  generalize sweepL m = ms at *
  have dd : ((DD.length : Int) != (DD.length : Int)) = false := bne_self_eq_false _
  have dd' : ((DD.length : Int) == (DD.length : Int)) = true := beq_self_eq_true _
  clear hcut HSWA HSW HSD HLM HLR HLRT HIN HRH HRL HRR HP10 HB10 HBc HW7
  go_wp2_with fail
  refine HSWC.out.mono ?_
  rintro e w12 ⟨rfl, F5, hm5⟩
  have HP12 := Hidden.mk hm5.hp
  have HDR12 : Hidden (RdX ncell 1 w12 A9 DD) := ⟨own_rdX3 (f := ncell) (fun _ => rfl) rfl (ownsRow_block HDR.out fun q hq => hm5.kp.block q (HDR.out.lt q hq).2 (fun hf => by have := HFL.out q hf; have := (HDR.out.lt q hq).1; have := HB78.out; omega))⟩
  have HMR12 : Hidden (Rd w12 (some ⟨p, off, none⟩) m) := ⟨hm5.kp.rd HMR.out (fun ad e => by obtain rfl := Option.some.inj e; exact HR7.out.2)⟩
  clear hm5 HSWC HDR HMR
  go_wp2_with fail
  refine (HDS.out w12 F5 HP12.out).mono ?_
  rintro e w13 ⟨v13, rfl, hown13, hb13⟩
  obtain ⟨A13, c13, rfl⟩ : ∃ A cq, v13 = .slice A 0 cq := by
    rcases hown13.2 with ⟨rfl, h0⟩ | ⟨g, cap, cur, rfl, -⟩
    · exact ⟨none, 0, rfl⟩
    · exact ⟨_, _, rfl⟩
  have HP13 := Hidden.mk (HP12.out.below hb13)
  have HDR13 := Hidden.mk (HDR12.out.below hb13)
  have HMR13 := Hidden.mk (HMR12.out.below hb13)
  clear hown13 hb13 HDS HP12 HDR12 HMR12 dd dd'
  go_wp2_with fail
  go_loopg [35] 40 (fun q i wr => ∃ k : Nat, k ≤ 40 ∧ q = 40 - k ∧ i = .int .i64 ((k : Int) + 1) ∧ Hidden (Below w13.heap.size w13 wr))
  case atStart => exact ⟨0, by omega, rfl, rfl, ⟨Below.refl _ _⟩⟩
  case round =>
    obtain ⟨k, hk, rfl, rfl, hst⟩ := hrel
    by_cases hlt : k < 40
    · have c0 : decide ((k : Int) + 1 ≤ 40) = true := decide_eq_true (by omega)
      have c0' : decide (k + 1 ≤ 40) = true := decide_eq_true (by omega)
      have c0'' : decide (k < 40) = true := decide_eq_true hlt
      have s1 : IntKind.i64.wrap ((k : Int) + 1 + 1) = (k : Int) + 1 + 1 := IntWalk.i64_in _ (by omega)
      have HO1 := Hidden.mk (refObj_ok p off m.length c1 m k wr rfl HM.out hc1 (HMR13.out.below hst.out) hlt)
      have HBY : Hidden (∀ W, Below wr.heap.size wr W → Calls Tryz.prog 12 #[.pointer (some ⟨h, 0, none⟩)] W fun e w' => ∃ g cap, e = .returned (.slice (some ⟨g, 0, none⟩) ms.length cap) ∧ W.heap.size ≤ g ∧ Row w' 5 g cap ms ∧ Below W.heap.size W w') := ⟨fun W hW => hbytes_ok _ _ F5 h ms (HP13.out.below (hst.out.trans (hW.mono hst.out.size)))⟩
      have HIN : Hidden (∀ W, Below wr.heap.size wr W → Calls Tryz.prog 32 #[.slice A9 DD.length c9, .int .i64 ((k : Int) + 1)] W fun e w' => e = .returned (.bool (decide (k + 1 ∈ DD))) ∧ W = w') := ⟨fun W hW => in_any A9 DD.length c9 DD (k + 1) W rfl (by omega) (HDR13.out.below (hst.out.trans (hW.mono hst.out.size)))⟩
      have HOK := Hidden.mk (HOB.out k hlt)
      have HST := Hidden.mk hst.out
      have HRO : Hidden (∀ (W : World) (g cap : Nat), ms.length ≤ cap → Rd W (some ⟨g, 0, none⟩) ms → Calls Tryz.prog 35 #[.slice (some ⟨g, 0, none⟩) ms.length cap, .int .i64 ((k : Int) + 1)] W fun e w' => e = .returned (.tuple #[.int .i64 (objT ms k), sv (objS ms k)]) ∧ Below W.heap.size W w') := ⟨fun W g cap hc hr => refObj_ok g 0 ms.length cap ms k W rfl HGS.out hc hr hlt⟩
      generalize objT m k = t0 at *
      generalize objS m k = s0 at *
      generalize objT ms k = t1 at *
      generalize objS ms k = s1' at *
      clear hst
      go_wp2_with fail
      refine HO1.out.mono ?_
      rintro e w14 ⟨rfl, hb14⟩
      have HB14 := Hidden.mk hb14
      clear hb14 HO1
      go_wp2_with fail
      refine (HBY.out w14 HB14.out).mono ?_
      rintro e w15 ⟨g15, cap15, rfl, -, hrow15, hb15⟩
      have HB15 := Hidden.mk (HB14.out.trans (hb15.mono HB14.out.size))
      have HRO15 := Hidden.mk (HRO.out w15 g15 cap15 hrow15.le.1 hrow15.rd)
      clear hb15 hrow15 HBY HRO HB14
      go_wp2_with fail
      refine HRO15.out.mono ?_
      rintro e w16 ⟨rfl, hb16⟩
      have HB16 := Hidden.mk (HB15.out.trans (hb16.mono HB15.out.size))
      have HI16 := Hidden.mk (HIN.out w16 HB16.out)
      have HBN := Hidden.mk (HST.out.trans (HB16.out.mono HST.out.size))
      clear hb16 HRO15 HIN HB15 HB16 HST
      by_cases hin : k + 1 ∈ DD
      · have ht1 := HOK.out.1 hin
        subst ht1
        rw [decide_eq_true hin] at HI16
        clear hin HOK
        go_wp2_with fail
        refine HI16.out.mono ?_
        rintro e w17 ⟨rfl, rfl⟩
        clear HI16
        go_wp2_with fail
        go_roundg (40 - (k + 1))
        case measure => omega
        case rel => exact ⟨k + 1, by omega, rfl, by go_num, HBN⟩
      · obtain ⟨ht1, hs1⟩ := HOK.out.2 hin
        subst ht1 hs1
        rw [decide_eq_false hin] at HI16
        have g1 : (t1 != t1) = false := bne_self_eq_false _
        have g2 : (t1 == t1) = true := beq_self_eq_true _
        have g3 : (s1' == s1') = true := beq_self_eq_true _
        clear hin HOK
        go_wp2_with fail
        refine HI16.out.mono ?_
        rintro e w17 ⟨rfl, rfl⟩
        clear HI16
        go_wp2_with fail
        go_roundg (40 - (k + 1))
        case measure => omega
        case rel => exact ⟨k + 1, by omega, rfl, by go_num, HBN⟩
    · obtain rfl : k = 40 := by omega
      have HF := Hidden.mk (HB6.out.trans ((HP13.out.bel.trans (hst.out.mono HP13.out.bel.size)).mono HB6.out.size))
      clear hst
      go_wp2_with fail
      go_ret
      exact ⟨rfl, HF.out⟩
end Go.Proofs.YtcahgmnkphmnhaaGreat
