/- Contracts and plain laws, put together: PagesPlays1. -/
import Derived.Test.YtbnobjlphmkgeaaDoorPagesPlaysFrameM3
import Derived.Test.YtbnobjlphmkgeaaDoorPagesPlaysFrameM2
import Derived.Test.YtbnobjlphmkgeaaDoorPagesPlaysFrameM1
import Derived.StillTailTactics
import Derived.BigQuiet
/- PagesPlays: the walk. -/
namespace Go.Proofs.YtbnobjlphmkgeaaDoor
open Go.RowKit Go.Maps Go.ChangeMaps

theorem pof_lo {w0 w : World} {F : Nat → Prop} {d : Nat} {D : Dv} (h : DevB w0 w F d D) (hl : D.S.length < 49) :
    Calls Tryd.prog 7 #[.pointer (some ⟨d, 0, none⟩)] w fun e w' => e = .returned (.tuple #[.pointer none, .iface 69 (.int .i64 1)]) ∧ w = w' := by
  have HO := Hidden.mk (pof_e1 h hl)
  clear h hl
  go_enter Tryd.func7, Tryd.ntmps7
  go_wp2_with fail
  refine HO.out.mono ?_
  rintro e w1 ⟨rfl, rfl⟩
  go_wp2_with fail
  go_ret2
  exact ⟨rfl, rfl⟩
set_option maxRecDepth 100000 in
set_option maxHeartbeats 8000000 in
theorem pagesPlay_walk (n : Int) (A1 A2 A3 : Option Addr) (c1 c2 c3 m1 m2 m3 : Nat) (T : List (SubX Int)) (B : List PgX) (E : List Bool) (w : World) (hg : HasType w) (ht : T.length = m1) (hb : B.length = m2) (he : E.length = m3)
    (_hm1 : m1 ≤ 140737488351232) (_hm2 : m2 ≤ 140737488351232) (h1 : RdX scells 1 w A1 T) (hr1 : ∀ x ∈ T, SubOk icell 1 (fun _ y => -9223372036854775808 ≤ y ∧ y ≤ 9223372036854775807) w x) (h2 : RdX pcells 2 w A2 B) (ho : ∀ x ∈ B, PgOk w x) (h3 : RdB w A3 E) :
    Calls Tryd.prog 3 #[.int .i64 n, .slice A1 m1 c1, .slice A2 m2 c2, .slice A3 m3 c3] w fun e w' => e = .returned (.bool true) ∧ Below w.heap.size w w' := by
  have HG := Hidden.mk hg
  have HT := Hidden.mk (And.intro ht (And.intro h1 hr1))
  have HB := Hidden.mk (And.intro hb (And.intro h2 ho))
  have HE := Hidden.mk (And.intro he h3)
  clear hg ht hb he h1 hr1 h2 ho h3
  by_cases hn : n < 1 ∨ 300 < n
  · have HN := Hidden.mk (dnew_e1 n w hn)
    by_cases hn1 : n < 1
    · have t1 : decide (n < 1) = true := by simpa using hn1
      clear hn hn1
      go_enter Tryd.func3, Tryd.ntmps3
      go_wp2_with fail
      refine HN.out.mono ?_
      rintro e w1 ⟨rfl, rfl⟩
      go_wp2_with fail
      go_ret
      exact ⟨rfl, Below.refl _ _⟩
    · have t1 : decide (n < 1) = false := by simpa using hn1
      have t2 : decide (300 < n) = true := by simp; omega
      clear hn hn1
      go_enter Tryd.func3, Tryd.ntmps3
      go_wp2_with fail
      refine HN.out.mono ?_
      rintro e w1 ⟨rfl, rfl⟩
      go_wp2_with fail
      go_ret
      exact ⟨rfl, Below.refl _ _⟩
  obtain ⟨nn, rfl⟩ : ∃ nn : Nat, n = nn := ⟨n.toNat, by omega⟩
  have hn1 : 1 ≤ nn := by omega
  have hn3 : nn ≤ 300 := by omega
  clear hn
  go_enter Tryd.func3, Tryd.ntmps3
  go_wp2_with fail
  refine (dnewB nn _ hn1 hn3).mono ?_
  rintro e w1 ⟨dp, Fp, rfl, hd1⟩
  have HD1 := Hidden.mk hd1
  clear hd1
  go_wp2_with fail
  refine (rnew_ok nn _ hn1 hn3).mono ?_
  rintro e w2 ⟨dr, Fr, Y, rfl, hr3, hf3, hb3⟩
  have HS : Hidden (Dv2 w w2 Fp Fr dp dr (newD nn) (newD nn)) := ⟨⟨HD1.out.below hb3, ⟨Y, hr3⟩, fun q hq hr => by have := HD1.out.flt q hq; have := hf3 q hr; omega, fun q hr => Nat.le_trans HD1.out.bel.size (hf3 q hr)⟩⟩
  have HRB : Hidden (RDB w w2 Fr dr (newD nn)) := ⟨⟨Y, hr3⟩, fun q hr => Nat.le_trans HD1.out.bel.size (hf3 q hr), HD1.out.bel.trans (hb3.mono HD1.out.bel.size)⟩
  have hlen : (newD nn).S.length = nn := by simp [newD]
  clear hr3 hf3 hb3 HD1
  by_cases h49 : nn < 49
  · have HPF := Hidden.mk (pof_lo HS.out.p (by rw [hlen]; exact h49))
    have HRF := Hidden.mk (rformat_e1 HRB.out (by rw [hlen]; exact h49))
    have HER := Hidden.mk (err_some 1 1 w2 (HG.out.below HG.out.lt HS.out.p.bel))
    rw [beq_self_eq_true] at HER
    have HBW := Hidden.mk HS.out.p.bel
    clear h49 hlen
    go_wp2_with fail
    refine HPF.out.mono ?_
    rintro e w3 ⟨rfl, rfl⟩
    go_wp2_with fail
    refine HRF.out.mono ?_
    rintro e w3 ⟨rfl, rfl⟩
    go_wp2_with fail
    refine HER.out.mono ?_
    rintro e w3 ⟨rfl, hb3⟩
    have HB3 := Hidden.mk (HBW.out.trans (hb3.mono HBW.out.size))
    clear hb3
    go_wp2_with fail
    go_ret
    exact ⟨rfl, HB3.out⟩
  have hl49 : 49 ≤ (newD nn).S.length := by rw [hlen]; omega
  have HPF := Hidden.mk (pformat_ok HS.out.p (⟨rfl, rfl⟩ : Up (newD nn)) hl49)
  obtain ⟨np, hnp⟩ : ∃ x, nP (newD nn) = x := ⟨_, rfl⟩
  have HPV := Hidden.mk (pvs_format nn (by omega) hn3)
  rw [hnp] at HPF HPV
  have HNP := Hidden.mk hnp
  go_wp2_with fail
  refine HPF.out.mono ?_
  rintro e w3 ⟨pp, F3, rfl, hm3, hpg3, hpp3⟩
  have HS3 := Hidden.mk (HS.out.stepP hm3.dev hm3.kp hm3.sub)
  have HP3 := Hidden.mk (And.intro hpg3 hpp3)
  have HRF := Hidden.mk (rformat_ok (⟨HS3.out.r, HS3.out.rn, HS3.out.p.bel⟩ : RDB w w3 Fr dr (newD nn)) (⟨rfl, rfl⟩ : Up (newD nn)) hl49)
  rw [hnp] at HRF
  have HFR : Hidden (∀ q, Fr q → q < w2.heap.size) := ⟨HS.out.rlt⟩
  clear hm3 hpg3 hpp3 HPF hnp
  go_wp2_with fail
  refine HRF.out.mono ?_
  rintro e w4 ⟨pr, F4, rfl, hm4, hpr4, hpp4⟩
  have HX4 : Hidden (Pg2 w w4 F3 F4 dp dr pp pr np 2 2 (formatD (newD nn)) (formatD (newD nn))) := ⟨by
    obtain ⟨Y4, hY4⟩ := hm4.dev.dev
    have hlt := HP3.out.1.lt
    have hz2 := HS.out.p.bel.size
    have hz3 := HS3.out.p.bel.size
    have hnF : ¬ Fr pp := fun hf => by have := HFR.out _ hf; have := HP3.out.2; omega
    refine ⟨HS3.out.stepR hY4 hm4.kp hm4.sub, ⟨(hm4.kp.block pp hlt hnF).trans HP3.out.1.1, HP3.out.1.2⟩, hpr4, far_of hm4.sub hnF hlt, fun hf => by have := HS3.out.p.flt _ hf; omega, by omega, by have := HP3.out.2; omega, by omega⟩⟩
  have HPV0 := Hidden.mk HPV.out
  generalize formatD (newD nn) = D0 at *
  clear hm4 hpr4 hpp4 HRF HS HRB HS3 HP3 HFR hlen hl49 HNP h49
  go_wp2_with fail
  refine (err_nil 0 w4).mono ?_
  rintro e w5 ⟨rfl, hb5⟩
  have HX5 := Hidden.mk (HX4.out.below hb5)
  clear hb5 HX4
  go_wp2_with fail
  go_loopg [12, 13, 15, 16] 30 (fun r pv qv tv iv wr => ∃ (i : Nat) (Fp Fr : Nat → Prop) (pp pr st : Nat) (D : Dv), i ≤ 30 ∧ r = 30 - i ∧ pv = .pointer (some ⟨pp, 0, none⟩) ∧ qv = .pointer (some ⟨pr, 0, none⟩) ∧ tv = .bool true ∧ iv = .int .i64 (i : Int) ∧ Hidden (Pg2 w wr Fp Fr dp dr pp pr np st st D D ∧ PvS nn np st D ∧ st ≤ 2 + i))
  case atStart => exact ⟨0, F3, F4, pp, pr, 2, D0, by omega, rfl, rfl, rfl, rfl, rfl, ⟨HX5.out, HPV0.out, Nat.le_refl _⟩⟩
  case round =>
    obtain ⟨i, Fp, Fr, qp, qr, st, D, hi, rfl, rfl, rfl, rfl, rfl, hs⟩ := hrel
    have HX := Hidden.mk hs.out
    clear hs HX5 HPV0
    by_cases hlt : i < m1 ∧ i < 30
    rotate_left
    · have HBE := Hidden.mk HX.out.1.dv.p.bel
      clear HX
      by_cases h1 : i < m1
      · have q2 : decide (i < m1) = true := by simp; omega
        have q1 : decide ((i : Int) < m1) = true := by simp; omega
        have q3 : decide ((i : Int) < 30) = false := by simp; omega
        have q4 : decide (i < 30) = false := by simp; omega
        clear hlt h1
        go_wp2_with fail
        go_ret
        exact ⟨rfl, HBE.out⟩
      · have q2 : decide (i < m1) = false := by simp; omega
        have q1 : decide ((i : Int) < m1) = false := by simp; omega
        clear hlt h1
        go_wp2_with fail
        go_ret
        exact ⟨rfl, HBE.out⟩
    have q1 : decide ((i : Int) < m1) = true := by simp; omega
    have q2 : decide (i < m1) = true := by simp; omega
    have q3 : decide ((i : Int) < 30) = true := by simp; omega
    have q4 : decide (i < 30) = true := by simp; omega
    have i0 : (0 : Int) ≤ i := by omega
    have i1 : (i : Int) < m1 := by omega
    obtain ⟨hTl, hTr, hTo⟩ := HT.out
    obtain ⟨pb1, of1, rfl, hc1⟩ := hTr i (by omega)
    have e1 := hc1 0 _ rfl
    rw [Nat.add_zero, Nat.mul_one] at e1
    have hto := hTo (T[i]'(by omega)) (List.getElem_mem _)
    generalize T[i]'(by omega) = x at *
    obtain ⟨sA, sc, s⟩ := x
    obtain ⟨ms, hms⟩ : ∃ ms, s.length = ms := ⟨_, rfl⟩
    have HMS := Hidden.mk hms
    have HSO := Hidden.mk hto
    dsimp only at e1
    rw [hms] at e1
    have hms2 : ms ≤ 140737488351232 := by
      have z1 : s.length ≤ sc := hto.cap
      have z2 : sc ≤ 140737488351232 := hto.le
      omega
    have E1 := Hidden.mk e1
    have hi30 : i < 30 := hlt.2
    clear hTl hTr hTo hc1 hto hms hlt
    go_upto_block 2 with (fail)
    have hal := (Below.refl wr.heap.size wr).alloc (Nat.le_refl _) (.cells #[.int .i64 0, .int .i64 0, .int .i64 0, .int .i64 0] 39)
    have HV0 : Hidden (Pgv w (wr.alloc (.cells #[.int .i64 0, .int .i64 0, .int .i64 0, .int .i64 0] 39)) Fp Fr dp dr qp qr np st st wr.heap.size D D (vObj s 0)) := ⟨HX.out.1.below hal, ⟨heap_alloc_new wr _, fun hf => by have := HX.out.1.dv.p.flt _ hf; omega, fun hf => by have := HX.out.1.dv.rlt _ hf; omega⟩, fun e => by have := HX.out.1.pg.lt; omega, fun e => by have := HX.out.1.rg.lt; omega, HX.out.1.dv.p.bel.size⟩
    have HPV := Hidden.mk HX.out.2
    clear hal HX
    generalize wr.alloc (.cells #[.int .i64 0, .int .i64 0, .int .i64 0, .int .i64 0] 39) = W1 at *
    generalize wr.heap.size = av at *
    go_cut [] (fun wx => Hidden (∃ j, j ≤ 4 ∧ j ≤ s.length ∧ ¬ (j < s.length ∧ j < 4) ∧ Pgv w wx Fp Fr dp dr qp qr np st st av D D (vObj s j)))
    case first =>
      as_aux_lemma =>
        go_wp2_with fail
        go_loopg [18] 4 (fun r jv wy => ∃ j : Nat, j ≤ 4 ∧ j ≤ ms ∧ r = 4 - j ∧ jv = .int .i64 (j : Int) ∧ Hidden (Pgv w wy Fp Fr dp dr qp qr np st st av D D (vObj s j)))
        case atStart => exact ⟨0, by omega, by omega, rfl, rfl, HV0⟩
        case round =>
          obtain ⟨j, hj4, hjm, rfl, rfl, hs⟩ := hrel
          have HY := Hidden.mk hs.out
          clear hs HV0
          have x1 := (HY.out.pg.dv.p.bel.cell (p := ⟨pb1, of1 + i, none⟩) (block_lt_of_cell E1.out)).trans E1.out
          by_cases hc : j < ms
          · have r1 : decide ((j : Int) < ms) = true := by simp; omega
            have r2 : decide (j < ms) = true := by simpa using hc
            by_cases h4 : j < 4
            · have r3 : decide ((j : Int) < 4) = true := by simp; omega
              have r4 : decide (j < 4) = true := by simpa using h4
              have j0 : (0 : Int) ≤ j := by omega
              have j1 : (j : Int) < ms := by omega
              have j2 : (j : Int) < 4 := by omega
              have s1 : IntKind.i64.wrap ((j : Int) + 1) = (j : Int) + 1 := IntWalk.i64_in _ (by omega)
              have hjs : j < s.length := by rw [HMS.out]; exact hc
              obtain ⟨sb, so, hsA, hsc⟩ := HSO.out.rd j hjs
              dsimp only at hsA hsc
              subst hsA
              have y0 := hsc 0 _ rfl
              rw [Nat.add_zero, Nat.mul_one] at y0
              have y1 := (HY.out.pg.dv.p.bel.cell (p := ⟨sb, so + j, none⟩) (block_lt_of_cell y0)).trans y0
              have hgd : s[j] = s.getD j 0 := by rw [List.getD_eq_getElem?_getD, List.getElem?_eq_getElem hjs]; rfl
              rw [hgd] at y1
              have hh := show wr.heap[av]? = some (.cells (vArr s j) 39 (0, 0)) from HY.out.ow.1
              obtain ⟨u, hu⟩ := vArr_at s j j h4
              have z1 : wr.cell? ⟨av, j, none⟩ = some u := by rw [cell_of_row wr av j _ _ _ hh]; exact hu
              have z2 := frozen_of_row wr av j _ _ hh
              have hset := heap_setK (k := j) hh (.int .i64 (s.getD j 0))
              rw [vArr_set s j h4] at hset
              have hkp : Keep (fun q => q = av) wr (wr.setCell ⟨av, j, none⟩ (.int .i64 (s.getD j 0))) := Keep.setCell (F := fun q => q = av) (Keep.refl _ _) (p := ⟨av, j, none⟩) (.inl rfl) _
              have HN : Hidden (Pgv w (wr.setCell ⟨av, j, none⟩ (.int .i64 (s.getD j 0))) Fp Fr dp dr qp qr np st st av D D (vObj s (j + 1))) := ⟨HY.out.set hkp hset⟩
              generalize s.getD j 0 = sj at *
              clear hc h4 hsc y0 hgd hh hu hset hkp hjs HY
              go_wp2_with fail
              go_roundg (4 - (j + 1))
              case measure => omega
              case rel => exact ⟨j + 1, by omega, by omega, rfl, by go_num, HN⟩
            · have r3 : decide ((j : Int) < 4) = false := by simp; omega
              have r4 : decide (j < 4) = false := by simpa using h4
              have HF : Hidden (∃ j, j ≤ 4 ∧ j ≤ s.length ∧ ¬ (j < s.length ∧ j < 4) ∧ Pgv w wr Fp Fr dp dr qp qr np st st av D D (vObj s j)) := ⟨j, hj4, by rw [HMS.out]; exact hjm, fun h => h4 h.2, HY.out⟩
              clear hc h4 HY
              go_wp2_with fail
              go_meet
              exact HF
          · have r1 : decide ((j : Int) < ms) = false := by simp; omega
            have r2 : decide (j < ms) = false := by simpa using hc
            have HF : Hidden (∃ j, j ≤ 4 ∧ j ≤ s.length ∧ ¬ (j < s.length ∧ j < 4) ∧ Pgv w wr Fp Fr dp dr qp qr np st st av D D (vObj s j)) := ⟨j, hj4, by rw [HMS.out]; exact hjm, fun h => hc (by rw [← HMS.out]; exact h.1), HY.out⟩
            clear hc HY
            go_wp2_with fail
            go_meet
            exact HF
    case rest =>
    obtain ⟨v0, hv0⟩ : ∃ v, s.getD 0 0 = v := ⟨_, rfl⟩
    obtain ⟨v1, hv1⟩ : ∃ v, s.getD 1 0 = v := ⟨_, rfl⟩
    obtain ⟨v2, hv2⟩ : ∃ v, s.getD 2 0 = v := ⟨_, rfl⟩
    obtain ⟨v3, hv3⟩ : ∃ v, s.getD 3 0 = v := ⟨_, rfl⟩
    have HVO : Hidden (Pgv w wc Fp Fr dp dr qp qr np st st av D D (.cells #[.int .i64 v0, .int .i64 v1, .int .i64 v2, .int .i64 v3] 39 (0, 0))) := ⟨by
      obtain ⟨j, b1, b2, b3, b4⟩ := hcut.out
      unfold vObj vArr at b4
      rw [vq_end b2 b1 b3 (show 0 < 4 by omega), vq_end b2 b1 b3 (show 1 < 4 by omega), vq_end b2 b1 b3 (show 2 < 4 by omega), vq_end b2 b1 b3 (show 3 < 4 by omega), hv0, hv1, hv2, hv3] at b4
      exact b4⟩
    have hb1 := getD_in (s := s) (fun y hy => HSO.out.ok y hy) 1
    have hb2 := getD_in (s := s) (fun y hy => HSO.out.ok y hy) 2
    have hb3 := getD_in (s := s) (fun y hy => HSO.out.ok y hy) 3
    rw [hv1] at hb1
    rw [hv2] at hb2
    rw [hv3] at hb3
    have HB13 := Hidden.mk (And.intro hb1 (And.intro hb2 hb3))
    clear hcut HV0 hv0 hv1 hv2 hv3 HSO HMS E1 hms2 q1 q2 q3 q4 hb1 hb2 hb3 i0 i1
    obtain ⟨a0, a1, a2, a3⟩ := HVO.out.four
    go_upto_block 4 with (fail)
    go_cut [12, 13, 15] (fun pv qv tv wx => tv = .bool true ∧ ∃ (Fp Fr : Nat → Prop) (qp qr st : Nat) (D : Dv), pv = .pointer (some ⟨qp, 0, none⟩) ∧ qv = .pointer (some ⟨qr, 0, none⟩) ∧ Hidden (Pgv w wx Fp Fr dp dr qp qr np st st av D D (.cells #[.int .i64 v0, .int .i64 v1, .int .i64 v2, .int .i64 v3] 39 (0, 0)) ∧ PvS nn np st D ∧ st ≤ 3 + i))
    case first =>
      by_cases k3 : v0 = 3
      ·
        as_aux_lemma =>
          subst k3
          have HPF := Hidden.mk (HVO.out.pg.dv.p.fail v1 HB13.out.1.2)
          go_wp2_with fail
          refine HPF.out.mono ?_
          rintro e w5 ⟨rfl, hd5, hk5⟩
          have HD5 := Hidden.mk (HVO.out.stP hd5 hk5 (fun _ h => .inl h))
          obtain ⟨y0, y1, y2, y3⟩ := HD5.out.four
          have HRF : Hidden (Calls Tryd.prog 13 #[.pointer (some ⟨dr, 0, none⟩), .int .i64 v1] w5 fun e w' => e = .returned (.tuple #[]) ∧ (∃ Y', RdIs w' Fr dr { D with left := max (-1) v1 } Y') ∧ Keep Fr w5 w') := ⟨by
            obtain ⟨Y, hY⟩ := HD5.out.pg.dv.r
            exact (rfail_any hY v1 HB13.out.1.2).mono fun e w' ⟨h1, h2, h3, _⟩ => ⟨h1, ⟨Y, h2⟩, h3⟩⟩
          clear hd5 hk5 HPF HVO a0 a1 a2 a3
          go_wp2_with fail
          refine HRF.out.mono ?_
          rintro e w6 ⟨rfl, ⟨Y6, hd6⟩, hk6⟩
          have HF := Hidden.mk (And.intro (HD5.out.stR hd6 hk6 (fun _ h => .inl h)) (And.intro (HPV.out.1.left (max (-1) v1)) (show st ≤ 3 + i by have := HPV.out.2; omega)))
          clear hd6 hk6 HRF HD5 y0 y1 y2 y3
          go_wp2_with fail
          go_meet
          exact ⟨rfl, Fp, Fr, qp, qr, st, _, rfl, rfl, HF⟩
      by_cases k0 : v0 = 0 ∨ v0 = 1 ∨ v0 = 2
      ·
        as_aux_lemma =>
          generalize wc = wA at *
          obtain ⟨ii, ii0, iz0, iz1, iz2⟩ := info_parts pgX_info
          rcases k0 with rfl | rfl | rfl
          all_goals
            as_aux_lemma =>
              go_wp2_with fail
              go_loopg [19, 20] 30 (fun r xv kv wy => ∃ (k : Nat) (X : List PgX), k ≤ 30 ∧ r = 30 - k ∧ kv = .int .i64 (k : Int) ∧ Hidden (Below wA.heap.size wA wy ∧ wy.ownsRow wA.heap.size 43 2 xv k (X.flatMap pcells) ∧ X.length = k ∧ ∀ x ∈ X, x ∈ B))
              case atStart => exact ⟨0, [], by omega, rfl, rfl, ⟨Below.refl _ _, World.ownsRow_nil _ _ _ _, rfl, by simp⟩⟩
              case round =>
                obtain ⟨k, X, hk, rfl, rfl, hs⟩ := hrel
                have HY := Hidden.mk hs.out
                clear hs a0 a1 a2 a3
                generalize wr = wB at *
                have HVY := Hidden.mk (HVO.out.below HY.out.1)
                obtain ⟨y0, y1, y2, y3⟩ := HVY.out.four
                obtain ⟨cb, hcb⟩ : ∃ b, decide (k < m2 ∧ k < 30 ∧ (k : Int) < v1 ∧ 0 ≤ v2 ∧ v2 < 1000) = b := ⟨_, rfl⟩
                have HCB := Hidden.mk hcb
                clear hcb
                go_upto_region 32 with (fail)
                go_cut [159] (fun bv wx => bv = .bool cb ∧ wB = wx)
                case first =>
                  as_aux_lemma =>
                    by_cases n1 : k < m2
                    rotate_left
                    · obtain rfl : cb = false := by rw [← HCB.out]; simp only [decide_eq_false_iff_not]; exact fun h => n1 h.1
                      have d1 : decide (k < m2) = false := by simpa using n1
                      have e1 : decide ((k : Int) < m2) = false := by simp; omega
                      clear n1 HY
                      go_wp2_with fail
                      go_meet
                      exact ⟨rfl, rfl⟩
                    have d1 : decide (k < m2) = true := by simpa using n1
                    have e1 : decide ((k : Int) < m2) = true := by simp; omega
                    by_cases n2 : k < 30
                    rotate_left
                    · obtain rfl : cb = false := by rw [← HCB.out]; simp only [decide_eq_false_iff_not]; exact fun h => n2 h.2.1
                      have d2 : decide (k < 30) = false := by simpa using n2
                      have e2 : decide ((k : Int) < 30) = false := by simp; omega
                      clear n1 n2 HY
                      go_wp2_with fail
                      go_meet
                      exact ⟨rfl, rfl⟩
                    have d2 : decide (k < 30) = true := by simpa using n2
                    have e2 : decide ((k : Int) < 30) = true := by simp; omega
                    by_cases n3 : (k : Int) < v1
                    rotate_left
                    · obtain rfl : cb = false := by rw [← HCB.out]; simp only [decide_eq_false_iff_not]; exact fun h => n3 h.2.2.1
                      have e3 : decide ((k : Int) < v1) = false := by simp; omega
                      clear n1 n2 n3 HY
                      go_wp2_with fail
                      go_meet
                      exact ⟨rfl, rfl⟩
                    have e3 : decide ((k : Int) < v1) = true := by simp; omega
                    by_cases n4 : 0 ≤ v2
                    rotate_left
                    · obtain rfl : cb = false := by rw [← HCB.out]; simp only [decide_eq_false_iff_not]; exact fun h => n4 h.2.2.2.1
                      have e4 : decide (0 ≤ v2) = false := by simp; omega
                      clear n1 n2 n3 n4 HY
                      go_wp2_with fail
                      go_meet
                      exact ⟨rfl, rfl⟩
                    have e4 : decide (0 ≤ v2) = true := by simp; omega
                    by_cases n5 : v2 < 1000
                    rotate_left
                    · obtain rfl : cb = false := by rw [← HCB.out]; simp only [decide_eq_false_iff_not]; exact fun h => n5 h.2.2.2.2
                      have e5 : decide (v2 < 1000) = false := by simp; omega
                      clear n1 n2 n3 n4 n5 HY
                      go_wp2_with fail
                      go_meet
                      exact ⟨rfl, rfl⟩
                    have e5 : decide (v2 < 1000) = true := by simp; omega
                    obtain rfl : cb = true := by rw [← HCB.out]; simp only [decide_eq_true_eq]; exact ⟨n1, n2, n3, n4, n5⟩
                    clear n1 n2 n3 n4 n5 HY
                    go_wp2_with fail
                    go_meet
                    exact ⟨rfl, rfl⟩
                case rest =>
                obtain ⟨rfl, rfl⟩ := hcut
                cases cb with
                | true =>
                  as_aux_lemma =>
                    obtain ⟨n1, n2, n3, n4, n5⟩ := of_decide_eq_true HCB.out
                    obtain ⟨u, rfl⟩ : ∃ u : Nat, v2 = u := ⟨v2.toNat, by omega⟩
                    obtain ⟨hBl, hBr, hBo⟩ := HB.out
                    have s1 : IntKind.i64.wrap ((k : Int) + (u : Int)) = (k : Int) + (u : Int) := IntWalk.i64_in _ (by omega)
                    have s2 : IntKind.i64.wrap ((k : Int) + 1) = (k : Int) + 1 := IntWalk.i64_in _ (by omega)
                    have f1 : ((m2 : Int) == 0) = false := by simp; omega
                    have f2 : ((k : Int) + (u : Int)) % (m2 : Int) = (((k + u) % m2 : Nat) : Int) := by rw [Int.natCast_emod, Int.natCast_add]
                    have f2' : ((k : Int) + (u : Int)).tmod (m2 : Int) = (((k + u) % m2 : Nat) : Int) := by rw [Int.tmod_eq_emod_of_nonneg (by omega), Int.natCast_emod, Int.natCast_add]
                    have hlm : (k + u) % m2 < m2 := Nat.mod_lt _ (by omega)
                    have f3 : (0 : Int) ≤ (((k + u) % m2 : Nat) : Int) := by omega
                    have f4 : (((k + u) % m2 : Nat) : Int) < m2 := by omega
                    obtain ⟨pb2, of2, rfl, hc2⟩ := hBr ((k + u) % m2) (by omega)
                    have g0 := hc2 0 _ rfl
                    have g1 := hc2 1 _ rfl
                    rw [Nat.add_zero] at g0
                    have bw := HVY.out.pg.dv.p.bel
                    have x0 := (bw.cell (p := ⟨pb2, of2 + (k + u) % m2 * 2, none⟩) (block_lt_of_cell g0)).trans g0
                    have x1 := (bw.cell (p := ⟨pb2, of2 + (k + u) % m2 * 2 + 1, none⟩) (block_lt_of_cell g1)).trans g1
                    have HMEM : Hidden (B[(k + u) % m2]'(by omega) ∈ B) := ⟨List.getElem_mem _⟩
                    generalize B[(k + u) % m2]'(by omega) = bx at *
                    obtain ⟨bn, bA, bc, body⟩ := bx
                    generalize (k + u) % m2 = im at *
                    dsimp only at x0 x1
                    have HXS : Hidden ((X ++ [(⟨bn, bA, bc, body⟩ : PgX)]).flatMap pcells = X.flatMap pcells ++ [.int .i64 bn, .slice bA body.length bc]) := ⟨by rw [List.flatMap_append]; rfl⟩
                    have hal := (Below.refl wB.heap.size wB).alloc (Nat.le_refl _) (.cells #[.int .i64 bn, .slice bA body.length bc] 43)
                    have hown2 := own_below HY.out.2.1 hal
                    have HAL := Hidden.mk hal
                    have hsz := HY.out.1.size
                    obtain ⟨xs, hxs⟩ : ∃ xs, X.flatMap pcells = xs := ⟨_, rfl⟩
                    rw [hxs] at hown2 HXS
                    generalize body.length = bl at *
                    clear n1 n3 n4 n5 hBl hBr hBo hc2 g0 g1 bw hlm hal hxs HCB
                    go_wp2_with (at_builtin; refine wpList_append_lies _ rfl (.tmp 162) (.tmp 173) _ rfl wA.heap.size 43 ii _ 2 32 Tryd.underlying23 ii0 iz0 iz1 iz2 rfl (by decide) u19 k xs rfl hown2 ⟨wB.heap.size, 0, none⟩ 1 1 [.int .i64 bn, .slice bA bl bc] rfl rfl (World.news_of_block (cs := #[.int .i64 bn, .slice bA bl bc]) (t := 43) (fr := (0, 0)) (heap_alloc_new wB _)) (by simp [Value.oneCell']) (by omega) (by simp only [maxLen]; omega) (by omega) (by simp; omega) (wB.heap.size + 1) (by simp) ?_; intro g8 cap8 w8 hown8 hg8 hat8 hlt8)
                    have hgG := grown_trans' HAL.out hg8
                    have HN : Hidden (Below wA.heap.size wA w8 ∧ w8.ownsRow wA.heap.size 43 2 (.slice (some ⟨g8, 0, none⟩) (k + 1) cap8) (k + 1) ((X ++ [(⟨bn, bA, bc, body⟩ : PgX)]).flatMap pcells) ∧ (X ++ [(⟨bn, bA, bc, body⟩ : PgX)]).length = k + 1 ∧ ∀ x ∈ X ++ [(⟨bn, bA, bc, body⟩ : PgX)], x ∈ B) := ⟨HY.out.1.grown hgG HY.out.1.size (fun q hq => (HY.out.2.1.lt q hq).1), by rw [HXS.out]; exact hown8, by simp [HY.out.2.2.1], fun x hx => by
                      rcases List.mem_append.1 hx with h | h
                      · exact HY.out.2.2.2 x h
                      · rw [List.mem_singleton] at h; rw [h]; exact HMEM.out⟩
                    clear hown2 hsz hown8 hg8 hat8 hlt8 hgG HY x0 x1 HVY y0 y1 y2 y3
                    go_roundg (30 - (k + 1))
                    case measure => omega
                    case rel => exact ⟨k + 1, _, by omega, rfl, by go_num, HN⟩
                | false =>
                  as_aux_lemma =>
                    obtain ⟨A, cx, rfl, hcx, -⟩ := own_split HY.out.2.1
                    have hrx := own_rdX3 (f := pcells) (C := 2) (fun _ => rfl) HY.out.2.2.1 HY.out.2.1
                    have HXL := Hidden.mk HY.out.2.2.1
                    have HXO : Hidden (∀ x ∈ X, PgOk w x) := ⟨fun x hx => HB.out.2.2 x (HY.out.2.2.2 x hx)⟩
                    have HXA : Hidden (∀ ad, A = some ad → wA.heap.size ≤ ad.block) := ⟨fun ad e => by
                      rcases HY.out.2.1.2 with ⟨he, -⟩ | ⟨g, cap, cur, he, hb, -⟩
                      · injection he with he
                        rw [e] at he; cases he
                      · injection he with he
                        rw [e] at he
                        obtain rfl := Option.some.inj he
                        exact hb⟩
                    have hn200 : np ≤ 200 := by rw [HPV.out.1.n0]; exact (nP_le D).1
                    have hst9 : st < 4294967295 := by have := HPV.out.2; omega
                    have HPC := Hidden.mk (pcommit_any HVY.out.pg.dv.p HVY.out.pg.pg hn200 (by omega) HVY.out.pg.b1 A k cx X HXL.out hcx (pgsR_in hrx (fun _ ad e hf => by have := HXA.out ad e; have := HVO.out.pg.dv.p.flt _ hf; omega) HVY.out.pg.dv.p.new HXO.out HVY.out.pg.dv.p.bel))
                    have HRX := Hidden.mk hrx
                    have HPS := Hidden.mk (And.intro (HPV.out.1.commit (pgs X)) (show (if (commitP st np (pgs X) D).2 = 0 ∧ (pgs X).length ≠ 0 then st + 1 else st) ≤ 3 + i by have := HPV.out.2; split <;> omega))
                    rw [show (pgs X).length = X.length by simp [pgs]] at HPS
                    obtain ⟨r, hr⟩ : ∃ r, commitP st np (pgs X) D = r := ⟨_, rfl⟩
                    rw [hr] at HPC HPS
                    have HR := Hidden.mk hr
                    obtain ⟨st5, hst5⟩ : ∃ x, (if r.2 = 0 ∧ X.length ≠ 0 then st + 1 else st) = x := ⟨_, rfl⟩
                    rw [hst5] at HPS
                    have HS5 := Hidden.mk hst5
                    clear hr hst5 hrx HCB y0 y1 y2 y3
                    go_wp2_with fail
                    refine HPC.out.mono ?_
                    rintro e w5 ⟨rfl, F5, hm5⟩
                    rw [HS5.out] at hm5
                    have HV5 := Hidden.mk (HVY.out.cm hm5)
                    have HRC := Hidden.mk (rcommit_any HV5.out.pg.rdb HV5.out.pg.rg hn200 hst9 HV5.out.pg.b2 A k cx X HXL.out hcx (pgsR_in (HRX.out.block (fun ad e hlt => hm5.kp.block _ hlt (fun hf => by
                      have h1 := HXA.out ad e
                      rcases hf with hf | hf
                      · have := HVO.out.pg.dv.p.flt _ hf; omega
                      · have := HVO.out.pg.pg.lt; omega))) (fun _ ad e hf => by have := HXA.out ad e; have := HVO.out.pg.dv.rlt _ hf; omega) HV5.out.pg.dv.rn HXO.out HV5.out.pg.dv.p.bel))
                    rw [HR.out] at HRC
                    clear hm5 HPC
                    go_wp2_with fail
                    refine HRC.out.mono ?_
                    rintro e w6 ⟨rfl, F6, hm6⟩
                    rw [HS5.out] at hm6
                    have HV6 := Hidden.mk (HV5.out.rc hm6)
                    have HER := Hidden.mk (err_any r.2 (r.2 : Int) w6 (HG.out.below HG.out.lt HV6.out.pg.dv.p.bel))
                    rw [beq_self_eq_true] at HER
                    clear hm6 HRC HV5
                    go_wp2_with fail
                    refine HER.out.mono ?_
                    rintro e w7 ⟨rfl, hb7⟩
                    have HF := Hidden.mk (And.intro (HV6.out.below hb7) HPS.out)
                    clear hb7 HER HV6
                    go_wp2_with fail
                    go_meet
                    exact ⟨rfl, _, _, qp, qr, st5, _, rfl, rfl, HF⟩
      as_aux_lemma =>
        have z0 : (v0 == 0) = false := by simp; omega
        have z1 : (v0 == 1) = false := by simp; omega
        have z2 : (v0 == 2) = false := by simp; omega
        have z3 : (v0 == 3) = false := by simpa using k3
        have HPW := Hidden.mk (HVO.out.pg.dv.p.crash A3 m3 c3 E v1 v2 HE.out.1 (HE.out.2.below HVO.out.pg.dv.p.bel) (fun h0 ad e hf => by
          obtain ⟨qb, off, e2, hc⟩ := HE.out.2 0 (by rw [HE.out.1]; exact h0)
          rw [e] at e2
          obtain rfl := Option.some.inj e2
          have := block_lt_of_cell hc
          have := HVO.out.pg.dv.p.new _ hf
          dsimp only at *
          omega))
        have HCR := Hidden.mk (HPV.out.1.crash E v1 (min 32 (max 0 v2)).toNat (by omega))
        have HST := Hidden.mk HPV.out.2
        obtain ⟨D2, hD2⟩ : ∃ x, crashD D E v1 (min 32 (max 0 v2)).toNat = x := ⟨_, rfl⟩
        rw [hD2] at HPW HCR
        have HD2 := Hidden.mk hD2
        clear hD2 k3 k0
        go_wp2_with fail
        refine HPW.out.mono ?_
        rintro e w5 ⟨rfl, hd5, hk5⟩
        have HV5 := Hidden.mk (HVO.out.stP hd5 hk5 (fun _ h => .inl h))
        obtain ⟨y0, y1, y2, y3⟩ := HV5.out.four
        have HRW : Hidden (Calls Tryd.prog 15 #[.pointer (some ⟨dr, 0, none⟩), .slice A3 m3 c3, .int .i64 v1, .int .i64 v2] w5 (RwAns w5 Fr dr (D2, D.O.length))) := ⟨by
          obtain ⟨Y, hY⟩ := HV5.out.pg.dv.r
          have := rcrash_any A3 m3 c3 E v1 v2 hY HE.out.1 (HE.out.2.below HV5.out.pg.dv.p.bel) (fun h0 ad e hf => by
            obtain ⟨qb, off, e2, hc⟩ := HE.out.2 0 (by rw [HE.out.1]; exact h0)
            rw [e] at e2
            obtain rfl := Option.some.inj e2
            have := block_lt_of_cell hc
            have := HV5.out.pg.dv.rn _ hf
            dsimp only at *
            omega)
          rw [HD2.out] at this
          exact this⟩
        clear hd5 hk5 HPW HVO a0 a1 a2 a3
        go_wp2_with fail
        refine HRW.out.mono ?_
        rintro e w6 ⟨rfl, F6, Y6, hd6, hk6, hs6⟩
        have HV6 := Hidden.mk (HV5.out.stR hd6 hk6 hs6)
        have HOP := Hidden.mk (popen_any HV6.out.pg.dv.p)
        obtain ⟨r, hr⟩ : ∃ r, openP D2 = r := ⟨_, rfl⟩
        obtain ⟨st6, hst6⟩ : ∃ r, (openMk D2).1 = r := ⟨_, rfl⟩
        rw [hr, hst6] at HOP HCR
        have HR := Hidden.mk (And.intro hr hst6)
        obtain ⟨h0, hle6, hnp6, hpv6⟩ := HCR.out
        have HNP6 := Hidden.mk hnp6
        have HPV6 := Hidden.mk (And.intro hpv6 (show st6 ≤ 3 + i by have := HST.out; omega))
        have H0 := Hidden.mk h0
        clear hd6 hk6 hs6 HRW HV5 y0 y1 y2 y3 hr hst6 h0 hle6 hnp6 hpv6
        go_wp2_with fail
        refine HOP.out.mono ?_
        rintro e w7 hop
        obtain ⟨v, F7, rfl, hm7, hpp⟩ := hop.uni
        obtain ⟨p7, rfl, hp7, hpn7⟩ := hpp H0.out
        rw [HNP6.out] at hp7
        have HV7 := Hidden.mk (HV6.out.opP hm7 hp7 hpn7)
        have HRO := Hidden.mk (ropen_any HV7.out.pg.rdb)
        rw [HR.out.1, HR.out.2] at HRO
        rw [H0.out, errV0]
        clear hop hm7 hpp hp7 hpn7 HOP
        go_wp2_with fail
        refine HRO.out.mono ?_
        rintro e w8 ⟨F8, hm8, ⟨-, p8, rfl, hp8, hpn8⟩ | ⟨hx, -⟩⟩
        rotate_left
        · exact absurd H0.out hx
        rw [HNP6.out] at hp8
        have HV8 := Hidden.mk (HV7.out.opR hm8 hp8 hpn8)
        clear hm8 hp8 hpn8 HRO HV6 HV7
        go_wp2_with fail
        refine (err_nil 0 w8).mono ?_
        rintro e w9 ⟨rfl, hb9⟩
        have HF := Hidden.mk (And.intro (HV8.out.below hb9) HPV6.out)
        rw [show ((0 : Int) == 0) = true from rfl]
        clear hb9 HV8
        go_wp2_with fail
        go_meet
        exact ⟨rfl, _, _, p7, p8, st6, _, rfl, rfl, HF⟩
    case rest =>
    as_aux_lemma =>
      obtain ⟨rfl, Fp, Fr, qp, qr, st, D, rfl, rfl, hs⟩ := hcut
      have HX := Hidden.mk hs.out
      clear hs HVO HPV a0 a1 a2 a3
      obtain ⟨a0, a1, a2, a3⟩ := HX.out.1.four
      obtain ⟨⟨b0, b1, b2⟩, -⟩ := three HX.out.1.pg.rg.1
      have HNP := Hidden.mk HX.out.2.1.n0
      have HN2 : Hidden (np + 48 ≤ D.S.length ∨ np = 0) := ⟨by have := HX.out.2.1.n0; unfold nP at this; omega⟩
      generalize wc = wA at *
      obtain ⟨cb, hcb⟩ : ∃ b, decide (v3 < 0 ∨ (np : Int) ≤ v3) = b := ⟨_, rfl⟩
      have HCB := Hidden.mk hcb
      clear hcb
      have hb3l := HB13.out.2.2
      go_upto_region 41 with (fail)
      go_cut [203] (fun bv wx => bv = .bool cb ∧ Hidden (Below wA.heap.size wA wx))
      case first =>
        by_cases n1 : v3 < 0
        · have d1 : decide (v3 < 0) = true := by simpa using n1
          obtain rfl : cb = true := by rw [← HCB.out]; simp only [decide_eq_true_eq]; exact .inl n1
          clear n1 HX
          go_quiet (fail)
          go_wp2_with fail
          go_meet
          exact ⟨rfl, ⟨below_drewN (Below.refl _ _) _⟩⟩
        · have d1 : decide (v3 < 0) = false := by simpa using n1
          by_cases n2 : (np : Int) ≤ v3
          · have d2 : decide ((np : Int) ≤ v3) = true := by simpa using n2
            obtain rfl : cb = true := by rw [← HCB.out]; simp only [decide_eq_true_eq]; exact .inr n2
            clear n1 n2 HX
            go_quiet (fail)
            go_wp2_with fail
            go_meet
            exact ⟨rfl, ⟨below_drewN (Below.refl _ _) _⟩⟩
          · have d2 : decide ((np : Int) ≤ v3) = false := by simpa using n2
            obtain rfl : cb = false := by rw [← HCB.out]; simp only [decide_eq_false_iff_not]; omega
            clear n1 n2 HX
            go_quiet (fail)
            go_wp2_with fail
            go_meet
            exact ⟨rfl, ⟨below_drewN (Below.refl _ _) _⟩⟩
      case rest =>
      as_aux_lemma =>
        obtain ⟨rfl, hbc⟩ := hcut
        have HXC := Hidden.mk (And.intro (HX.out.1.below hbc.out) HX.out.2)
        generalize wc = wC at *
        clear hbc HX a0 a1 a2 a3 b0 b1 b2
        obtain ⟨a0, a1, a2, a3⟩ := HXC.out.1.four
        obtain ⟨pe, hpe⟩ : ∃ x, pgE D v3 = x := ⟨_, rfl⟩
        obtain ⟨pl, hpl⟩ : ∃ x, pgL D v3 = x := ⟨_, rfl⟩
        have HPE := Hidden.mk (And.intro hpe hpl)
        clear hpe hpl
        go_upto_if 203 with (fail)
        go_cut [14, 25] (fun ev wv wx => ev = .int .i64 (pe : Int) ∧ ∃ (A : Option Addr) (c : Nat), wv = .slice A pl.length c ∧ Hidden (Below wC.heap.size wC wx ∧ Rd wx A pl))
        case first =>
          cases cb with
          | true =>
            have HZ : Hidden (pe = 1 ∧ pl = []) := ⟨by
              have h := of_decide_eq_true HCB.out
              have h1 : pgE D v3 = 1 := by unfold pgE; rw [← HNP.out, if_pos h]
              refine ⟨HPE.out.1.symm.trans h1, ?_⟩
              rw [← HPE.out.2]; unfold pgL; rw [h1, if_neg (by decide)]⟩
            go_wp2_with fail
            go_meet
            exact ⟨by rw [HZ.out.1]; rfl, none, 0, by rw [HZ.out.2]; rfl, ⟨Below.refl _ _, by rw [HZ.out.2]; exact Rd.nil_⟩⟩
          | false =>
            have h := of_decide_eq_false HCB.out
            have hn200 : np ≤ 200 := by rw [HNP.out]; exact (nP_le D).1
            have s1 : IntKind.i64.wrap (48 + v3) = 48 + v3 := IntWalk.i64_in _ (by omega)
            have HRR := Hidden.mk (HXC.out.1.pg.rdb.read (48 + v3))
            have HZ : Hidden (rdE D (48 + v3) = pe ∧ rdL D (48 + v3) = pl) := ⟨by
              have h1 : rdE D (48 + v3) = pgE D v3 := by
                unfold rdE pgE
                rw [← HNP.out, if_neg h, if_neg (by have := HN2.out; omega)]
              refine ⟨h1.trans HPE.out.1, ?_⟩
              rw [← HPE.out.2]; unfold rdL pgL; rw [h1, show (48 + v3).toNat = 48 + v3.toNat by omega]⟩
            rw [HZ.out.1, HZ.out.2] at HRR
            clear h
            go_wp2_with fail
            refine HRR.out.mono ?_
            rintro e w5 ⟨A5, c5, rfl, hc5, hrd5, -, hb5⟩
            have HF := Hidden.mk (And.intro hb5 hrd5)
            clear hb5 hrd5 HRR
            go_wp2_with fail
            go_meet
            exact ⟨rfl, A5, c5, rfl, HF⟩
        case rest =>
        as_aux_lemma =>
          obtain ⟨rfl, A5, c5, rfl, hs5⟩ := hcut
          have HX5 := Hidden.mk (And.intro (HXC.out.1.below hs5.out.1) HXC.out.2)
          have HR5 := Hidden.mk hs5.out.2
          generalize wc = w5 at *
          clear hs5 HXC a0 a1 a2 a3 HCB
          obtain ⟨a0, a1, a2, a3⟩ := HX5.out.1.four
          have HPR := Hidden.mk (pread_any HX5.out.1.pg.dv.p (by have := HX5.out.1.pg.pg; rwa [HNP.out] at this) v3)
          rw [HPE.out.1, HPE.out.2] at HPR
          go_wp2_with fail
          refine HPR.out.mono ?_
          rintro e w6 ⟨A6, c6, rfl, hc6, hrd6, -, hb6⟩
          have HX6 := Hidden.mk (And.intro (HX5.out.1.below hb6) HX5.out.2)
          have HR6 := Hidden.mk (And.intro (HR5.out.below hb6) hrd6)
          have HER := Hidden.mk (err_any pe (pe : Int) w6 (HG.out.below HG.out.lt HX6.out.1.pg.dv.p.bel))
          rw [beq_self_eq_true] at HER
          clear hc6 hrd6 hb6 HPR HX5 HR5 a0 a1 a2 a3
          go_wp2_with fail
          refine HER.out.mono ?_
          rintro e w7 ⟨rfl, hb7⟩
          have HX7 := Hidden.mk (And.intro (HX6.out.1.below hb7) HX6.out.2)
          obtain ⟨ml, hml⟩ : ∃ x, pl.length = x := ⟨_, rfl⟩
          rw [hml]
          have c1 := fun nq => conv_text (w7.drewN nq) A5 ml c5 pl hml ((HR6.out.1.below hb7).drewN nq)
          have c2 := fun nq => conv_text (w7.drewN nq) A6 ml c6 pl hml ((HR6.out.2.below hb7).drewN nq)
          obtain ⟨⟨b0, b1, b2⟩, -⟩ := three HX7.out.1.pg.rg.1
          have HSP := Hidden.mk (fun nq => pstamp_any (HX7.out.1.pg.pg.below (below_drewN (Below.refl _ w7) nq)))
          have HLP := Hidden.mk (fun nq => plen_any (HX7.out.1.pg.pg.below (below_drewN (Below.refl _ w7) nq)))
          have t1 : ((st : Int) != (st : Int)) = false := by simp
          have t2 : ((np : Int) != (np : Int)) = false := by simp
          have HML := Hidden.mk hml
          clear hb7 HER HX6 HR6 hml
          go_upto_region 46 with (fail)
          go_quiet (first
            | (go_at_call 20; refine Calls.quiet_of_same (v := .int .i64 st) (((HSP.out _)).mono ?_); rintro e w' ⟨rfl, rfl⟩; exact ⟨rfl, rfl⟩)
            | (go_at_call 21; refine Calls.quiet_of_same (v := .int .i64 np) (((HLP.out _)).mono ?_); rintro e w' ⟨rfl, rfl⟩; exact ⟨rfl, rfl⟩))
          have HZ := Hidden.mk (And.intro (HX7.out.1.pg.below (below_drewN (Below.refl _ w7) nq)) (And.intro HX7.out.2.1 (show st ≤ 2 + (i + 1) by have := HX7.out.2.2; omega)))
          have s2 : IntKind.i64.wrap ((i : Int) + 1) = (i : Int) + 1 := IntWalk.i64_in _ (by omega)
          clear HSP HLP HX7 c1 c2 b0 b1 b2
          go_wp2_with fail
          go_roundg (30 - (i + 1))
          case measure => omega
          case rel => exact ⟨i + 1, Fp, Fr, qp, qr, st, D, by omega, rfl, rfl, rfl, rfl, by go_num, HZ⟩
end Go.Proofs.YtbnobjlphmkgeaaDoor
