/- Contracts and plain laws, put together: DevPlay1. -/
import Derived.Test.YtmhlnbbnanehiaaDoorDevicePlaysFrameM3
import Derived.Test.YtmhlnbbnanehiaaDoorDevicePlaysFrameM2
import Derived.Test.YtmhlnbbnanehiaaDoorDevicePlaysFrameM1
import Derived.StillTailTactics
import Derived.BigQuiet
/- DevicePlays: the walk. -/
namespace Go.Proofs.YtmhlnbbnanehiaaDoor
open Go.RowKit Go.Maps Go.ChangeMaps

/-- the four numbers of a step, so far as they are read -/
def vq (s : List Int) (j q : Nat) : Int := if q < j then s.getD q 0 else 0
def vArr (s : List Int) (j : Nat) : Array Value := #[.int .i64 (vq s j 0), .int .i64 (vq s j 1), .int .i64 (vq s j 2), .int .i64 (vq s j 3)]
def vObj (s : List Int) (j : Nat) : Obj := .cells (vArr s j) 50 (0, 0)
theorem vArr_set (s : List Int) (j : Nat) (hj : j < 4) : (vArr s j).setIfInBounds j (.int .i64 (s.getD j 0)) = vArr s (j + 1) := by
  match j, hj with
  | 0, _ => rfl
  | 1, _ => rfl
  | 2, _ => rfl
  | 3, _ => rfl
theorem vArr_at (s : List Int) (j q : Nat) (hq : q < 4) : ∃ u, (vArr s j)[q]? = some u := ⟨(vArr s j)[q]'hq, Array.getElem?_eq_getElem _⟩
theorem vq_end {s : List Int} {j q : Nat} (hj : j ≤ s.length) (hj4 : j ≤ 4) (h : ¬ (j < s.length ∧ j < 4)) (hq : q < 4) : vq s j q = s.getD q 0 := by
  unfold vq
  by_cases hqj : q < j
  · rw [if_pos hqj]
  · rw [if_neg hqj, List.getD_eq_getElem?_getD, List.getElem?_eq_none (by omega)]; rfl
theorem getD_in {s : List Int} (h : ∀ y ∈ s, -9223372036854775808 ≤ y ∧ y ≤ 9223372036854775807) (q : Nat) : -9223372036854775808 ≤ s.getD q 0 ∧ s.getD q 0 ≤ 9223372036854775807 := by
  rw [List.getD_eq_getElem?_getD]
  by_cases hq : q < s.length
  · rw [List.getElem?_eq_getElem hq]; exact h _ (List.getElem_mem hq)
  · rw [List.getElem?_eq_none (by omega)]; exact ⟨by decide, by decide⟩
theorem Own2.c1 {w : World} {Fp Fr : Nat → Prop} {q : Nat} {a b c d : Value} {t : TypeId} (h : Own2 w Fp Fr q (.cells #[a, b, c, d] t (0, 0))) : w.cell? ⟨q, 1, none⟩ = some b ∧ w.cell? ⟨q, 2, none⟩ = some c := ⟨(fourF h.1).1.2.1, (fourF h.1).1.2.2.1⟩
set_option maxRecDepth 100000 in
set_option maxHeartbeats 4000000 in
theorem devPlay_walk (n : Int) (A1 A2 A3 : Option Addr) (c1 c2 c3 m1 m2 m3 : Nat) (T : List (SubX Int)) (B : List BX) (E : List Bool) (w : World) (hg : HasType w) (ht : T.length = m1) (hb : B.length = m2) (he : E.length = m3)
    (_hm1 : m1 ≤ 140737488351232) (_hm2 : m2 ≤ 140737488351232) (h1 : RdX scells 1 w A1 T) (hr1 : ∀ x ∈ T, SubOk icell 1 (fun _ y => -9223372036854775808 ≤ y ∧ y ≤ 9223372036854775807) w x) (h2 : RdX bcells 1 w A2 B) (ho : ∀ x ∈ B, BOk w x) (h3 : RdB w A3 E) :
    Calls Tryd.prog 5 #[.int .i64 n, .slice A1 m1 c1, .slice A2 m2 c2, .slice A3 m3 c3] w fun e w' => e = .returned (.bool true) ∧ Below w.heap.size w w' := by
  have HG := Hidden.mk hg
  have HT := Hidden.mk (And.intro ht (And.intro h1 hr1))
  have HB := Hidden.mk (And.intro hb (And.intro h2 ho))
  have HE := Hidden.mk (And.intro he h3)
  clear hg ht hb he h1 hr1 h2 ho h3
  by_cases hn : n < 1 ∨ 300 < n
  · have HN := Hidden.mk (dnew_e1 n w hn)
    have HER := Hidden.mk (err_some 1 1 w HG.out)
    rw [beq_self_eq_true] at HER
    by_cases hn1 : n < 1
    · have t1 : decide (n < 1) = true := by simpa using hn1
      clear hn hn1
      go_enter Tryd.func5, Tryd.ntmps5
      go_wp2_with fail
      refine HN.out.mono ?_
      rintro e w1 ⟨rfl, rfl⟩
      go_wp2_with fail
      refine HER.out.mono ?_
      rintro e w2 ⟨rfl, hb2⟩
      have HB2 := Hidden.mk hb2
      clear hb2
      go_wp2_with fail
      go_ret
      exact ⟨rfl, HB2.out⟩
    · have t1 : decide (n < 1) = false := by simpa using hn1
      have t2 : decide (300 < n) = true := by simp; omega
      clear hn hn1
      go_enter Tryd.func5, Tryd.ntmps5
      go_wp2_with fail
      refine HN.out.mono ?_
      rintro e w1 ⟨rfl, rfl⟩
      go_wp2_with fail
      refine HER.out.mono ?_
      rintro e w2 ⟨rfl, hb2⟩
      have HB2 := Hidden.mk hb2
      clear hb2
      go_wp2_with fail
      go_ret
      exact ⟨rfl, HB2.out⟩
  obtain ⟨nn, rfl⟩ : ∃ nn : Nat, n = nn := ⟨n.toNat, by omega⟩
  have hn1 : 1 ≤ nn := by omega
  have hn3 : nn ≤ 300 := by omega
  have t1 : decide ((nn : Int) < 1) = false := by simp; omega
  have t2 : decide (300 < (nn : Int)) = false := by simp; omega
  have t3 : decide (300 < nn) = false := by simp; omega
  clear hn
  go_enter Tryd.func5, Tryd.ntmps5
  go_wp2_with fail
  refine (dnewB nn _ hn1 hn3).mono ?_
  rintro e w1 ⟨dp, Fp, rfl, hd1⟩
  have HD1 := Hidden.mk hd1
  clear hd1
  go_wp2_with fail
  refine (err_nil 0 w1).mono ?_
  rintro e w2 ⟨rfl, hb2⟩
  have HD2 := Hidden.mk (HD1.out.below hb2)
  clear hb2 HD1
  rw [show ((0 : Int) == 0) = true from rfl]
  go_wp2_with fail
  refine (rnew_ok nn _ hn1 hn3).mono ?_
  rintro e w3 ⟨dr, Fr, Y, rfl, hr3, hf3, hb3⟩
  have HS : Hidden (Dv2 w w3 Fp Fr dp dr (newD nn) (newD nn)) := ⟨⟨HD2.out.below hb3, ⟨Y, hr3⟩, fun q hq hr => by have := HD2.out.flt q hq; have := hf3 q hr; omega, fun q hr => Nat.le_trans HD2.out.bel.size (hf3 q hr)⟩⟩
  have HL : Hidden ((newD nn).S.length = nn) := ⟨by simp [newD]⟩
  generalize newD nn = D0 at *
  clear hr3 hf3 hb3 HD2 t1 t2 t3
  go_wp2_with fail
  go_loopg [12, 14] 60 (fun r tv iv wr => ∃ (i : Nat) (Fp Fr : Nat → Prop) (D : Dv), i ≤ 60 ∧ r = 60 - i ∧ tv = .bool true ∧ iv = .int .i64 (i : Int) ∧ Hidden (Dv2 w wr Fp Fr dp dr D D ∧ D.S.length = nn))
  case atStart => exact ⟨0, Fp, Fr, D0, by omega, rfl, rfl, rfl, ⟨HS.out, HL.out⟩⟩
  case round =>
    obtain ⟨i, Fp, Fr, D, hi, rfl, rfl, rfl, hs⟩ := hrel
    have HX := Hidden.mk hs.out
    clear hs HS HL
    by_cases hlt : i < m1 ∧ i < 60
    · have q1 : decide ((i : Int) < m1) = true := by simp; omega
      have q2 : decide (i < m1) = true := by simp; omega
      have q3 : decide ((i : Int) < 60) = true := by simp; omega
      have q4 : decide (i < 60) = true := by simp; omega
      have i0 : (0 : Int) ≤ i := by omega
      have i1 : (i : Int) < m1 := by omega
      obtain ⟨hTl, hTr, hTo⟩ := HT.out
      obtain ⟨pb1, of1, rfl, hc1⟩ := hTr i (by omega)
      have e1 := hc1 0 _ rfl
      rw [Nat.add_zero, Nat.mul_one] at e1
      have hto := hTo (T[i]'(by omega)) (List.getElem_mem _)
      generalize T[i]'(by omega) = x at *
      obtain ⟨sA, sc, s⟩ := x
      obtain ⟨ms, hms⟩ : ∃ ms, s.length = ms := ⟨_, rfl⟩
      have HMS := Hidden.mk hms
      have HSO := Hidden.mk hto
      dsimp only at e1
      rw [hms] at e1
      have hms2 : ms ≤ 140737488351232 := by
        have z1 : s.length ≤ sc := hto.cap
        have z2 : sc ≤ 140737488351232 := hto.le
        omega
      have E1 := Hidden.mk e1
      have hi60 : i < 60 := hlt.2
      clear hTl hTr hTo hc1 hto hms hlt
      go_upto_block 2 with (fail)
      have hal := (Below.refl wr.heap.size wr).alloc (Nat.le_refl _) (.cells #[.int .i64 0, .int .i64 0, .int .i64 0, .int .i64 0] 50)
      have HV0 : Hidden (Dv2 w (wr.alloc (.cells #[.int .i64 0, .int .i64 0, .int .i64 0, .int .i64 0] 50)) Fp Fr dp dr D D ∧ Own2 (wr.alloc (.cells #[.int .i64 0, .int .i64 0, .int .i64 0, .int .i64 0] 50)) Fp Fr wr.heap.size (vObj s 0)) := ⟨HX.out.1.below hal, heap_alloc_new wr _, fun hf => by have := HX.out.1.p.flt _ hf; omega, fun hf => by have := HX.out.1.rlt _ hf; omega⟩
      have HLN := Hidden.mk HX.out.2
      have HAV := Hidden.mk HX.out.1.p.bel.size
      clear hal HX
      generalize wr.alloc (.cells #[.int .i64 0, .int .i64 0, .int .i64 0, .int .i64 0] 50) = W1 at *
      generalize wr.heap.size = av at *
      go_cut [] (fun wx => Hidden (Dv2 w wx Fp Fr dp dr D D ∧ ∃ j, j ≤ 4 ∧ j ≤ s.length ∧ ¬ (j < s.length ∧ j < 4) ∧ Own2 wx Fp Fr av (vObj s j)))
      case first =>
        as_aux_lemma =>
          go_wp2_with fail
          go_loopg [16] 4 (fun r jv wy => ∃ j : Nat, j ≤ 4 ∧ j ≤ ms ∧ r = 4 - j ∧ jv = .int .i64 (j : Int) ∧ Hidden (Dv2 w wy Fp Fr dp dr D D ∧ Own2 wy Fp Fr av (vObj s j)))
          case atStart => exact ⟨0, by omega, by omega, rfl, rfl, HV0⟩
          case round =>
            obtain ⟨j, hj4, hjm, rfl, rfl, hs⟩ := hrel
            have HY := Hidden.mk hs.out
            clear hs HV0
            have x1 := (HY.out.1.p.bel.cell (p := ⟨pb1, of1 + i, none⟩) (block_lt_of_cell E1.out)).trans E1.out
            by_cases hc : j < ms
            · have r1 : decide ((j : Int) < ms) = true := by simp; omega
              have r2 : decide (j < ms) = true := by simpa using hc
              by_cases h4 : j < 4
              · have r3 : decide ((j : Int) < 4) = true := by simp; omega
                have r4 : decide (j < 4) = true := by simpa using h4
                have j0 : (0 : Int) ≤ j := by omega
                have j1 : (j : Int) < ms := by omega
                have j2 : (j : Int) < 4 := by omega
                have s1 : IntKind.i64.wrap ((j : Int) + 1) = (j : Int) + 1 := IntWalk.i64_in _ (by omega)
                have hjs : j < s.length := by rw [HMS.out]; exact hc
                obtain ⟨sb, so, hsA, hsc⟩ := HSO.out.rd j hjs
                dsimp only at hsA hsc
                subst hsA
                have y0 := hsc 0 _ rfl
                rw [Nat.add_zero, Nat.mul_one] at y0
                have y1 := (HY.out.1.p.bel.cell (p := ⟨sb, so + j, none⟩) (block_lt_of_cell y0)).trans y0
                have hgd : s[j] = s.getD j 0 := by rw [List.getD_eq_getElem?_getD, List.getElem?_eq_getElem hjs]; rfl
                rw [hgd] at y1
                have hh := show wr.heap[av]? = some (.cells (vArr s j) 50 (0, 0)) from HY.out.2.1
                obtain ⟨u, hu⟩ := vArr_at s j j h4
                have z1 : wr.cell? ⟨av, j, none⟩ = some u := by rw [cell_of_row wr av j _ _ _ hh]; exact hu
                have z2 := frozen_of_row wr av j _ _ hh
                have hset := heap_setK (k := j) hh (.int .i64 (s.getD j 0))
                rw [vArr_set s j h4] at hset
                have hkp : Keep (fun q => q = av) wr (wr.setCell ⟨av, j, none⟩ (.int .i64 (s.getD j 0))) := Keep.setCell (F := fun q => q = av) (Keep.refl _ _) (p := ⟨av, j, none⟩) (.inl rfl) _
                have HN : Hidden (Dv2 w (wr.setCell ⟨av, j, none⟩ (.int .i64 (s.getD j 0))) Fp Fr dp dr D D ∧ Own2 (wr.setCell ⟨av, j, none⟩ (.int .i64 (s.getD j 0))) Fp Fr av (vObj s (j + 1))) := ⟨by
                  obtain ⟨Y, hY⟩ := HY.out.1.r
                  refine ⟨⟨HY.out.1.p.keep hkp (fun q hq e => HY.out.2.2.1 (e ▸ hq)) (fun q e => ?_), ⟨Y, hY.keep hkp (fun q hq e => HY.out.2.2.2 (e ▸ hq))⟩, HY.out.1.dj, HY.out.1.rn⟩, hset, HY.out.2.2⟩
                  subst e
                  exact HAV.out⟩
                generalize s.getD j 0 = sj at *
                clear hc h4 hsc y0 hgd hh hu hset hkp hjs HY
                go_wp2_with fail
                go_roundg (4 - (j + 1))
                case measure => omega
                case rel => exact ⟨j + 1, by omega, by omega, rfl, by go_num, HN⟩
              · have r3 : decide ((j : Int) < 4) = false := by simp; omega
                have r4 : decide (j < 4) = false := by simpa using h4
                have HF : Hidden (Dv2 w wr Fp Fr dp dr D D ∧ ∃ j, j ≤ 4 ∧ j ≤ s.length ∧ ¬ (j < s.length ∧ j < 4) ∧ Own2 wr Fp Fr av (vObj s j)) := ⟨HY.out.1, j, hj4, by rw [HMS.out]; exact hjm, fun h => h4 h.2, HY.out.2⟩
                clear hc h4 HY
                go_wp2_with fail
                go_meet
                exact HF
            · have r1 : decide ((j : Int) < ms) = false := by simp; omega
              have r2 : decide (j < ms) = false := by simpa using hc
              have HF : Hidden (Dv2 w wr Fp Fr dp dr D D ∧ ∃ j, j ≤ 4 ∧ j ≤ s.length ∧ ¬ (j < s.length ∧ j < 4) ∧ Own2 wr Fp Fr av (vObj s j)) := ⟨HY.out.1, j, hj4, by rw [HMS.out]; exact hjm, fun h => hc (by rw [← HMS.out]; exact h.1), HY.out.2⟩
              clear hc HY
              go_wp2_with fail
              go_meet
              exact HF
      case rest =>
      obtain ⟨v0, hv0⟩ : ∃ v, s.getD 0 0 = v := ⟨_, rfl⟩
      obtain ⟨v1, hv1⟩ : ∃ v, s.getD 1 0 = v := ⟨_, rfl⟩
      obtain ⟨v2, hv2⟩ : ∃ v, s.getD 2 0 = v := ⟨_, rfl⟩
      obtain ⟨v3, hv3⟩ : ∃ v, s.getD 3 0 = v := ⟨_, rfl⟩
      have HVO : Hidden (Dv2 w wc Fp Fr dp dr D D ∧ Own2 wc Fp Fr av (.cells #[.int .i64 v0, .int .i64 v1, .int .i64 v2, .int .i64 v3] 50 (0, 0))) := ⟨by
        obtain ⟨ha, j, b1, b2, b3, b4⟩ := hcut.out
        unfold vObj vArr at b4
        rw [vq_end b2 b1 b3 (show 0 < 4 by omega), vq_end b2 b1 b3 (show 1 < 4 by omega), vq_end b2 b1 b3 (show 2 < 4 by omega), vq_end b2 b1 b3 (show 3 < 4 by omega), hv0, hv1, hv2, hv3] at b4
        exact ⟨ha, b4⟩⟩
      have hb1 := getD_in (s := s) (fun y hy => HSO.out.ok y hy) 1
      rw [hv1] at hb1
      clear hcut HV0 hv0 hv1 hv2 hv3 HSO HMS E1 hms2 q1 q2 q3 q4
      go_upto_if 83 with (fail)
      go_cut [17] (fun bv wx => ∃ (bA : Option Addr) (bc : Nat) (b : Bytes), bv = .slice bA b.length bc ∧ Hidden (b.length ≤ bc ∧ Rd w bA b) ∧ wc = wx)
      case first =>
        obtain ⟨hBl, hBr, hBo⟩ := HB.out
        by_cases hm0 : 0 < m2
        · have q2 : decide (0 < m2) = true := by simpa using hm0
          have q3 : ((m2 : Int) == 0) = false := by simp; omega
          have q4 : (i : Int) % (m2 : Int) = ((i % m2 : Nat) : Int) := by omega
          have hlm : i % m2 < m2 := Nat.mod_lt _ hm0
          have q5 : (0 : Int) ≤ ((i % m2 : Nat) : Int) := by omega
          have q6 : ((i % m2 : Nat) : Int) < m2 := by omega
          obtain ⟨pb2, of2, rfl, hc2⟩ := hBr (i % m2) (by omega)
          have e2 := hc2 0 _ rfl
          rw [Nat.add_zero, Nat.mul_one] at e2
          have x2 := (HVO.out.1.p.bel.cell (p := ⟨pb2, of2 + i % m2, none⟩) (block_lt_of_cell e2)).trans e2
          have hbo := hBo (B[i % m2]'(by omega)) (List.getElem_mem _)
          generalize B[i % m2]'(by omega) = bx at *
          obtain ⟨bA, bc, b⟩ := bx
          have HBO : Hidden (b.length ≤ bc ∧ Rd w bA b) := ⟨hbo.cap, hbo.rd⟩
          dsimp only at x2
          generalize i % m2 = im at *
          clear hBl hBr hBo hc2 e2 hbo hm0 hlm
          go_wp2_with fail
          go_meet
          exact ⟨bA, bc, b, rfl, HBO, rfl⟩
        · obtain rfl : m2 = 0 := by omega
          clear hBl hBr hBo hm0
          go_wp2_with fail
          go_meet
          exact ⟨none, 0, [], rfl, ⟨Nat.le_refl _, Rd.nil_⟩, rfl⟩
      case rest =>
      obtain ⟨bA, bc, b, rfl, HBO, rfl⟩ := hcut
      obtain ⟨bl, hbl⟩ : ∃ k, b.length = k := ⟨_, rfl⟩
      rw [hbl]
      have HBL := Hidden.mk hbl
      clear hbl
      have hvo := HVO.out.2.1
      obtain ⟨⟨a0, a1, a2, a3⟩, -⟩ := fourF hvo
      have HBF : Hidden (∀ q : Nat, w.heap.size ≤ q → ∀ ad, bA = some ad → 0 < bl → ad.block ≠ q) := ⟨fun q hq ad e h0 e2 => by
        subst e
        obtain ⟨qb, off, e3, hlt⟩ := HBO.out.2.lt (by rw [HBL.out]; exact h0)
        obtain rfl := Option.some.inj e3
        dsimp only at e2
        omega⟩
      clear hvo
      go_upto_block 4 with (fail)
      go_cut [12] (fun tv wx => tv = .bool true ∧ ∃ (Fp Fr : Nat → Prop) (D : Dv), Hidden (Dv2 w wx Fp Fr dp dr D D ∧ D.S.length = nn ∧ Own2 wx Fp Fr av (.cells #[.int .i64 v0, .int .i64 v1, .int .i64 v2, .int .i64 v3] 50 (0, 0))))
      case first =>
        as_aux_lemma =>
          by_cases k6 : v0 = 6
          · subst k6
            have HPF := Hidden.mk (HVO.out.1.p.fail v1 hb1.2)
            go_wp2_with fail
            refine HPF.out.mono ?_
            rintro e w5 ⟨rfl, hd5, hk5⟩
            have HD5 := Hidden.mk (HVO.out.1.stepP hd5 hk5 (fun _ h => .inl h))
            have HO5 := Hidden.mk (HVO.out.2.stepP (F' := Fp) hk5 (fun _ h => .inl h))
            obtain ⟨⟨y0, y1, y2, y3⟩, -⟩ := fourF HO5.out.1
            have HRF : Hidden (Calls Tryd.prog 28 #[.pointer (some ⟨dr, 0, none⟩), .int .i64 v1] w5 fun e w' => e = .returned (.tuple #[]) ∧ (∃ Y', RdIs w' Fr dr { D with left := max (-1) v1 } Y') ∧ Keep Fr w5 w') := ⟨by
              obtain ⟨Y, hY⟩ := HD5.out.r
              exact (rfail_any hY v1 hb1.2).mono fun e w' ⟨h1, h2, h3, _⟩ => ⟨h1, ⟨Y, h2⟩, h3⟩⟩
            clear hd5 hk5 HPF HVO a0 a1 a2 a3
            go_wp2_with fail
            refine HRF.out.mono ?_
            rintro e w6 ⟨rfl, ⟨Y6, hd6⟩, hk6⟩
            have HF : Hidden (Dv2 w w6 Fp Fr dp dr { D with left := max (-1) v1 } { D with left := max (-1) v1 } ∧ ({ D with left := max (-1) v1 } : Dv).S.length = nn ∧ Own2 w6 Fp Fr av (.cells #[.int .i64 6, .int .i64 v1, .int .i64 v2, .int .i64 v3] 50 (0, 0))) := ⟨HD5.out.stepR hd6 hk6 (fun _ h => .inl h), HLN.out, HO5.out.stepR hk6 (fun _ h => .inl h)⟩
            clear hd6 hk6 HRF HD5 HO5 y0 y1 y2 y3
            go_wp2_with fail
            go_meet
            exact ⟨rfl, _, _, _, HF⟩
          have r6 : (v0 == 6) = false := by simpa using k6
          by_cases k4 : v0 = 4 ∨ v0 = 5
          · rcases k4 with rfl | rfl
            all_goals
              have HPF := Hidden.mk HVO.out.1.p.flush_all
              go_wp2_with fail
              refine HPF.out.mono ?_
              rintro e w5 ⟨rfl, hd5, hk5⟩
              have HD5 := Hidden.mk (HVO.out.1.stepP hd5 hk5 (fun _ h => .inl h))
              have HO5 := Hidden.mk (HVO.out.2.stepP (F' := Fp) hk5 (fun _ h => .inl h))
              have HRF : Hidden (Calls Tryd.prog 26 #[.pointer (some ⟨dr, 0, none⟩)] w5 (RwAns w5 Fr dr (flD D))) := ⟨by
                obtain ⟨Y, hY⟩ := HD5.out.r
                exact rflush_any hY⟩
              have HFL : Hidden ((flD D).1.S.length = nn) := ⟨by rw [flD_len]; exact HLN.out⟩
              generalize flD D = r at *
              clear hd5 hk5 HPF HVO a0 a1 a2 a3
              go_wp2_with fail
              refine HRF.out.mono ?_
              rintro e w6 ⟨rfl, F6, Y6, hd6, hk6, hs6⟩
              have HD6 := Hidden.mk (HD5.out.stepR hd6 hk6 hs6)
              have HO6 := Hidden.mk (HO5.out.stepR hk6 hs6)
              have HER := Hidden.mk (err_any r.2 (r.2 : Int) w6 (HG.out.below HG.out.lt HD6.out.p.bel))
              rw [beq_self_eq_true] at HER
              clear hd6 hk6 hs6 HRF HD5 HO5
              go_wp2_with fail
              refine HER.out.mono ?_
              rintro e w7 ⟨rfl, hb7⟩
              have HF := Hidden.mk (And.intro (HD6.out.below hb7) (And.intro HFL.out (HO6.out.below hb7)))
              clear hb7 HER HD6 HO6
              go_wp2_with fail
              go_meet
              exact ⟨rfl, _, _, _, HF⟩
          have r4 : (v0 == 4) = false := by simp; omega
          have r5 : (v0 == 5) = false := by simp; omega
          by_cases k0 : v0 = 0 ∨ v0 = 1 ∨ v0 = 2 ∨ v0 = 3
          · clear k6 k4 r4 r5 r6
            rcases k0 with rfl | rfl | rfl | rfl
            all_goals
              have hdr := (Below.refl wc.heap.size wc).drew
              have HVD := Hidden.mk (And.intro (HVO.out.1.below hdr) (HVO.out.2.below hdr))
              have HPW := Hidden.mk (HVD.out.1.p.write_all v1 bA bl bc b HBL.out (HBO.out.2.below HVD.out.1.p.bel) (fun h32 ad e hf => HBF.out ad.block (HVD.out.1.p.new _ hf) ad e (by omega) rfl))
              have HRW : Hidden (∀ (W : World) (F' : Nat → Prop) (D' : Dv), Dv2 w W F' Fr dp dr D' D → Calls Tryd.prog 24 #[.pointer (some ⟨dr, 0, none⟩), .int .i64 v1, .slice bA bl bc] W (RwAns W Fr dr (wrD D v1 b))) := ⟨fun W F' D' hW => by
                obtain ⟨Y, hY⟩ := hW.r
                exact rwrite_any hY v1 bA bl bc b HBL.out (HBO.out.2.below hW.p.bel) (fun h0 ad e hf => HBF.out ad.block (hW.rn _ hf) ad e h0 rfl)⟩
              have HFL : Hidden ((wrD D v1 b).1.S.length = nn) := ⟨by rw [wrD_len]; exact HLN.out⟩
              generalize wrD D v1 b = r at *
              have KC := Hidden.mk a1
              clear hdr HVO a0 a2 a3
              go_upto_region 26 with (fail)
              go_region_held3 (fun W => W.cell? ⟨av, 1, none⟩ = some (.int .i64 v1)) (first | exact KC.out | exact hO7.c1.1 | exact hO6.c1.1 | exact hO5.c1.1)
                (first
                  | (go_at_call 23; refine HPW.out.mono ?_; rintro e w5 ⟨rfl, F5, hd5, hk5, hs5⟩; have hD5 := HVD.out.1.stepP hd5 hk5 hs5; have hO5 := HVD.out.2.stepP hk5 hs5)
                  | (go_at_call 24; refine (HRW.out _ _ _ hD5).mono ?_; rintro e w6 ⟨rfl, F6, Y6, hd6, hk6, hs6⟩; have hD6 := hD5.stepR hd6 hk6 hs6; have hO6 := hO5.stepR hk6 hs6)
                  | (go_at_call 14; refine (err_any r.2 (r.2 : Int) w6 (HG.out.below HG.out.lt hD6.p.bel)).mono ?_; rintro e w7 ⟨rfl, hb7⟩; have hD7 := hD6.below hb7; have hO7 := hO6.below hb7))
              all_goals
                have HF := Hidden.mk (And.intro hD7 (And.intro HFL.out hO7))
                clear hd5 hk5 hs5 hD5 hO5 hd6 hk6 hs6 hD6 hO6 hb7 hD7 hO7 HPW HRW HVD
                go_wp2_with fail
                go_meet
                exact ⟨by simp, _, _, _, HF⟩
          have r0 : (v0 == 0) = false := by simp; omega
          have r1 : (v0 == 1) = false := by simp; omega
          have r2 : (v0 == 2) = false := by simp; omega
          have r3 : (v0 == 3) = false := by simp; omega
          clear k6 k4 k0
          have hdr := (Below.refl wc.heap.size wc).drew
          have HVD := Hidden.mk (And.intro (HVO.out.1.below hdr) (HVO.out.2.below hdr))
          have HPW := Hidden.mk (HVD.out.1.p.crash A3 m3 c3 E v1 v2 HE.out.1 (HE.out.2.below HVD.out.1.p.bel) (fun h0 ad e hf => by
            obtain ⟨qb, off, e2, hc⟩ := HE.out.2 0 (by rw [HE.out.1]; exact h0)
            rw [e] at e2
            obtain rfl := Option.some.inj e2
            have := block_lt_of_cell hc
            have := HVD.out.1.p.new _ hf
            dsimp only at *
            omega))
          have HRW : Hidden (∀ (W : World) (F' : Nat → Prop) (D' : Dv), Dv2 w W F' Fr dp dr D' D → Calls Tryd.prog 30 #[.pointer (some ⟨dr, 0, none⟩), .slice A3 m3 c3, .int .i64 v1, .int .i64 v2] W (RwAns W Fr dr (crashD D E v1 (min 32 (max 0 v2)).toNat, D.O.length))) := ⟨fun W F' D' hW => by
            obtain ⟨Y, hY⟩ := hW.r
            exact rcrash_any A3 m3 c3 E v1 v2 hY HE.out.1 (HE.out.2.below hW.p.bel) (fun h0 ad e hf => by
              obtain ⟨qb, off, e2, hc⟩ := HE.out.2 0 (by rw [HE.out.1]; exact h0)
              rw [e] at e2
              obtain rfl := Option.some.inj e2
              have := block_lt_of_cell hc
              have := hW.rn _ hf
              dsimp only at *
              omega)⟩
          have HFL : Hidden ((crashD D E v1 (min 32 (max 0 v2)).toNat).S.length = nn) := ⟨(crashS_len D E v1 _ _).trans HLN.out⟩
          generalize crashD D E v1 (min 32 (max 0 v2)).toNat = D2 at *
          have KC := Hidden.mk (And.intro a1 a2)
          have hbe : ((D.O.length : Int) == (D.O.length : Int)) = true := by simp
          clear hdr HVO a0 a3
          go_upto_region 21 with (fail)
          go_region_held3 (fun W => W.cell? ⟨av, 1, none⟩ = some (.int .i64 v1) ∧ W.cell? ⟨av, 2, none⟩ = some (.int .i64 v2)) (first | exact KC.out | exact hO6.c1 | exact hO5.c1)
            (first
              | (go_at_call 29; refine HPW.out.mono ?_; rintro e w5 ⟨rfl, hd5, hk5⟩; have hD5 := HVD.out.1.stepP hd5 hk5 (fun _ h => .inl h); have hO5 := HVD.out.2.stepP (F' := Fp) hk5 (fun _ h => .inl h))
              | (go_at_call 30; refine (HRW.out _ _ _ hD5).mono ?_; rintro e w6 ⟨rfl, F6, Y6, hd6, hk6, hs6⟩; have hD6 := hD5.stepR hd6 hk6 hs6; have hO6 := hO5.stepR hk6 hs6))
          all_goals
            have HF := Hidden.mk (And.intro hD6 (And.intro HFL.out hO6))
            clear hd5 hk5 hD5 hO5 hd6 hk6 hs6 hD6 hO6 HPW HRW HVD
            go_wp2_with fail
            go_meet
            exact ⟨by simp, _, _, _, HF⟩
      case rest =>
      obtain ⟨rfl, Fp, Fr, D, hs⟩ := hcut
      have HX := Hidden.mk hs.out
      obtain ⟨⟨-, -, -, a3⟩, -⟩ := fourF hs.out.2.2.1
      have HA3 := Hidden.mk a3
      have HRR : Hidden (Calls Tryd.prog 31 #[.pointer (some ⟨dr, 0, none⟩), .int .i64 v3] wc (RrAns wc Fr (rdL D v3) (rdE D v3))) := ⟨by
        obtain ⟨Y, hY⟩ := hs.out.1.r
        exact rread_any hY v3⟩
      clear hs HVO a0 a1 a2 HBO HBL HBF HLN
      go_wp2_with fail
      refine HRR.out.mono ?_
      rintro e w5 ⟨A5, c5, rfl, hc5, hrd5, -, hb5⟩
      have HX5 := Hidden.mk (HX.out.1.below hb5)
      have HR5 := Hidden.mk hrd5
      have HPR := Hidden.mk (HX5.out.p.read_all v3)
      have a3' := (hb5.cell (p := ⟨av, 3, none⟩) (block_lt_of_cell HA3.out)).trans HA3.out
      have HS5 := Hidden.mk HX.out.2.1
      clear hc5 hrd5 hb5 HRR a3 HX HA3
      go_wp2_with fail
      refine HPR.out.mono ?_
      rintro e w6 ⟨A6, c6, rfl, hc6, hrd6, -, hb6⟩
      have HX6 := Hidden.mk (HX5.out.below hb6)
      have HR6 := Hidden.mk (And.intro (HR5.out.below hb6) hrd6)
      have HER := Hidden.mk (err_any (rdE D v3) (rdE D v3 : Int) w6 (HG.out.below HG.out.lt HX6.out.p.bel))
      rw [beq_self_eq_true] at HER
      generalize rdE D v3 = k3 at *
      obtain ⟨l3, hl3⟩ : ∃ k, (rdL D v3).length = k := ⟨_, rfl⟩
      rw [hl3]
      have HL3 := Hidden.mk hl3
      generalize rdL D v3 = rl at *
      clear hc6 hrd6 hb6 HPR a3' HX5 HR5 hl3
      go_wp2_with fail
      refine HER.out.mono ?_
      rintro e w7 ⟨rfl, hb7⟩
      have HX7 := Hidden.mk (HX6.out.below hb7)
      have HR7 := Hidden.mk (And.intro (HR6.out.1.below hb7) (HR6.out.2.below hb7))
      obtain ⟨m, hm⟩ : ∃ m, D.O.length = m := ⟨_, rfl⟩
      have HM := Hidden.mk hm
      have hm3 : m ≤ 300 := by
        obtain ⟨Y, hY⟩ := HX7.out.r
        rw [← hm]; exact hY.ord_le
      clear hb7 HER HX6 HR6 hm
      obtain ⟨ii, ii0, iz0, iz1, iz2⟩ := info_parts int_info
      go_wp2_with fail
      go_loopg [23, 24] m (fun r ov kv wy => ∃ k : Nat, k ≤ m ∧ r = m - k ∧ kv = .int .i64 (k : Int) ∧ Hidden (Below w7.heap.size w7 wy ∧ wy.ownsRow w7.heap.size 3 1 ov k ((D.O.take k).map fun i : Nat => .int .i64 (i : Int))))
      case atStart => exact ⟨0, by omega, rfl, rfl, ⟨Below.refl _ _, World.ownsRow_nil _ _ _ _⟩⟩
      case round =>
        obtain ⟨k, hk, rfl, rfl, hs⟩ := hrel
        have HY := Hidden.mk hs.out
        have HD := Hidden.mk (HX7.out.below hs.out.1)
        clear hs
        obtain ⟨Y, hY⟩ := HD.out.r
        obtain ⟨⟨d0, d1, d2, d3⟩, -⟩ := fourF hY.hd
        obtain ⟨AL, cl, hvl, hcl, hln⟩ := hY.lines
        rw [hvl, HM.out] at d1
        by_cases hkm : k < m
        · have k0 : (0 : Int) ≤ k := by omega
          have k1 : (k : Int) < m := by omega
          have s1 : IntKind.i64.wrap ((k : Int) + 1) = (k : Int) + 1 := IntWalk.i64_in _ (by omega)
          have hkl : k < D.O.length := by rw [HM.out]; exact hkm
          obtain ⟨o, hoo⟩ : ∃ o, D.O[k]? = some o := ⟨D.O[k], List.getElem?_eq_getElem hkl⟩
          obtain ⟨gl, rfl, -, y0, -⟩ := hln k o hoo
          have HTK : Hidden ((D.O.take (k + 1)).map (fun i : Nat => Value.int .i64 (i : Int)) = ((D.O.take k).map fun i : Nat => .int .i64 (i : Int)) ++ [.int .i64 (o : Int)]) := ⟨by
            rw [List.take_succ_eq_append_getElem hkl, List.map_append]
            rw [List.getElem?_eq_getElem hkl] at hoo
            rw [Option.some.inj hoo]; rfl⟩
          have hal := (Below.refl wr.heap.size wr).alloc (Nat.le_refl _) (.cells #[.int .i64 (o : Int)] 3)
          have hown2 := own_below HY.out.2 hal
          have hsz := HY.out.1.size
          have HAL := Hidden.mk hal
          obtain ⟨xs, hxs⟩ : ∃ xs, (D.O.take k).map (fun i : Nat => Value.int .i64 (i : Int)) = xs := ⟨_, rfl⟩
          rw [hxs] at hown2 HTK
          clear hY hvl hcl hln d0 d2 d3 hoo hkl hal hxs HD
          go_wp2_with (at_builtin; refine wpList_append_lies _ rfl (.tmp 168) (.tmp 177) _ rfl w7.heap.size 3 ii _ 1 8 Tryd.underlying40 ii0 iz0 iz1 iz2 rfl (by decide) u23 k xs rfl hown2 ⟨wr.heap.size, 0, none⟩ 1 1 [.int .i64 (o : Int)] rfl rfl (World.news_of_block (cs := #[.int .i64 (o : Int)]) (t := 3) (fr := (0, 0)) (heap_alloc_new wr _)) (by simp [Value.oneCell']) (by omega) (by simp only [maxLen]; omega) (by omega) (by simp; omega) (wr.heap.size + 1) (by simp) ?_; intro g8 cap8 w8 hown8 hg8 hat8 hlt8)
          have hgG := grown_trans' HAL.out hg8
          have HN : Hidden (Below w7.heap.size w7 w8 ∧ w8.ownsRow w7.heap.size 3 1 (.slice (some ⟨g8, 0, none⟩) (k + 1) cap8) (k + 1) ((D.O.take (k + 1)).map fun i : Nat => .int .i64 (i : Int))) := ⟨HY.out.1.grown hgG HY.out.1.size (fun q hq => (HY.out.2.lt q hq).1), by rw [HTK.out]; exact hown8⟩
          clear hown2 hsz hown8 hg8 hat8 hlt8 hgG HY y0 d1
          go_roundg (m - (k + 1))
          case measure => omega
          case rel => exact ⟨k + 1, by omega, rfl, by go_num, HN⟩
        · obtain rfl : k = m := by omega
          have t4 : decide ((k : Int) < k) = false := by simp
          have hown := HY.out.2
          rw [List.take_of_length_le (by rw [HM.out]; exact Nat.le_refl _)] at hown
          obtain ⟨Ao, co, rfl, -, hxo⟩ := own_ints hown HM.out
          have HXO := Hidden.mk hxo
          have HPN := Hidden.mk HD.out.p.pend
          have HR8 := Hidden.mk (And.intro (HR7.out.1.below HY.out.1) (HR7.out.2.below HY.out.1))
          clear hY hvl hcl hln d0 d2 d3 hown hxo HY HX7 HR7
          go_wp2_with fail
          refine HPN.out.mono ?_
          rintro e w9 ⟨u9, rfl, hown9, hb9, -⟩
          rw [HM.out] at hown9
          obtain ⟨A9, c9, rfl, -, hx9⟩ := own_ints hown9 HM.out
          have HI := Hidden.mk (sameInts_eq A9 Ao c9 co k D.O w9 HM.out (by omega) hx9 (HXO.out.below hb9))
          have HD9 := Hidden.mk (HD.out.below hb9)
          have HR9 := Hidden.mk (And.intro (HR8.out.1.below hb9) (HR8.out.2.below hb9))
          clear hown9 hx9 hb9 HPN HD HR8 HXO
          go_wp2_with fail
          refine HI.out.mono ?_
          rintro e w10 ⟨rfl, hb10⟩
          have HD10 := Hidden.mk (HD9.out.below hb10)
          obtain ⟨hr5, hr6⟩ := And.intro (HR9.out.1.below hb10) (HR9.out.2.below hb10)
          have w1 := fun nq => conv_text (w10.drewN nq) A5 l3 c5 rl HL3.out (hr5.drewN nq)
          have w2 := fun nq => conv_text (w10.drewN nq) A6 l3 c6 rl HL3.out (hr6.drewN nq)
          obtain ⟨Y2, hY2⟩ := HD10.out.r
          obtain ⟨⟨d0, d1, d2, d3⟩, -⟩ := fourF hY2.hd
          have HDN := Hidden.mk (fun nq => ((HD10.out.below (below_drewN (Below.refl _ w10) nq)).p.down))
          have HLE := Hidden.mk (fun nq => ((HD10.out.below (below_drewN (Below.refl _ w10) nq)).p.len))
          have hbd : (D.down != D.down) = false := by simp
          have hbl : ((D.S.length : Int) != (nn : Int)) = false := by rw [HS5.out]; simp
          clear hb10 HI HD9 HR9 hr5 hr6 hY2 d0 d1 d2
          go_upto_region 42 with (fail)
          go_quiet (first
            | (go_at_call 34; refine Calls.quiet_of_same (v := .bool D.down) (((HDN.out _)).mono ?_); rintro e w' ⟨rfl, rfl⟩; exact ⟨rfl, rfl⟩)
            | (go_at_call 35; refine Calls.quiet_of_same (v := .int .i64 D.S.length) (((HLE.out _)).mono ?_); rintro e w' ⟨rfl, rfl⟩; exact ⟨rfl, rfl⟩))
          have HZ := Hidden.mk (And.intro (HD10.out.below (below_drewN (Below.refl _ w10) nq)) HS5.out)
          have s2 : IntKind.i64.wrap ((i : Int) + 1) = (i : Int) + 1 := IntWalk.i64_in _ (by omega)
          clear HDN HLE HD10 w1 w2 d3
          go_wp2_with fail
          go_roundg (60 - (i + 1))
          case measure => omega
          case rel => exact ⟨i + 1, Fp, Fr, D, by omega, rfl, rfl, by go_num, HZ⟩
    · have HBE := Hidden.mk HX.out.1.p.bel
      clear HX
      by_cases h1 : i < m1
      · have q2 : decide (i < m1) = true := by simp; omega
        have q1 : decide ((i : Int) < m1) = true := by simp; omega
        have q3 : decide ((i : Int) < 60) = false := by simp; omega
        have q4 : decide (i < 60) = false := by simp; omega
        clear hlt h1
        go_wp2_with fail
        go_ret
        exact ⟨rfl, HBE.out⟩
      · have q2 : decide (i < m1) = false := by simp; omega
        have q1 : decide ((i : Int) < m1) = false := by simp; omega
        clear hlt h1
        go_wp2_with fail
        go_ret
        exact ⟨rfl, HBE.out⟩
end Go.Proofs.YtmhlnbbnanehiaaDoor
