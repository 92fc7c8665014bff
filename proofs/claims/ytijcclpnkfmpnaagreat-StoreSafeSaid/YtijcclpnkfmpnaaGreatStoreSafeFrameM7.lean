/- Contracts and plain laws, put together: StoreSafe1. -/
import Derived.Test.YtijcclpnkfmpnaaGreatStoreSafeFrameM6
import Derived.Test.YtijcclpnkfmpnaaGreatStoreSafeFrameM2
/- StoreSafe: the walk. -/
namespace Go.Proofs.YtijcclpnkfmpnaaGreat
open Go.RowKit Go.Maps Go.ChangeMaps

/-- at a round's begin -/
structure SrSt (w wr : World) (F GH : Nat → Prop) (s p d h nn n : Nat) (S : Sto) (g c : Nat) (b : Nat) : Prop where
  sv : SvSt w wr F GH s p d h nn n S S.K g c g c
  st : S.st ≤ b
set_option maxRecDepth 100000 in
set_option maxHeartbeats 8000000 in
theorem storeSafe_walk (n : Int) (OA : Option Addr) (oc : Nat) (L : List OpX) (FA : Option Addr) (fc : Nat) (Z : List Int) (KA : Option Addr) (kc : Nat) (keep : List Bool) (torn cut : Int) (w : World) (hL : RdX ocells 6 w OA L) (hLo : ∀ x ∈ L, OpOk w x) (hl : L.length ≤ 140737488351232) (hZ : RdX icell 1 w FA Z) (hzb : ∀ z ∈ Z, -9223372036854775808 ≤ z ∧ z ≤ 9223372036854775807) (hk : RdB w KA keep) :
    Calls Tryz.prog 5 #[.int .i64 n, .slice OA L.length oc, .slice FA Z.length fc, .slice KA keep.length kc, .int .i64 torn, .int .i64 cut] w fun e w' => e = .returned (.bool true) ∧ Below w.heap.size w w' := by
  obtain ⟨m, hm⟩ : ∃ m, L.length = m := ⟨_, rfl⟩
  obtain ⟨mz, hmz⟩ : ∃ m, Z.length = m := ⟨_, rfl⟩
  obtain ⟨mk, hmk⟩ : ∃ m, keep.length = m := ⟨_, rfl⟩
  have HL := Hidden.mk (And.intro hL (And.intro hLo (And.intro hZ (And.intro hzb hk))))
  have HLM := Hidden.mk (And.intro hm (And.intro hmz hmk))
  rw [hm, hmz, hmk]
  rw [hm] at hl
  clear hL hLo hZ hzb hk hm hmz hmk
  by_cases hbad : n < 1 ∨ 300 < n
  · have HN := Hidden.mk (dnew_e1 n w hbad)
    clear hbad
    go_enter Tryz.func5, Tryz.ntmps5
    go_wp2_with fail
    refine HN.out.mono ?_
    rintro e w1 ⟨rfl, rfl⟩
    go_wp2_with fail
    go_ret
    exact ⟨rfl, Below.refl _ _⟩
  obtain ⟨nn, rfl⟩ : ∃ nn : Nat, n = nn := ⟨n.toNat, by omega⟩
  have h1 : 1 ≤ nn := by omega
  have h3 : nn ≤ 300 := by omega
  clear hbad
  have HN := Hidden.mk (dnewB nn w h1 h3)
  go_enter Tryz.func5, Tryz.ntmps5
  go_wp2_with fail
  refine HN.out.mono ?_
  rintro e w1 ⟨d, F0, rfl, hd⟩
  have HD := Hidden.mk hd
  clear hd HN
  by_cases h57 : nn < 57
  · have e1 : decide ((nn : Int) < 57) = true := by simp; omega
    have e2 : decide (nn < 57) = true := by simpa using h57
    clear h57
    go_wp2_with fail
    go_ret
    exact ⟨rfl, HD.out.bel⟩
  have e1 : decide ((nn : Int) < 57) = false := by simp; omega
  have e2 : decide (nn < 57) = false := by simpa using h57
  obtain ⟨np, hnp⟩ : ∃ np, np = nP (newD nn) := ⟨_, rfl⟩
  have HC := Hidden.mk (screate_ok nn np HD.out (by omega) h3 hnp)
  have hmo := made_ok nn (by omega) h3 np hnp
  have HOK := Hidden.mk hmo.2.2.2.2
  have HDD := Hidden.mk hmo.2.2.2.1
  generalize madeD nn = D0 at *
  have hzl : (List.replicate (32 * np) (0 : UInt8)).length = 32 * np := by simp
  generalize List.replicate (32 * np) (0 : UInt8) = Z0 at *
  clear hmo hnp h57
  go_wp2_with fail
  clear e1 e2
  refine HC.out.mono ?_
  rintro e w2 ⟨s, p, h, gk, ck, F1, GH1, rfl, hmk⟩
  have HM := Hidden.mk hmk
  have HSH := Hidden.mk hmk.st
  clear hmk HC
  go_wp2_with fail
  refine (stheap_any HSH.out).mono ?_
  rintro e w3 ⟨rfl, rfl⟩
  go_wp2_with fail
  refine (hbytes_ok _ _ _ _ _ HSH.out.hp).mono ?_
  rintro e w3 ⟨g3, c3, rfl, hg3, hr3, hb3⟩
  have hz9 : 288 ≤ Z0.length := HOK.out.gl.bd.1
  have HST : Hidden (SrSt w w3 F1 GH1 s p d h nn np ⟨D0, 2, Z0, Z0⟩ g3 c3 2) := ⟨by
    have hst := HSH.out.below hb3
    have hdv := HM.out.dev.below hb3
    have r : RowO w w3 F1 GH1 g3 c3 Z0 := ⟨hr3, fun hf => by have := HM.out.dev.flt g3 hf; omega, fun hf => by have := HSH.out.hp.flt g3 hf; omega, Nat.le_trans HM.out.dev.bel.size hg3⟩
    obtain ⟨pg, hsf⟩ := HOK.out.sf
    obtain ⟨l, hfl⟩ := hsf.full
    have hgl := HOK.out.gl
    dsimp only at hgl
    have hkb := HOK.out.kb
    dsimp only at hkb
    have hp : ∀ i, i < np → (readD D0 (48 + i)).length = 32 := fun i hi => by rw [(hsf.page i hi).1]; exact (hsf.page i hi).2
    refine ⟨⟨hdv, ⟨gk, ck, hst⟩, ⟨hsf.wf, hsf.len, hgl, hgl, hgl, hzl, hzl, hzl, HOK.out.n1, HOK.out.n2, fun _ => ⟨rfl, l, hfl.ext fun i hi => ?_⟩, fun hdn => by rw [HDD.out] at hdn; cases hdn⟩, r, r⟩, Nat.le_refl _⟩
    rw [← (hsf.page i hi).1]
    show pgB Z0 i = readD D0 (48 + i)
    rw [hkb, allB_page np i hp hi]⟩
  have q1 : decide ((Z0.length : Int) < 288) = false := by simp; omega
  have q2 : decide (Z0.length < 288) = false := by simp; omega
  have HZL := Hidden.mk hzl
  clear hg3 hr3 hb3 HM HSH HOK HDD hz9 hzl
  go_wp2_with fail
  clear q1 q2
  go_loopg [15, 16, 17, 18, 19] 5 (fun r sv kv xv av iv wr => ∃ (rnd at_ : Nat) (F GH : Nat → Prop) (s p h : Nat) (S : Sto) (g c : Nat), rnd ≤ 5 ∧ r = 5 - rnd ∧ iv = .int .i64 (rnd : Int) ∧ av = .int .i64 (at_ : Int) ∧ sv = .pointer (some ⟨s, 0, none⟩) ∧ kv = .slice (some ⟨g, 0, none⟩) S.K.length c ∧ xv = .slice (some ⟨g, 0, none⟩) S.K.length c ∧ at_ ≤ 8 * rnd ∧ Hidden (SrSt w wr F GH s p d h nn np S g c (2 + 10 * rnd)))
  case atStart => exact ⟨0, 0, F1, GH1, s, p, h, _, g3, c3, by omega, rfl, rfl, rfl, rfl, rfl, rfl, by omega, HST⟩
  case round =>
    clear HST
    obtain ⟨rnd, at_, F, GH, s, p, h, S, g, c, hrnd, rfl, rfl, rfl, rfl, rfl, rfl, hat, hst⟩ := hrel
    have HS := Hidden.mk hst.out
    clear hst
    by_cases hz1 : rnd ≤ mz
    rotate_left
    · have e1 : decide ((rnd : Int) ≤ mz) = false := by simp; omega
      have e1' : decide (rnd ≤ mz) = false := by simpa using hz1
      clear hz1
      go_wp2_with fail
      go_ret
      exact ⟨rfl, HS.out.sv.dev.bel⟩
    by_cases hz5 : rnd < 5
    rotate_left
    · have e1 : decide ((rnd : Int) ≤ mz) = true := by simp; omega
      have e1' : decide (rnd ≤ mz) = true := by simpa using hz1
      have e2 : decide ((rnd : Int) < 5) = false := by simp; omega
      have e2' : decide (rnd < 5) = false := by simpa using hz5
      clear hz1 hz5
      go_wp2_with fail
      go_ret
      exact ⟨rfl, HS.out.sv.dev.bel⟩
    have e1 : decide ((rnd : Int) ≤ mz) = true := by simp; omega
    have e1' : decide (rnd ≤ mz) = true := by simpa using hz1
    have e2 : decide ((rnd : Int) < 5) = true := by simp; omega
    have e2' : decide (rnd < 5) = true := by simpa using hz5
    clear hz1
    go_upto_if 68 with (fail)
    clear e1 e1' e2 e2'
    go_cut [] (fun wx => ∃ S' : Sto, S'.K = S.K ∧ Hidden (SvSt w wx F GH s p d h nn np S' S.K g c g c ∧ S'.st ≤ 2 + 10 * rnd))
    case first =>
      as_aux_lemma =>
        by_cases hlt : rnd < mz
        · have d1 : decide ((rnd : Int) < mz) = true := by simp; omega
          have d1' : decide (rnd < mz) = true := by simpa using hlt
          have i0 : (0 : Int) ≤ rnd := by omega
          have i1 : (rnd : Int) < mz := by omega
          have hkl : rnd < Z.length := by rw [HLM.out.2.1]; exact hlt
          obtain ⟨pb, off, rfl, hc⟩ := (HL.out.2.2.1.below HS.out.sv.dev.bel) rnd hkl
          have x0 := hc 0 _ rfl
          rw [Nat.add_zero, Nat.mul_one] at x0
          have hzz := HL.out.2.2.2.1 Z[rnd] (List.getElem_mem hkl)
          have HF := Hidden.mk (HS.out.sv.dev.fail Z[rnd] hzz.2)
          generalize Z[rnd] = z at *
          first | simp only [d1] | simp only [d1'] | skip
          clear hc hzz
          go_wp2_with fail
          refine HF.out.mono ?_
          rintro e w5 ⟨rfl, hd5, hk5⟩
          have HN := Hidden.mk (And.intro (HS.out.sv.left hd5 hk5) HS.out.st)
          clear hd5 hk5 HF
          go_wp2_with fail
          go_meet
          exact ⟨⟨{ S.D with left := max (-1) z }, S.st, S.l, S.K⟩, rfl, HN⟩
        · have d1 : decide ((rnd : Int) < mz) = false := by simp; omega
          have d1' : decide (rnd < mz) = false := by simpa using hlt
          first | simp only [d1] | simp only [d1'] | skip
          clear hlt
          go_wp2_with fail
          go_meet
          exact ⟨S, rfl, ⟨HS.out.sv, HS.out.st⟩⟩
    case rest =>
    obtain ⟨S1, hk1, hcut⟩ := hcut
    have HS1 := Hidden.mk (And.intro hk1 hcut.out)
    obtain ⟨wA, rfl⟩ : ∃ wA : World, wA = wc := ⟨_, rfl⟩
    clear hcut hk1
    go_upto_block 2 with (fail)
    go_cut [16, 17, 18] (fun kv xv av wx => ∃ (at_ : Nat) (F GH : Nat → Prop) (S : Sto) (nx : Bytes) (g1 c1 g2 c2 : Nat), kv = .slice (some ⟨g1, 0, none⟩) S.K.length c1 ∧ xv = .slice (some ⟨g2, 0, none⟩) nx.length c2 ∧ av = .int .i64 (at_ : Int) ∧ at_ ≤ 8 * (rnd + 1) ∧ Hidden (SvSt w wx F GH s p d h nn np S nx g1 c1 g2 c2 ∧ S.st ≤ 2 + 10 * rnd + 8))
    case first =>
      as_aux_lemma =>
        go_wp2_with fail
        go_loopg [16, 17, 18, 20] 8 (fun r kv xv av iv wr => ∃ (k at_ : Nat) (F GH : Nat → Prop) (S : Sto) (nx : Bytes) (g1 c1 g2 c2 : Nat), k ≤ 8 ∧ r = 8 - k ∧ iv = .int .i64 (k : Int) ∧ kv = .slice (some ⟨g1, 0, none⟩) S.K.length c1 ∧ xv = .slice (some ⟨g2, 0, none⟩) nx.length c2 ∧ av = .int .i64 (at_ : Int) ∧ at_ ≤ 8 * rnd + k ∧ Hidden (SvSt w wr F GH s p d h nn np S nx g1 c1 g2 c2 ∧ S.st ≤ 2 + 10 * rnd + k))
        case atStart => exact ⟨0, at_, F, GH, S1, S.K, g, c, g, c, by omega, rfl, rfl, by rw [HS1.out.1], rfl, rfl, by omega, ⟨HS1.out.2.1, by have := HS1.out.2.2; omega⟩⟩
        case round =>
          obtain ⟨k, at2, F2, GH2, S2, nx, g1, c1, g2, c2, hk8, rfl, rfl, rfl, rfl, rfl, hat2, hst2⟩ := hrel
          have HT := Hidden.mk hst2.out
          have HKK : Hidden (S2.K.length = 32 * np) := ⟨HT.out.1.lv.lk⟩
          clear hst2 HS1
          by_cases h8 : k < 8
          rotate_left
          · have e1 : decide ((k : Int) < 8) = false := by simp; omega
            have e1' : decide (k < 8) = false := by simpa using h8
            clear h8
            go_wp2_with fail
            go_meet
            exact ⟨at2, F2, GH2, S2, nx, g1, c1, g2, c2, rfl, rfl, rfl, by omega, ⟨HT.out.1, by have := HT.out.2; omega⟩⟩
          have e1 : decide ((k : Int) < 8) = true := by simp; omega
          have e1' : decide (k < 8) = true := by simpa using h8
          by_cases hlt : at2 < m
          rotate_left
          · have e2 : decide ((at2 : Int) < m) = false := by simp; omega
            have e2' : decide (at2 < m) = false := by simpa using hlt
            clear hlt
            go_wp2_with fail
            go_meet
            exact ⟨at2, F2, GH2, S2, nx, g1, c1, g2, c2, rfl, rfl, rfl, by omega, ⟨HT.out.1, by have := HT.out.2; omega⟩⟩
          have e2 : decide ((at2 : Int) < m) = true := by simp; omega
          have e2' : decide (at2 < m) = true := by simpa using hlt
          have i0 : (0 : Int) ≤ at2 := by omega
          have i1 : (at2 : Int) < m := by omega
          have s1 : IntKind.i64.wrap ((k : Int) + 1) = (k : Int) + 1 := IntWalk.i64_in _ (by omega)
          have s2 : IntKind.i64.wrap ((at2 : Int) + 1) = (at2 : Int) + 1 := IntWalk.i64_in _ (by omega)
          have hkl : at2 < L.length := by rw [HLM.out.1]; exact hlt
          obtain ⟨pb, off, rfl, hc⟩ := (HL.out.1.below HT.out.1.dev.bel) at2 hkl
          have x0 := hc 0 _ rfl
          have x1 := hc 1 _ rfl
          have x2 := hc 2 _ rfl
          have x3 := hc 3 _ rfl
          have x4 := hc 4 _ rfl
          have x5 := hc 5 _ rfl
          rw [Nat.add_zero] at x0
          have hok := HL.out.2.1 L[at2] (List.getElem_mem hkl)
          have HO := Hidden.mk hok
          generalize L[at2] = o at *
          obtain ⟨what, handle, ato, len, name, bA, bc, body⟩ := o
          dsimp only at *
          clear hc hok
          have hal := (Below.refl wr.heap.size wr).alloc (Nat.le_refl _) (.cells #[.int .i64 what, .int .i64 handle, .int .i64 ato, .int .i64 len, sv name, .slice bA body.length bc] 37)
          have h6c := six6_cells wr (.int .i64 what) (.int .i64 handle) (.int .i64 ato) (.int .i64 len) (sv name) (.slice bA body.length bc) 37
          have HTW := Hidden.mk (HT.out.1.below hal)
          have HBO : Hidden (wr.heap.size < (wr.alloc (.cells #[.int .i64 what, .int .i64 handle, .int .i64 ato, .int .i64 len, sv name, .slice bA body.length bc] 37)).heap.size ∧ ¬ F2 wr.heap.size ∧ ¬ GH2 wr.heap.size ∧ wr.heap.size ≠ s ∧ wr.heap.size ≠ p) := ⟨by
            obtain ⟨gk_, ck_, hs_⟩ := HT.out.1.st
            refine ⟨by rw [World.size_alloc]; omega, fun hf => by have := HT.out.1.dev.flt _ hf; omega, fun hf => by have := hs_.hp.flt _ hf; omega, by have := hs_.lt.1; omega, by have := hs_.lt.2.1; omega⟩⟩
          obtain ⟨y0, y1, y2, y3, y4, y5⟩ := h6c
          have HST2 := Hidden.mk HT.out.2
          clear hal e1 e1' e2 e2'
          go_upto_region 22 with (fail)
          clear x0 x1 x2 x3 x4 x5
          generalize wr.alloc (.cells #[.int .i64 what, .int .i64 handle, .int .i64 ato, .int .i64 len, sv name, .slice bA body.length bc] 37) = W at *
          generalize wr.heap.size = bo at *
          obtain ⟨gk2, ck2, hs2⟩ := HTW.out.st
          have HS2 := Hidden.mk hs2
          clear hs2 HT
          go_wp2_with fail
          refine (stheap_any HS2.out).mono ?_
          rintro e w5 ⟨rfl, rfl⟩
          go_wp2_with fail
          refine (hbytes_ok _ _ _ _ _ HS2.out.hp).mono ?_
          rintro e w6 ⟨gw, cw, rfl, hgw, hrw, hb6⟩
          have HT6 := Hidden.mk (HTW.out.below hb6)
          have HW6 := Hidden.mk (HTW.out.fresh hgw hrw)
          have HBO6 : Hidden (bo < w6.heap.size ∧ ¬ F2 bo ∧ ¬ GH2 bo ∧ bo ≠ s ∧ bo ≠ p) := ⟨Nat.lt_of_lt_of_le HBO.out.1 hb6.size, HBO.out.2⟩
          have HY : Hidden (Six6 w6 bo (.int .i64 what) (.int .i64 handle) (.int .i64 ato) (.int .i64 len) (sv name) (.slice bA body.length bc)) := ⟨(hb6.cell (p := ⟨bo, 0, none⟩) HBO.out.1).trans y0, (hb6.cell (p := ⟨bo, 1, none⟩) HBO.out.1).trans y1, (hb6.cell (p := ⟨bo, 2, none⟩) HBO.out.1).trans y2, (hb6.cell (p := ⟨bo, 3, none⟩) HBO.out.1).trans y3, (hb6.cell (p := ⟨bo, 4, none⟩) HBO.out.1).trans y4, (hb6.cell (p := ⟨bo, 5, none⟩) HBO.out.1).trans y5⟩
          clear y0 y1 y2 y3 y4 y5 hgw hrw hb6 HTW HBO HS2
          go_wp2_with fail
          refine (HT6.out.dev.down).mono ?_
          rintro e w7 ⟨rfl, rfl⟩
          have HDO := Hidden.mk (HT6.out.do_ (by have := HST2.out; omega) ⟨what, handle, ato, len, name, bA, bc, body⟩ HO.out HW6.out)
          unfold opV at HDO
          dsimp only at HDO
          generalize doS np S2 ⟨what, handle, ato, len, name, bA, bc, body⟩ = R at *
          obtain ⟨y0, y1, y2, y3, y4, y5⟩ := HY.out
          go_wp2_with fail
          refine HDO.out.mono ?_
          rintro e w8 ⟨rfl, hst8, F8, GH8, hd8, hA, hB, hC, hE, hQ⟩
          have hblk := hQ bo HBO6.out.1 HBO6.out.2.1 HBO6.out.2.2.1 HBO6.out.2.2.2.1 HBO6.out.2.2.2.2
          have y8 : w8.cell? ⟨bo, 0, none⟩ = some (.int .i64 what) := (World.cell?_of_block (w := w6) (a := ⟨bo, 0, none⟩) hblk).trans y0
          have HD8 := Hidden.mk hd8
          have HN8 := Hidden.mk (And.intro hA (And.intro hB (And.intro hC hE)))
          have HL8 : Hidden (R.1.st ≤ 2 + 10 * rnd + (k + 1)) := ⟨by have := HST2.out; omega⟩
          have HLL : Hidden (S2.l.length = 32 * np) := ⟨HT6.out.lv.ll⟩
          clear hQ hblk hd8 hA hB hC hE hst8 y0 y1 y2 y3 y4 y5 HDO HT6 HW6 HBO6 HY HO
          by_cases h6 : what = 6
          rotate_left
          · have z6 : (what == 6) = false := by simpa using h6
            have HF := Hidden.mk (HN8.out.2.2.2 h6)
            have HKL : Hidden (R.1.K.length = S2.K.length) := ⟨by rw [HF.out.lv.lk]; exact HKK.out.symm⟩
            clear h6 HN8
            go_wp2_with fail
            go_roundg (8 - (k + 1))
            case measure => omega
            case rel => exact ⟨k + 1, at2 + 1, F8, GH8, R.1, nx, g1, c1, g2, c2, by omega, rfl, by go_num, by rw [HKL.out], rfl, by go_num, by omega, ⟨HF.out, HL8.out⟩⟩
          subst h6
          by_cases hz : R.2 = 0
          · have HF := Hidden.mk (HN8.out.1 rfl hz)
            have HKL : Hidden (R.1.K.length = S2.l.length) := ⟨by rw [HF.out.lv.lk, HLL.out]⟩
            rw [hz, errV0]
            clear hz HN8
            go_wp2_with fail
            go_roundg (8 - (k + 1))
            case measure => omega
            case rel => exact ⟨k + 1, at2 + 1, F8, GH8, R.1, S2.l, gw, cw, gw, cw, by omega, rfl, by go_num, by rw [HKL.out], rfl, by go_num, by omega, ⟨HF.out, HL8.out⟩⟩
          have HZ := Hidden.mk hz
          rw [errV_pos hz]
          clear hz
          have HDW := Hidden.mk HD8.out.down
          cases hdn : S2.D.down with
          | true =>
            have HF := Hidden.mk (HN8.out.2.2.1 rfl HZ.out (fun x => by rw [hdn] at x; cases x.1))
            have HKL : Hidden (R.1.K.length = S2.K.length) := ⟨by rw [HF.out.lv.lk]; exact HKK.out.symm⟩
            clear HN8 hdn
            go_wp2_with fail
            go_roundg (8 - (k + 1))
            case measure => omega
            case rel => exact ⟨k + 1, at2 + 1, F8, GH8, R.1, nx, g1, c1, g2, c2, by omega, rfl, by go_num, by rw [HKL.out], rfl, by go_num, by omega, ⟨HF.out, HL8.out⟩⟩
          | false =>
            cases hdn2 : R.1.D.down with
            | true =>
              have HF := Hidden.mk (HN8.out.2.1 rfl HZ.out ⟨hdn, hdn2⟩)
              have HKL : Hidden (R.1.K.length = S2.K.length) := ⟨by rw [HF.out.lv.lk]; exact HKK.out.symm⟩
              rw [hdn2] at HDW
              clear HN8 hdn hdn2
              go_wp2_with fail
              refine HDW.out.mono ?_
              rintro e w9 ⟨rfl, rfl⟩
              go_wp2_with fail
              go_roundg (8 - (k + 1))
              case measure => omega
              case rel => exact ⟨k + 1, at2 + 1, F8, GH8, R.1, S2.l, g1, c1, gw, cw, by omega, rfl, by go_num, by rw [HKL.out], rfl, by go_num, by omega, ⟨HF.out, HL8.out⟩⟩
            | false =>
              have HF := Hidden.mk (HN8.out.2.2.1 rfl HZ.out (fun x => by rw [hdn2] at x; cases x.2))
              have HKL : Hidden (R.1.K.length = S2.K.length) := ⟨by rw [HF.out.lv.lk]; exact HKK.out.symm⟩
              rw [hdn2] at HDW
              clear HN8 hdn hdn2
              go_wp2_with fail
              refine HDW.out.mono ?_
              rintro e w9 ⟨rfl, rfl⟩
              go_wp2_with fail
              go_roundg (8 - (k + 1))
              case measure => omega
              case rel => exact ⟨k + 1, at2 + 1, F8, GH8, R.1, nx, g1, c1, g2, c2, by omega, rfl, by go_num, by rw [HKL.out], rfl, by go_num, by omega, ⟨HF.out, HL8.out⟩⟩
    case rest =>
    obtain ⟨at3, F3, GH3, S3, nx, g1, c1, g2, c2, rfl, rfl, rfl, hat3, hcut⟩ := hcut
    have HV := Hidden.mk hcut.out
    obtain ⟨wB, rfl⟩ : ∃ wB : World, wB = wc := ⟨_, rfl⟩
    have hc32 : (min 32 (max 0 cut)).toNat ≤ 32 := by omega
    have HKN : Hidden (∀ F : Nat → Prop, (∀ q, F q → w.heap.size ≤ q) → 0 < mk → ∀ ad, KA = some ad → ¬ F ad.block) := ⟨fun F hF h0 ad e hf => by
      obtain ⟨b, off, e2, hc⟩ := HL.out.2.2.2.2 0 (by rw [HLM.out.2.2]; exact h0)
      rw [e2] at e
      obtain rfl := Option.some.inj e
      have := hF _ hf
      have := block_lt_of_cell hc
      dsimp only at *
      omega⟩
    have HCR := Hidden.mk (HV.out.1.dev.crash KA mk kc keep torn cut HLM.out.2.2 (HL.out.2.2.2.2.below HV.out.1.dev.bel) (HKN.out F3 HV.out.1.dev.new))
    obtain ⟨cc, hcc⟩ : ∃ cc, (min 32 (max 0 cut)).toNat = cc := ⟨_, rfl⟩
    rw [hcc] at HCR hc32
    clear hcut HS1
    go_wp2_with fail
    refine HCR.out.mono ?_
    rintro e w10 ⟨rfl, hd10, hk10⟩
    obtain ⟨st4, N4, h4⟩ := HV.out.1.crash keep torn cc hc32 hd10 hk10 (b := 2 + 10 * (rnd + 1)) (by have := HV.out.2; omega)
    have HC4 : Hidden (CrsS w w10 F3 d nn np st4 (2 + 10 * (rnd + 1)) (crashD S3.D keep torn cc) S3.K nx N4 g1 c1 g2 c2 ∧ Up (crashD S3.D keep torn cc)) := ⟨h4, rfl, rfl⟩
    obtain ⟨D4, hD4⟩ : ∃ D, crashD S3.D keep torn cc = D := ⟨_, rfl⟩
    rw [hD4] at HC4
    have HLN : Hidden (S3.K.length = 32 * np ∧ nx.length = 32 * np) := ⟨HV.out.1.lv.lk, HV.out.1.lv.lx⟩
    obtain ⟨K3, hK3⟩ : ∃ K, S3.K = K := ⟨_, rfl⟩
    rw [hK3] at HC4 HLN
    rw [hK3]
    clear h4 hd10 hk10 HCR hD4 HV hK3
    go_upto_if 127 with (fail)
    go_cut [] (fun wx => ∃ (F : Nat → Prop) (D : Dv), Hidden (CrsS w wx F d nn np st4 (2 + 10 * (rnd + 1)) D K3 nx N4 g1 c1 g2 c2 ∧ Up D))
    case first =>
      as_aux_lemma =>
        by_cases hodd : rnd % 2 = 1
        · have d1 : ((rnd : Int) % 2 == 1) = true := by simp; omega
          have HF := Hidden.mk (HC4.out.1.dev.fail (rnd : Int) (by omega))
          first | simp only [d1] | skip
          clear hodd
          go_wp2_with fail
          refine HF.out.mono ?_
          rintro e w11 ⟨rfl, hd11, hk11⟩
          have HC5 := Hidden.mk (HC4.out.1.left hd11 hk11)
          obtain ⟨D5, hD5⟩ : ∃ D5 : Dv, D5 = { D4 with left := max (-1) (rnd : Int) } := ⟨_, rfl⟩
          rw [← hD5] at HC5
          clear hd11 hk11 HF hD5 HC4
          have HO := Hidden.mk HC5.out.opens
          go_wp2_with fail
          refine HO.out.mono ?_
          rintro e w12 ⟨v, F5, rfl, h5, hok⟩
          have H5 := Hidden.mk h5
          have HOK := Hidden.mk hok
          obtain ⟨R, hR⟩ : ∃ R, openP D5 = R := ⟨_, rfl⟩
          rw [hR] at H5 HOK
          rw [hR]
          clear h5 hok hR HO HC5
          by_cases hz : R.2 = 0
          · have hdn := (HOK.out hz).1
            have HF := Hidden.mk (H5.out.dev.fail (-1) (by omega))
            have HU : Hidden (Up { R.1 with left := max (-1) (-1) }) := ⟨rfl, hdn⟩
            rw [hz, errV0]
            clear hz hdn HOK
            go_wp2_with fail
            refine HF.out.mono ?_
            rintro e w13 ⟨rfl, hd13, hk13⟩
            have HN := Hidden.mk (And.intro (H5.out.left hd13 hk13) HU.out)
            clear hd13 hk13 HF
            go_wp2_with fail
            go_meet
            exact ⟨F5, _, HN⟩
          · rw [errV_pos hz]
            have HCR := Hidden.mk (H5.out.dev.crash KA mk kc keep torn cut HLM.out.2.2 (HL.out.2.2.2.2.below H5.out.dev.bel) (HKN.out F5 H5.out.dev.new))
            rw [hcc] at HCR
            clear hz HOK
            go_wp2_with fail
            refine HCR.out.mono ?_
            rintro e w13 ⟨rfl, hd13, hk13⟩
            have H6 := Hidden.mk (H5.out.crash keep torn cc hc32 hd13 hk13)
            have HF := Hidden.mk (H6.out.dev.fail (-1) (by omega))
            have HU : Hidden (Up { crashD R.1 keep torn cc with left := max (-1) (-1) }) := ⟨rfl, rfl⟩
            clear hd13 hk13 HCR
            go_wp2_with fail
            refine HF.out.mono ?_
            rintro e w14 ⟨rfl, hd14, hk14⟩
            have HN := Hidden.mk (And.intro (H6.out.left hd14 hk14) HU.out)
            clear hd14 hk14 HF
            go_wp2_with fail
            go_meet
            exact ⟨F5, _, HN⟩
        · have d1 : ((rnd : Int) % 2 == 1) = false := by simp; omega
          first | simp only [d1] | skip
          clear hodd
          go_wp2_with fail
          go_meet
          exact ⟨F3, D4, HC4⟩
    case rest =>
    obtain ⟨F6, D6, hcut⟩ := hcut
    have HC6 := Hidden.mk hcut.out
    obtain ⟨wC, rfl⟩ : ∃ wC : World, wC = wc := ⟨_, rfl⟩
    have HO := Hidden.mk HC6.out.1.opens
    have hz : (openP D6).2 = 0 := by
      rcases HC6.out.1.hd.open_.2.1 with h | h
      · exact h
      · exact absurd h (open_stays HC6.out.2).2
    have HZ := Hidden.mk hz
    clear hcut HC4 hz
    go_wp2_with fail
    refine HO.out.mono ?_
    rintro e w15 ⟨v, F7, rfl, h7, hok⟩
    obtain ⟨-, sa, pa, ha, gka, cka, GA, rfl, hsn⟩ := hok HZ.out
    have HSN := Hidden.mk hsn
    have H7 := Hidden.mk h7
    rw [HZ.out, errV0]
    clear h7 hok hsn HO
    go_wp2_with fail
    refine (stheap_any HSN.out.st).mono ?_
    rintro e w16 ⟨rfl, rfl⟩
    go_wp2_with fail
    refine (hbytes_ok _ _ _ _ _ HSN.out.st.hp).mono ?_
    rintro e w16 ⟨gn, cn, rfl, hgn, hrn, hb16⟩
    have HN : Hidden (SrSt w w16 F7 GA sa pa d ha nn np ⟨(openP D6).1, st4, N4, N4⟩ gn cn (2 + 10 * (rnd + 1))) := ⟨HC6.out.1.next HZ.out HSN.out hb16 hgn hrn, HC6.out.1.sb⟩
    have H8 := H7.out.below hb16
    have cvN := conv_text w16 (some ⟨gn, 0, none⟩) N4.length cn N4 rfl hrn.rd
    have cvK := conv_text w16 (some ⟨g1, 0, none⟩) K3.length c1 K3 rfl H8.rk.row.rd
    have cvX := conv_text w16 (some ⟨g2, 0, none⟩) nx.length c2 nx rfl H8.rn.row.rd
    have HOR := Hidden.mk HC6.out.1.or_
    clear hgn hrn hb16 H8 H7 HSN HC6 HZ
    have s1 : IntKind.i64.wrap ((rnd : Int) + 1) = (rnd : Int) + 1 := IntWalk.i64_in _ (by omega)
    by_cases hNK : N4 = K3
    · have q1 : (N4 != K3) = false := by simp [hNK]
      have q1' : (N4 == K3) = true := by simp [hNK]
      clear hNK
      go_wp2_with fail
      go_roundg (5 - (rnd + 1))
      case measure => omega
      case rel => exact ⟨rnd + 1, at3, F7, GA, sa, pa, ha, _, gn, cn, by omega, rfl, by go_num, rfl, rfl, rfl, rfl, hat3, HN⟩
    · have q1 : (N4 != K3) = true := by simpa using hNK
      have q1' : (N4 == K3) = false := by simpa using hNK
      have hNX : N4 = nx := HOR.out.elim (fun h => absurd h hNK) id
      have q2 : (N4 != nx) = false := by simp [hNX]
      have q2' : (N4 == nx) = true := by simp [hNX]
      clear hNK hNX
      go_wp2_with fail
      go_roundg (5 - (rnd + 1))
      case measure => omega
      case rel => exact ⟨rnd + 1, at3, F7, GA, sa, pa, ha, _, gn, cn, by omega, rfl, by go_num, rfl, rfl, rfl, rfl, hat3, HN⟩
end Go.Proofs.YtijcclpnkfmpnaaGreat
