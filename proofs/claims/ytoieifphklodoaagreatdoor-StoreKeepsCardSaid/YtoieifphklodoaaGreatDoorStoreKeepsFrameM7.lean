/- Contracts and plain laws, put together: StoreKeeps1. -/
import Derived.Test.YtoieifphklodoaaGreatDoorStoreKeepsFrameM6
/- StoreKeeps: the walk. -/
namespace Go.Proofs.YtoieifphklodoaaGreatDoor
open Go.RowKit Go.Maps Go.ChangeMaps

set_option maxRecDepth 100000 in
set_option maxHeartbeats 8000000 in
theorem storeKeeps_walk (n : Int) (OA : Option Addr) (oc : Nat) (L : List OpX) (w : World) (hg : HasType w) (hL : RdX ocells 6 w OA L) (hLo : ∀ x ∈ L, OpOk w x) :
    Calls Tryz.prog 6 #[.int .i64 n, .slice OA L.length oc] w fun e w' => e = .returned (.bool true) ∧ Below w.heap.size w w' := by
  obtain ⟨m, hm⟩ : ∃ m, L.length = m := ⟨_, rfl⟩
  have HL := Hidden.mk (And.intro hL (And.intro hLo (And.intro hm hg)))
  rw [hm]
  clear hL hLo hm hg
  by_cases hbad : n < 1 ∨ 300 < n
  · have HN := Hidden.mk (dnew_e1 n w hbad)
    go_enter Tryz.func6, Tryz.ntmps6
    by_cases hlo : n < 1
    · have e1 : decide (n < 1) = true := by simpa using hlo
      clear hbad hlo
      go_wp2_with fail
      refine HN.out.mono ?_
      rintro e w1 ⟨rfl, rfl⟩
      go_wp2_with fail
      go_ret
      exact ⟨rfl, Below.refl _ _⟩
    · have e1 : decide (n < 1) = false := by simpa using hlo
      have e2 : decide (300 < n) = true := by simp; omega
      clear hbad hlo
      go_wp2_with fail
      refine HN.out.mono ?_
      rintro e w1 ⟨rfl, rfl⟩
      go_wp2_with fail
      go_ret
      exact ⟨rfl, Below.refl _ _⟩
  obtain ⟨nn, rfl⟩ : ∃ nn : Nat, n = nn := ⟨n.toNat, by omega⟩
  have h1 : 1 ≤ nn := by omega
  have h3 : nn ≤ 300 := by omega
  clear hbad
  have HN := Hidden.mk (dnewB nn w h1 h3)
  go_enter Tryz.func6, Tryz.ntmps6
  go_wp2_with fail
  refine HN.out.mono ?_
  rintro e w1 ⟨d, F0, rfl, hd⟩
  have HD := Hidden.mk hd
  clear hd HN
  by_cases h57 : nn < 57
  · have HC := Hidden.mk (screate_e1 nn HD.out h1 h57)
    have e1 : decide ((nn : Int) < 57) = true := by simp; omega
    have e2 : decide (nn < 57) = true := by simpa using h57
    clear h57
    go_wp2_with fail
    refine HC.out.mono ?_
    rintro e w2 ⟨rfl, rfl⟩
    go_wp2_with fail
    refine (err_some 1 1 _ (HL.out.2.2.2.below HL.out.2.2.2.lt HD.out.bel)).mono ?_
    rintro e w3 ⟨rfl, hb3⟩
    go_wp2_with fail
    go_ret
    exact ⟨rfl, HD.out.bel.trans (hb3.mono HD.out.bel.size)⟩
  obtain ⟨np, hnp⟩ : ∃ np, np = nP (newD nn) := ⟨_, rfl⟩
  have HC := Hidden.mk (screate_ok nn np HD.out (by omega) h3 hnp)
  have hmo := made_ok nn (by omega) h3 np hnp
  have HOK := Hidden.mk hmo.2.2.2.2
  have HNP := Hidden.mk hmo.2.1
  generalize madeD nn = D0 at *
  clear hmo hnp
  go_wp2_with fail
  refine HC.out.mono ?_
  rintro e w2 ⟨s, p, h, gk, ck, F1, GH1, rfl, hmk⟩
  have HP : Hidden (PlSt w w2 F1 GH1 s p d h nn np ⟨D0, 2, List.replicate (32 * np) 0, List.replicate (32 * np) 0⟩) := ⟨⟨hmk.dev, ⟨gk, ck, hmk.st⟩, HOK.out⟩⟩
  clear hmk HC HOK
  go_upto_if 53 with (fail)
  go_cut [] (fun wx => ∃ (F GH : Nat → Prop) (S : Sto), Hidden (PlSt w wx F GH s p d h nn np S ∧ S.st ≤ 3 ∧ S.l = S.K))
  case first =>
    by_cases h58 : 57 < nn
    · have d1 : decide (57 < (nn : Int)) = true := by simp; omega
      have d2 : decide (57 < nn) = true := by simpa using h58
      first | simp only [d1] | simp only [d2] | skip
      have HN291 : Hidden (291 ≤ 32 * np) := ⟨by have := HNP.out; omega⟩
      obtain ⟨l1, hl1, f1, f2, f3, f4, f5, f6⟩ := first_alloc (n := 32 * np) (by have := HNP.out; omega) (by have := HNP.out; omega)
      have HF1 := Hidden.mk (And.intro hl1 (And.intro f1 (And.intro f2 (And.intro f3 (And.intro f4 (And.intro f5 f6))))))
      obtain ⟨gk0, ck0, hs0⟩ := HP.out.st
      have HAL := Hidden.mk (halloc_any 3 1 hs0.hp)
      have HS0 := Hidden.mk hs0
      dsimp only at HAL
      rw [f3, f4, hl1] at HAL
      clear hl1 f1 f2 f3 f4 f5 f6 hs0 h58
      go_wp2_with fail
      refine HP.out.heap_.mono ?_
      rintro e w3 ⟨rfl, rfl⟩
      go_wp2_with fail
      refine HAL.out.mono ?_
      rintro e w3 ⟨rfl, GH3, hm3⟩
      have HP3 : Hidden (PlSt w w3 F1 GH3 s p d h nn np ⟨D0, 2, l1, List.replicate (32 * np) 0⟩) := ⟨by
        have hok := HP.out.ok
        refine ⟨HP.out.dev.keep hm3.kp (fun q hq hg => HS0.out.gf q hg hq) HS0.out.hp.new, ⟨gk0, ck0, HS0.out.heap hm3 HP.out.dev.flt⟩, hok.sf, hok.kb, HF1.out.2.1, hok.gk, HF1.out.2.2.1, hok.lk, hok.n1, hok.n2⟩⟩
      have HCM := Hidden.mk (HP3.out.commit (show (2 : Nat) < 4294967295 by decide))
      have HSD := Hidden.mk (HP3.out.ok.said (show (2 : Nat) < 4294967295 by decide))
      dsimp only at HCM HSD
      have hdl : (dL l1 (List.replicate (32 * np) 0) np).length ≤ 23 := by
        have hh := HF1.out
        refine dL_first ?_
        rw [← hh.1]
        exact first_far (n := 32 * np) HN291.out hh.2.2.2.1 hh.2.2.2.2.1
      have hz := HSD.out.1.2 hdl
      obtain ⟨R, hR⟩ : ∃ R, cmS np 2 D0 l1 (List.replicate (32 * np) 0) = R := ⟨_, rfl⟩
      rw [hR] at HCM hz
      rw [hz] at HCM
      rw [errV0]
      clear hm3 HAL HS0 HSD hdl hR
      go_wp2_with fail
      refine HCM.out.mono ?_
      rintro e w4 ⟨rfl, -, hm4⟩
      obtain ⟨F4, hm4⟩ := hm4 trivial
      have HP4 := Hidden.mk hm4.pl
      have hst4 : (if (dL l1 (List.replicate (32 * np) 0) np).length ≠ 0 then 2 + 1 else 2) ≤ 3 := by split <;> omega
      generalize (if (dL l1 (List.replicate (32 * np) 0) np).length ≠ 0 then 2 + 1 else 2) = st4 at *
      have HST4 := Hidden.mk hst4
      have HO := Hidden.mk HP4.out.open_
      rw [errV0]
      clear hm4 HCM hz HP3 hst4
      go_wp2_with fail
      refine HO.out.mono ?_
      rintro e w5 ⟨sa, pa, ha, gka, cka, F5, GA, rfl, hsn, hp5, -⟩
      have HP5 := Hidden.mk hp5
      have HSN := Hidden.mk hsn.st
      clear hp5 hsn HO HP4
      go_wp2_with fail
      refine (stheap_any HSN.out).mono ?_
      rintro e w6 ⟨rfl, rfl⟩
      have HZ := Hidden.mk (hsize_any 1 HSN.out.hp)
      rw [HF1.out.2.2.2.2.2.1, HF1.out.2.2.2.2.2.2, errV0] at HZ
      go_wp2_with fail
      refine HZ.out.mono ?_
      rintro e w7 ⟨rfl, hb7⟩
      have HN7 : Hidden (PlSt w w7 F5 GH3 s p d h nn np ⟨(openP R.1).1, st4, l1, l1⟩ ∧ st4 ≤ 3 ∧ l1 = l1) := ⟨HP5.out.below hb7, HST4.out, rfl⟩
      clear hb7 HZ HSN HP5
      go_wp2_with fail
      go_meet
      exact ⟨F5, GH3, ⟨(openP R.1).1, st4, l1, l1⟩, ⟨HN7.out.1, HN7.out.2.1, rfl⟩⟩
    · have d1 : decide (57 < (nn : Int)) = false := by simp; omega
      have d2 : decide (57 < nn) = false := by simpa using h58
      first | simp only [d1] | simp only [d2] | skip
      clear h58
      go_wp2_with fail
      go_meet
      exact ⟨F1, GH1, _, ⟨HP.out, (show (2 : Nat) ≤ 3 by decide), rfl⟩⟩
  case rest =>
  obtain ⟨F2, GH2, S2, hcut⟩ := hcut
  have HP2 := Hidden.mk hcut.out
  obtain ⟨wA, rfl⟩ : ∃ wA : World, wA = wc := ⟨_, rfl⟩
  clear hcut HP
  go_wp2_with fail
  refine HP2.out.1.heap_.mono ?_
  rintro e w3 ⟨rfl, rfl⟩
  go_wp2_with fail
  refine HP2.out.1.bytes_.mono ?_
  rintro e w3 ⟨g3, c3, rfl, hg3, hr3, hb3⟩
  have HP3 := Hidden.mk (HP2.out.1.below hb3)
  have HR3 := Hidden.mk (HP2.out.1.fresh hg3 hr3)
  clear hg3 hr3 hb3
  go_wp2_with fail
  refine HP3.out.stamp_.mono ?_
  rintro e w4 ⟨rfl, rfl⟩
  have HK3 : Hidden (KpSt w w3 F2 GH2 s p d h nn np S2 g3 c3 3) := ⟨⟨HP3.out, by rw [← HP2.out.2.2]; exact HR3.out, HP2.out.2.1⟩⟩
  have HLK : Hidden (S2.l.length = S2.K.length) := ⟨by rw [HP2.out.2.2]⟩
  clear HP3 HR3 HP2
  go_upto_block 0 with (fail)
  go_cut [15, 16] (fun kv sv wx => ∃ (F GH : Nat → Prop) (S : Sto) (g c : Nat), kv = .slice (some ⟨g, 0, none⟩) S.K.length c ∧ sv = .int .i64 (S.st : Int) ∧ Hidden (KpSt w wx F GH s p d h nn np S g c 43))
  case first =>
    as_aux_lemma =>
      go_wp2_with fail
      go_loopg [15, 16, 17] 40 (fun r kv sv iv wr => ∃ (k : Nat) (F GH : Nat → Prop) (S : Sto) (g c : Nat), k ≤ 40 ∧ r = 40 - k ∧ iv = .int .i64 (k : Int) ∧ kv = .slice (some ⟨g, 0, none⟩) S.K.length c ∧ sv = .int .i64 (S.st : Int) ∧ Hidden (KpSt w wr F GH s p d h nn np S g c (3 + k)))
      case atStart => exact ⟨0, F2, GH2, S2, g3, c3, by omega, rfl, rfl, by rw [HLK.out], rfl, HK3⟩
      case round =>
        obtain ⟨k, F, GH, S, g, c, hk, rfl, rfl, rfl, rfl, hst⟩ := hrel
        have HS := Hidden.mk hst.out
        clear hst HK3 HLK
        by_cases hlt : k < m
        rotate_left
        · have e1 : decide ((k : Int) < m) = false := by simp; omega
          have e1' : decide (k < m) = false := by simpa using hlt
          clear hlt
          go_wp2_with fail
          go_meet
          exact ⟨F, GH, S, g, c, rfl, rfl, ⟨HS.out.pl, HS.out.rk, by have := HS.out.st; omega⟩⟩
        have e1 : decide ((k : Int) < m) = true := by simp; omega
        have e1' : decide (k < m) = true := by simpa using hlt
        by_cases h40 : k < 40
        rotate_left
        · have e2 : decide ((k : Int) < 40) = false := by simp; omega
          have e2' : decide (k < 40) = false := by simpa using h40
          clear h40
          go_wp2_with fail
          go_meet
          exact ⟨F, GH, S, g, c, rfl, rfl, ⟨HS.out.pl, HS.out.rk, by have := HS.out.st; omega⟩⟩
        have e2 : decide ((k : Int) < 40) = true := by simp; omega
        have e2' : decide (k < 40) = true := by simpa using h40
        have i0 : (0 : Int) ≤ k := by omega
        have i1 : (k : Int) < m := by omega
        have s1 : IntKind.i64.wrap ((k : Int) + 1) = (k : Int) + 1 := IntWalk.i64_in _ (by omega)
        go_wp2_with fail
        refine HS.out.pl.dirty.mono ?_
        rintro e w5 ⟨A5, c5, rfl, -, hb5⟩
        have HS5 := Hidden.mk (HS.out.below hb5)
        have hkl : k < L.length := by rw [HL.out.2.2.1]; exact hlt
        obtain ⟨pb, off, rfl, hc⟩ := (HL.out.1.below HS5.out.pl.dev.bel) k hkl
        have x0 := hc 0 _ rfl
        have x1 := hc 1 _ rfl
        have x2 := hc 2 _ rfl
        have x3 := hc 3 _ rfl
        have x4 := hc 4 _ rfl
        have x5 := hc 5 _ rfl
        rw [Nat.add_zero] at x0
        have hbd : S.st < 4294967295 := by have := HS.out.st; omega
        have HDO := Hidden.mk (HS5.out.do_ (by omega) L[k] (HL.out.2.1 _ (List.getElem_mem hkl)))
        have HSD := Hidden.mk (HS.out.pl.ok.said hbd)
        have HX8 : Hidden (∀ W, Below w.heap.size w W → W.cell? ⟨pb, off + k * 6, none⟩ = some (.int .i64 L[k].what)) := ⟨fun W hW => by
          obtain ⟨pb', off', e', hc'⟩ := (HL.out.1.below hW) k hkl
          simp only [Option.some.injEq, Addr.mk.injEq, and_true] at e'
          obtain ⟨rfl, rfl⟩ := e'
          have := hc' 0 _ rfl
          rwa [Nat.add_zero] at this⟩
        have HD6 : Hidden (L[k].what = 6 → doS np S L[k] = if (cmS np S.st S.D S.l S.K).2 = 0 then (⟨(cmS np S.st S.D S.l S.K).1, if (dL S.l S.K np).length ≠ 0 then S.st + 1 else S.st, S.l, S.l⟩, 0) else (⟨(cmS np S.st S.D S.l S.K).1, S.st, S.l, S.K⟩, (cmS np S.st S.D S.l S.K).2)) := ⟨fun e => by unfold doS; rw [if_pos e]⟩
        have HD7 : Hidden (L[k].what = 7 → doS np S L[k] = (⟨S.D, S.st, S.K, S.K⟩, 0)) := ⟨fun e => by unfold doS; rw [if_neg (by omega), if_pos e]⟩
        have HDS : Hidden (L[k].what ≠ 6 → (doS np S L[k]).1.st = S.st ∧ (doS np S L[k]).1.K = S.K) := ⟨fun e => by unfold doS; rw [if_neg e]; split <;> exact ⟨rfl, rfl⟩⟩
        unfold opV at HDO
        generalize doS np S L[k] = R at *
        generalize L[k] = o at *
        obtain ⟨what, handle, at_, len, name, bA, bc, body⟩ := o
        dsimp only at *
        obtain ⟨q, hq⟩ : ∃ q, (dL S.l S.K np).length = q := ⟨_, rfl⟩
        rw [hq] at HD6 HSD
        rw [hq]
        have hq2 : q ≤ 200 := by have := dL_le S.l S.K np; have := HS.out.pl.ok.n2; omega
        clear hc hb5 hbd
        go_wp2_with fail
        refine HDO.out.mono ?_
        rintro e w6 ⟨rfl, F6, GH6, hp6, hr6, hs6⟩
        have HP6 := Hidden.mk hp6
        have HR6 := Hidden.mk hr6
        have HST6 : Hidden (R.1.st ≤ 3 + (k + 1)) := ⟨by omega⟩
        have y0 := HX8.out w6 hp6.dev.bel
        clear hp6 hr6 hs6 x0 x1 x2 x3 x4 x5 HDO HS5 HX8 e1 e1' e2 e2'
        by_cases h6 : what = 6
        · have HDD := Hidden.mk (HD6.out h6)
          subst h6
          clear HD6 HD7 HDS
          by_cases hq23 : q ≤ 23
          · have hz := HSD.out.1.2 hq23
            have hR : R = (⟨(cmS np S.st S.D S.l S.K).1, if q ≠ 0 then S.st + 1 else S.st, S.l, S.l⟩, 0) := HDD.out.trans (if_pos hz)
            generalize cmS np S.st S.D S.l S.K = CM at *
            subst hR
            rw [errV0]
            have d1 : decide ((q : Int) ≤ 23) = true := by simp; omega
            have d1' : decide (q ≤ 23) = true := by simpa using hq23
            clear HSD HDD hz hq23
            dsimp only at HP6 HR6 HST6
            go_wp2_with fail
            refine HP6.out.heap_.mono ?_
            rintro e w7 ⟨rfl, rfl⟩
            go_wp2_with fail
            refine HP6.out.bytes_.mono ?_
            rintro e w7 ⟨g7, c7, rfl, hg7, hr7, hb7⟩
            have HP7 := Hidden.mk (HP6.out.below hb7)
            have HR7 := Hidden.mk (HP6.out.fresh hg7 hr7)
            clear hg7 hr7 hb7 HP6 HR6 d1 d1'
            dsimp only at HP7 HR7
            by_cases hq0 : 0 < q
            · have d2 : decide (0 < (q : Int)) = true := by simp; omega
              have d2' : decide (0 < q) = true := by simpa using hq0
              have hne : (if q ≠ 0 then S.st + 1 else S.st) = S.st + 1 := if_pos (by omega)
              rw [hne] at HP7 HST6
              have s2 : IntKind.i64.wrap ((S.st : Int) + 1) = (S.st : Int) + 1 := IntWalk.i64_in _ (by have := HST6.out; omega)
              have HDI := Hidden.mk HP7.out.dirty
              dsimp only at HDI
              rw [dL_same] at HDI
              clear hq0 hne
              go_wp2_with fail
              refine HDI.out.mono ?_
              rintro e w8 ⟨A8, c8, rfl, -, hb8⟩
              have HT : Hidden (KpSt w w8 F6 GH6 s p d h nn np ⟨CM.1, S.st + 1, S.l, S.l⟩ g7 c7 (3 + (k + 1))) := ⟨HP7.out.below hb8, HR7.out.below hb8, HST6.out⟩
              clear hb8 HDI HP7 HR7
              have qs : (((S.st + 1 : Nat) : Int) != (S.st : Int) + 1) = false := by simp
              have HTS := Hidden.mk (And.intro HT.out.pl.ok.gl HT.out.pl.ok.ll)
              go_wp2_with fail
              refine HT.out.pl.stamp_.mono ?_
              rintro e w_a ⟨rfl, rfl⟩
              go_wp2_with fail
              refine HT.out.pl.heap_.mono ?_
              rintro e w_a ⟨rfl, rfl⟩
              go_wp2_with fail
              refine HT.out.pl.bytes_.mono ?_
              rintro e w_b ⟨g_b, c_b, rfl, -, hr_b, hb_b⟩
              have HFI := Hidden.mk (refFine_yes (some ⟨g_b, 0, none⟩) _ c_b _ w_b rfl HTS.out.1.len hr_b.le.1 hr_b.rd)
              rw [fine_good HTS.out.1] at HFI
              go_wp2_with fail
              refine HFI.out.mono ?_
              rintro e w_c ⟨rfl, hb_c⟩
              have HN := Hidden.mk ((HT.out.below hb_b).below hb_c)
              clear hr_b hb_b hb_c HFI HTS HT
              go_wp2_with fail
              go_roundg (40 - (k + 1))
              case measure => omega
              case rel => exact ⟨k + 1, F6, GH6, ⟨CM.1, S.st + 1, S.l, S.l⟩, g7, c7, by omega, rfl, by go_num, by rfl, by simp, HN⟩
            · have d2 : decide (0 < (q : Int)) = false := by simp; omega
              have d2' : decide (0 < q) = false := by simpa using hq0
              have hne : (if q ≠ 0 then S.st + 1 else S.st) = S.st := if_neg (by omega)
              rw [hne] at HP7 HST6
              have HDI := Hidden.mk HP7.out.dirty
              dsimp only at HDI
              rw [dL_same] at HDI
              clear hq0 hne
              go_wp2_with fail
              refine HDI.out.mono ?_
              rintro e w8 ⟨A8, c8, rfl, -, hb8⟩
              have HT : Hidden (KpSt w w8 F6 GH6 s p d h nn np ⟨CM.1, S.st, S.l, S.l⟩ g7 c7 (3 + (k + 1))) := ⟨HP7.out.below hb8, HR7.out.below hb8, HST6.out⟩
              clear hb8 HDI HP7 HR7
              have qs : ((S.st : Int) != (S.st : Int)) = false := by simp
              have HTS := Hidden.mk (And.intro HT.out.pl.ok.gl HT.out.pl.ok.ll)
              go_wp2_with fail
              refine HT.out.pl.stamp_.mono ?_
              rintro e w_a ⟨rfl, rfl⟩
              go_wp2_with fail
              refine HT.out.pl.heap_.mono ?_
              rintro e w_a ⟨rfl, rfl⟩
              go_wp2_with fail
              refine HT.out.pl.bytes_.mono ?_
              rintro e w_b ⟨g_b, c_b, rfl, -, hr_b, hb_b⟩
              have HFI := Hidden.mk (refFine_yes (some ⟨g_b, 0, none⟩) _ c_b _ w_b rfl HTS.out.1.len hr_b.le.1 hr_b.rd)
              rw [fine_good HTS.out.1] at HFI
              go_wp2_with fail
              refine HFI.out.mono ?_
              rintro e w_c ⟨rfl, hb_c⟩
              have HN := Hidden.mk ((HT.out.below hb_b).below hb_c)
              clear hr_b hb_b hb_c HFI HTS HT
              go_wp2_with fail
              go_roundg (40 - (k + 1))
              case measure => omega
              case rel => exact ⟨k + 1, F6, GH6, ⟨CM.1, S.st, S.l, S.l⟩, g7, c7, by omega, rfl, by go_num, by rfl, by rfl, HN⟩
          · have hz : ¬ (cmS np S.st S.D S.l S.K).2 = 0 := fun hz => hq23 (HSD.out.1.1 hz)
            have h4 : (cmS np S.st S.D S.l S.K).2 = 4 := HSD.out.2.elim (fun h => absurd h hz) id
            have hR : R = (⟨(cmS np S.st S.D S.l S.K).1, S.st, S.l, S.K⟩, 4) := by rw [HDD.out, if_neg hz, h4]
            generalize cmS np S.st S.D S.l S.K = CM at *
            subst hR
            rw [errV_pos (show (4 : Nat) ≠ 0 by decide)]
            have d1 : decide ((q : Int) ≤ 23) = false := by simp; omega
            have d1' : decide (q ≤ 23) = false := by simpa using hq23
            clear HSD HDD hz hq23 h4
            dsimp only at HP6 HR6 HST6
            go_wp2_with fail
            refine (err_some 4 4 _ (HL.out.2.2.2.below HL.out.2.2.2.lt HP6.out.dev.bel)).mono ?_
            rintro e w7 ⟨rfl, hb7⟩
            have HT : Hidden (KpSt w w7 F6 GH6 s p d h nn np ⟨CM.1, S.st, S.l, S.K⟩ g c (3 + (k + 1))) := ⟨HP6.out.below hb7, HR6.out.below hb7, HST6.out⟩
            clear hb7 HP6 HR6 d1 d1'
            have qs : ((S.st : Int) != (S.st : Int)) = false := by simp
            have HTS := Hidden.mk (And.intro HT.out.pl.ok.gl HT.out.pl.ok.ll)
            go_wp2_with fail
            refine HT.out.pl.stamp_.mono ?_
            rintro e w_a ⟨rfl, rfl⟩
            go_wp2_with fail
            refine HT.out.pl.heap_.mono ?_
            rintro e w_a ⟨rfl, rfl⟩
            go_wp2_with fail
            refine HT.out.pl.bytes_.mono ?_
            rintro e w_b ⟨g_b, c_b, rfl, -, hr_b, hb_b⟩
            have HFI := Hidden.mk (refFine_yes (some ⟨g_b, 0, none⟩) _ c_b _ w_b rfl HTS.out.1.len hr_b.le.1 hr_b.rd)
            rw [fine_good HTS.out.1] at HFI
            go_wp2_with fail
            refine HFI.out.mono ?_
            rintro e w_c ⟨rfl, hb_c⟩
            have HN := Hidden.mk ((HT.out.below hb_b).below hb_c)
            clear hr_b hb_b hb_c HFI HTS HT
            go_wp2_with fail
            go_roundg (40 - (k + 1))
            case measure => omega
            case rel => exact ⟨k + 1, F6, GH6, ⟨CM.1, S.st, S.l, S.K⟩, g, c, by omega, rfl, by go_num, by rfl, by rfl, HN⟩
        · have z6 : (what == 6) = false := by simpa using h6
          have hds := HDS.out h6
          have HKS := Hidden.mk hds
          by_cases h7 : what = 7
          · have hR := HD7.out h7
            subst h7
            subst hR
            rw [errV0]
            dsimp only at HP6 HR6 HST6
            have eK : (S.K != S.K) = false := bne_self_eq_false S.K
            have eK' : (S.K == S.K) = true := beq_self_eq_true S.K
            clear HD6 HD7 HDS hds HKS
            go_upto_region 34 with (fail)
            obtain ⟨R, hR⟩ : ∃ R : Sto × Nat, R = (⟨S.D, S.st, S.K, S.K⟩, 0) := ⟨_, rfl⟩
            have hRl : R.1.l = S.K := by rw [hR]
            have hB0 : Below w6.heap.size w6 w6.drew := (Below.refl _ _).drew
            refine wp_region_held_drew (S := fun W => Row W 5 g c S.K) (by kernel_rfl) (HR6.out.below hB0).row (fun hHeld => ?_)
            refine wpAnyH_take (i := 0) (oi := { dst := some 153, op := Op.move (Operand.tmp 19), type := 27, pos := "law.go:62", after := #[], guard := none }) (v := ?_) rfl (by kernel_rfl) (by kernel_rfl) (by kernel_rfl) (fun _ _ _ h => h) (Or.inl ⟨by rfl, ?_⟩) hHeld ?_
            rotate_left
            · intro w_ hSw
              go_simp
              try with_reducible rfl
            try simp only [Act.put, List.setIfInBounds_toArray, List.set_cons_zero, List.set_cons_succ]
            refine wpAnyH_take (i := 1) (oi := { dst := some 154, op := Op.binOp BinOp.neq 27 (Operand.tmp 153) (Operand.const Go.Value.nilIface) 27, type := 4, pos := "law.go:62", after := #[{ on := 0, ground := Ground.data }], guard := none }) (v := ?_) rfl (by kernel_rfl) (by kernel_rfl) (by kernel_rfl) (fun _ _ _ h => h) (Or.inl ⟨by rfl, ?_⟩) hHeld ?_
            rotate_left
            · intro w_ hSw
              go_simp
              try with_reducible rfl
            try simp only [Act.put, List.setIfInBounds_toArray, List.set_cons_zero, List.set_cons_succ]
            refine wpAnyH_take (i := 2) (oi := { dst := some 155, op := Op.move (Operand.tmp 154), type := 4, pos := "law.go:62", after := #[{ on := 1, ground := Ground.data }], guard := none }) (v := ?_) rfl (by kernel_rfl) (by kernel_rfl) (by kernel_rfl) (fun _ _ _ h => h) (Or.inl ⟨by rfl, ?_⟩) hHeld ?_
            rotate_left
            · intro w_ hSw
              go_simp
              try with_reducible rfl
            try simp only [Act.put, List.setIfInBounds_toArray, List.set_cons_zero, List.set_cons_succ]
            refine wpAnyH_take (i := 3) (oi := { dst := some 156, op := Op.move (Operand.tmp 7), type := 30, pos := "law.go:62", after := #[{ on := 2, ground := Ground.guard }], guard := some (2, false) }) (v := ?_) rfl (by kernel_rfl) (by kernel_rfl) (by kernel_rfl) (fun _ _ _ h => h) (Or.inl ⟨by rfl, ?_⟩) hHeld ?_
            rotate_left
            · intro w_ hSw
              go_simp
              try with_reducible rfl
            try simp only [Act.put, List.setIfInBounds_toArray, List.set_cons_zero, List.set_cons_succ]
            refine wpAnyH_take (i := 7) (oi := { dst := some 160, op := Op.move (Operand.tmp 15), type := 34, pos := "law.go:62", after := #[{ on := 2, ground := Ground.guard }], guard := some (2, false) }) (v := ?_) rfl (by kernel_rfl) (by kernel_rfl) (by kernel_rfl) (fun _ _ _ h => h) (Or.inl ⟨by rfl, ?_⟩) hHeld ?_
            rotate_left
            · intro w_ hSw
              go_simp
              try with_reducible rfl
            try simp only [Act.put, List.setIfInBounds_toArray, List.set_cons_zero, List.set_cons_succ]
            refine wpAnyH_take (i := 8) (oi := { dst := some 161, op := Op.convert 34 9 (Operand.tmp 160), type := 9, pos := "law.go:62", after := #[{ on := 7, ground := Ground.data }, { on := 2, ground := Ground.guard }], guard := some (2, false) }) (v := ?_) rfl (by kernel_rfl) (by kernel_rfl) (by kernel_rfl) (fun _ _ _ h => h) (Or.inl ⟨by rfl, ?_⟩) hHeld ?_
            rotate_left
            · intro w_ hSw
              have hcv_ := conv_text w_ (some ⟨g, 0, none⟩) S.K.length c S.K rfl hSw.rd
              go_simp
              try with_reducible rfl
            try simp only [Act.put, List.setIfInBounds_toArray, List.set_cons_zero, List.set_cons_succ]
            refine wpAnyH_ready (rs := [4]) (by kernel_rfl) (by simp) ?_
            refine AllReadyH.cons (o := { dst := some 157, op := Op.call { callee := Callee.value (Operand.func 16), args := #[Operand.tmp 156], argTypes := #[30] }, type := 43, pos := "law.go:62", after := #[{ on := 3, ground := Ground.data }, { on := 2, ground := Ground.chain }, { on := 2, ground := Ground.guard }], guard := some (2, false) }) rfl (fun K hK => ?_) (AllReadyH.nil)
            rw [if_pos (by rfl)]
            go_simp
            go_at_call 16
            refine ((HP6.out.below hB0).heap_).mono ?_
            rintro e w_9 ⟨rfl, rfl⟩
            dsimp only
            refine hK.out _ _ (hHeld) (fun hHeld => ?_)
            clear hK K
            try simp only [Act.put, List.setIfInBounds_toArray, List.set_cons_zero, List.set_cons_succ]
            refine wpAnyH_ready (rs := [5]) (by kernel_rfl) (by simp) ?_
            refine AllReadyH.cons (o := { dst := some 158, op := Op.call { callee := Callee.value (Operand.func 17), args := #[Operand.tmp 157], argTypes := #[43] }, type := 34, pos := "law.go:62", after := #[{ on := 4, ground := Ground.data }, { on := 4, ground := Ground.chain }, { on := 2, ground := Ground.guard }], guard := some (2, false) }) rfl (fun K hK => ?_) (AllReadyH.nil)
            rw [if_pos (by rfl)]
            go_simp
            go_at_call 17
            refine ((HP6.out.below hB0).bytes_).mono ?_
            rintro e w7 ⟨g7, c7, rfl, -, hr7, hb7⟩
            dsimp only
            refine hK.out _ _ (hHeld.below hb7 hHeld.lt) (fun hHeld => ?_)
            clear hK K
            try simp only [Act.put, List.setIfInBounds_toArray, List.set_cons_zero, List.set_cons_succ]
            refine wpAnyH_strong (S' := fun W => Row W 5 g7 c7 S.K ∧ Row W 5 g c S.K) (fun _ h => h.2) _ _ _ _ ?_
            replace hHeld := And.intro hr7 hHeld
            refine wpAnyH_take (i := 6) (oi := { dst := some 159, op := Op.convert 34 9 (Operand.tmp 158), type := 9, pos := "law.go:62", after := #[{ on := 5, ground := Ground.data }, { on := 2, ground := Ground.guard }], guard := some (2, false) }) (v := ?_) rfl (by kernel_rfl) (by kernel_rfl) (by kernel_rfl) (fun _ _ _ h => h) (Or.inl ⟨by rfl, ?_⟩) hHeld ?_
            rotate_left
            · intro w_ hSw
              have hcv_ := conv_text w_ (some ⟨g7, 0, none⟩) S.K.length c7 S.K rfl hSw.1.rd
              go_simp
              try with_reducible rfl
            try simp only [Act.put, List.setIfInBounds_toArray, List.set_cons_zero, List.set_cons_succ]
            refine wpAnyH_take (i := 9) (oi := { dst := some 162, op := Op.binOp BinOp.neq 9 (Operand.tmp 159) (Operand.tmp 161) 9, type := 4, pos := "law.go:62", after := #[{ on := 6, ground := Ground.data }, { on := 8, ground := Ground.data }, { on := 2, ground := Ground.guard }], guard := some (2, false) }) (v := ?_) rfl (by kernel_rfl) (by kernel_rfl) (by kernel_rfl) (fun _ _ _ h => h) (Or.inl ⟨by rfl, ?_⟩) hHeld ?_
            rotate_left
            · intro w_ hSw
              go_simp
              try with_reducible rfl
            try simp only [Act.put, List.setIfInBounds_toArray, List.set_cons_zero, List.set_cons_succ]
            refine wpAnyH_take (i := 10) (oi := { dst := some 163, op := Op.pick (Operand.tmp 155) (Operand.const (Go.Value.bool true)) (Operand.tmp 162), type := 4, pos := "law.go:62", after := #[{ on := 2, ground := Ground.data }, { on := 9, ground := Ground.data }], guard := none }) (v := ?_) rfl (by kernel_rfl) (by kernel_rfl) (by kernel_rfl) (fun _ _ _ h => h) (Or.inl ⟨by rfl, ?_⟩) hHeld ?_
            rotate_left
            · intro w_ hSw
              go_simp
              try with_reducible rfl
            try simp only [Act.put, List.setIfInBounds_toArray, List.set_cons_zero, List.set_cons_succ]
            refine wpAnyH_done (by kernel_rfl) ?_ _
            clear hHeld
            have HT : Hidden (KpSt w w7 F6 GH6 s p d h nn np ⟨S.D, S.st, S.K, S.K⟩ g c (3 + (k + 1))) := ⟨(HP6.out.below hB0).below hb7, (HR6.out.below hB0).below hb7, HST6.out⟩
            clear hb7 hB0 hr7 HP6 HR6 hR hRl R
            have qs : ((S.st : Int) != (S.st : Int)) = false := by simp
            have HTS := Hidden.mk (And.intro HT.out.pl.ok.gl HT.out.pl.ok.ll)
            go_wp2_with fail
            refine HT.out.pl.stamp_.mono ?_
            rintro e w_a ⟨rfl, rfl⟩
            go_wp2_with fail
            refine HT.out.pl.heap_.mono ?_
            rintro e w_a ⟨rfl, rfl⟩
            go_wp2_with fail
            refine HT.out.pl.bytes_.mono ?_
            rintro e w_b ⟨g_b, c_b, rfl, -, hr_b, hb_b⟩
            have HFI := Hidden.mk (refFine_yes (some ⟨g_b, 0, none⟩) _ c_b _ w_b rfl HTS.out.1.len hr_b.le.1 hr_b.rd)
            rw [fine_good HTS.out.1] at HFI
            go_wp2_with fail
            refine HFI.out.mono ?_
            rintro e w_c ⟨rfl, hb_c⟩
            have HN := Hidden.mk ((HT.out.below hb_b).below hb_c)
            clear hr_b hb_b hb_c HFI HTS HT
            go_wp2_with fail
            go_roundg (40 - (k + 1))
            case measure => omega
            case rel => exact ⟨k + 1, F6, GH6, ⟨S.D, S.st, S.K, S.K⟩, g, c, by omega, rfl, by go_num, by rfl, by rfl, HN⟩
          · have z7 : (what == 7) = false := by simpa using h7
            have HT : Hidden (KpSt w w6 F6 GH6 s p d h nn np R.1 g c (3 + (k + 1))) := ⟨HP6.out, HR6.out.cong HKS.out.2.symm, HST6.out⟩
            have HKL : Hidden (R.1.K.length = S.K.length) := ⟨by rw [HKS.out.2]⟩
            have hst := HKS.out.1
            clear HD6 HD7 HDS hds HP6 HR6 h6 h7
            have qs : ((R.1.st : Int) != (S.st : Int)) = false := by rw [hst]; simp
            clear hst
            have HTS := Hidden.mk (And.intro HT.out.pl.ok.gl HT.out.pl.ok.ll)
            go_wp2_with fail
            refine HT.out.pl.stamp_.mono ?_
            rintro e w_a ⟨rfl, rfl⟩
            go_wp2_with fail
            refine HT.out.pl.heap_.mono ?_
            rintro e w_a ⟨rfl, rfl⟩
            go_wp2_with fail
            refine HT.out.pl.bytes_.mono ?_
            rintro e w_b ⟨g_b, c_b, rfl, -, hr_b, hb_b⟩
            have HFI := Hidden.mk (refFine_yes (some ⟨g_b, 0, none⟩) _ c_b _ w_b rfl HTS.out.1.len hr_b.le.1 hr_b.rd)
            rw [fine_good HTS.out.1] at HFI
            go_wp2_with fail
            refine HFI.out.mono ?_
            rintro e w_c ⟨rfl, hb_c⟩
            have HN := Hidden.mk ((HT.out.below hb_b).below hb_c)
            clear hr_b hb_b hb_c HFI HTS HT
            go_wp2_with fail
            go_roundg (40 - (k + 1))
            case measure => omega
            case rel => exact ⟨k + 1, F6, GH6, R.1, g, c, by omega, rfl, by go_num, by rw [HKL.out], by rw [HKS.out.1], HN⟩
  case rest =>
  obtain ⟨F8, GH8, S8, g8, c8, rfl, rfl, hcut⟩ := hcut
  have HK8 := Hidden.mk hcut.out
  obtain ⟨wB, rfl⟩ : ∃ wB : World, wB = wc := ⟨_, rfl⟩
  clear hcut HK3 HLK
  obtain ⟨i0', hi0, hz0, hz1, hz2⟩ := info_parts int_infoC
  have HI := Hidden.mk (And.intro hi0 (And.intro hz0 (And.intro hz1 hz2)))
  obtain ⟨K8, hK8⟩ : ∃ x, S8.K = x := ⟨_, rfl⟩
  obtain ⟨l8, hl8⟩ : ∃ x, S8.l = x := ⟨_, rfl⟩
  have HKL8 : Hidden (K8.length = 32 * np) := ⟨by rw [← hK8]; exact HK8.out.pl.ok.lk⟩
  have HLL8 : Hidden (l8.length = 32 * np) := ⟨by rw [← hl8]; exact HK8.out.pl.ok.ll⟩
  have hn2 := HK8.out.pl.ok.n2
  have HBY := Hidden.mk HK8.out.pl.bytes_
  rw [hl8, HLL8.out] at HBY
  rw [hK8, HKL8.out]
  have HEQ := Hidden.mk (And.intro hK8 hl8)
  have hkc := HK8.out.rk.row.le.1
  rw [hK8, HKL8.out] at hkc
  clear hi0 hz0 hz1 hz2 hK8 hl8
  go_wp2_with fail
  refine HK8.out.pl.heap_.mono ?_
  rintro e w9 ⟨rfl, rfl⟩
  go_wp2_with fail
  refine HBY.out.mono ?_
  rintro e w9 ⟨gN, cN, rfl, hgN, hrN, hbN⟩
  have HK9 := Hidden.mk (HK8.out.below hbN)
  have HRN := Hidden.mk hrN
  have hnc := hrN.le.1
  rw [HLL8.out] at hnc
  have HRK : Hidden (Row w9 5 g8 c8 K8) := ⟨by have := HK9.out.rk.row; rw [HEQ.out.1] at this; exact this⟩
  clear hgN hrN hbN HBY HK8
  go_wp2_with fail
  go_loopg [20, 22] np (fun r lv iv wr => ∃ k : Nat, k ≤ np ∧ r = np - k ∧ iv = .int .i64 (k : Int) ∧ Hidden (Below w9.heap.size w9 wr ∧ wr.ownsRow w9.heap.size 3 1 lv (dL l8 K8 k).length ((dL l8 K8 k).flatMap ncell)))
  case atStart => exact ⟨0, by omega, rfl, rfl, ⟨Below.refl _ _, World.ownsRow_nil _ _ _ _⟩⟩
  case round =>
    obtain ⟨k, hk, rfl, rfl, hst⟩ := hrel
    by_cases hlt : k < np
    · have j1 : decide ((k : Int) < np) = true := by simp; omega
      have j1' : decide (k < np) = true := by simpa using hlt
      have j2 : decide (32 * (k : Int) < 32 * (np : Int)) = true := by simp; omega
      have j3 : decide (32 * k < 32 * np) = true := by simp; omega
      have i0 : (0 : Int) ≤ k := by omega
      have i1 : (k : Int) < np := by omega
      have s1 : IntKind.i64.wrap (32 * (k : Int)) = 32 * (k : Int) := IntWalk.i64_in _ (by omega)
      have s2 : IntKind.i64.wrap (32 * (k : Int) + 32) = 32 * (k : Int) + 32 := IntWalk.i64_in _ (by omega)
      have s3 : IntKind.i64.wrap ((k : Int) + 1) = (k : Int) + 1 := IntWalk.i64_in _ (by omega)
      have hcut1 := fun W => run_cut gN 0 (32 * np) cN (32 * k) (32 * k + 32) (by omega) (by omega) (by omega) W
      have hcut2 := fun W => run_cut g8 0 (32 * np) c8 (32 * k) (32 * k + 32) (by omega) (by omega) (by omega) W
      rw [show (((32 * k : Nat)) : Int) = 32 * (k : Int) by omega, show ((((32 * k + 32 : Nat)) : Int)) = 32 * (k : Int) + 32 by omega, show 32 * k + 32 - 32 * k = 32 by omega, Nat.zero_add] at hcut1 hcut2
      have HB := Hidden.mk hst.out.1
      have hr1 := (HRN.out.below hst.out.1 HRN.out.lt).rd.cut (32 * k) 32 (by rw [HLL8.out]; omega)
      have hr2 := (HRK.out.below hst.out.1 HRK.out.lt).rd.cut (32 * k) 32 (by rw [HKL8.out]; omega)
      rw [Option.map_some, Addr.add_lit, Nat.zero_add] at hr1 hr2
      have hpg : ∀ x : Bytes, (x.drop (32 * k)).take 32 = pgB x k := fun x => by unfold pgB; rw [Nat.mul_comm]
      rw [hpg] at hr1 hr2
      have HCV : Hidden (∀ W, Below wr.heap.size wr W → (convert 34 9 (.slice (some ⟨gN, 32 * k, none⟩) 32 (cN - 32 * k))).run Tryz.prog W = .ok (sv (pgB l8 k)) W ∧ (convert 34 9 (.slice (some ⟨g8, 32 * k, none⟩) 32 (c8 - 32 * k))).run Tryz.prog W = .ok (sv (pgB K8 k)) W) := ⟨fun W hW => ⟨conv_text W _ 32 _ _ (pgB_len HLL8.out hlt) (hr1.below hW), conv_text W _ 32 _ _ (pgB_len HKL8.out hlt) (hr2.below hW)⟩⟩
      have HD := Hidden.mk (dL_succ l8 K8 k)
      have hdl := dL_le l8 K8 k
      have HN := Hidden.mk hst.out.2
      have HDF : Hidden (difB l8 K8 k = (pgB l8 k != pgB K8 k)) := ⟨rfl⟩
      generalize hDe : dL l8 K8 k = DE at *
      generalize pgB l8 k = P1 at *
      generalize pgB K8 k = P2 at *
      clear hst hr1 hr2 hDe hpg
      go_upto_region 43 with (fail)
      go_region_held3 (fun W => (convert 34 9 (.slice (some ⟨gN, 32 * k, none⟩) 32 (cN - 32 * k))).run Tryz.prog W = .ok (sv P1) W ∧ (convert 34 9 (.slice (some ⟨g8, 32 * k, none⟩) 32 (c8 - 32 * k))).run Tryz.prog W = .ok (sv P2) W) (first | exact HCV.out _ (Below.refl _ _).drew | exact HCV.out _ (Below.refl _ _)) (fail)
      have HBD : Hidden (Below w9.heap.size w9 wr.drew) := ⟨HB.out.trans (((Below.refl _ wr).drew).mono HB.out.size)⟩
      have HND : Hidden (wr.drew.ownsRow w9.heap.size 3 1 u20 DE.length (DE.flatMap ncell)) := ⟨own_below HN.out ((Below.refl _ wr).drew)⟩
      rename_i hheld_
      clear hheld_
      generalize wr.drew = wd at *
      clear HB HN HCV hcut1 hcut2
      cases hq : (P1 == P2) with
      | true =>
        have HSS : Hidden (dL l8 K8 (k + 1) = DE) := ⟨by rw [HD.out, HDF.out, bne, hq]; simp⟩
        clear HD HDF
        go_wp2_with fail
        go_roundg (np - (k + 1))
        case measure => omega
        case rel => exact ⟨k + 1, by omega, rfl, by go_num, ⟨HBD.out, by rw [HSS.out]; exact HND.out⟩⟩
      | false =>
        have HSS : Hidden (dL l8 K8 (k + 1) = DE ++ [k]) := ⟨by rw [HD.out, HDF.out, bne, hq]; simp⟩
        obtain ⟨hi0, hz0, hz1, hz2⟩ := HI.out
        clear HD HDF
        go_wp2_with (at_builtin; refine wpList_append_lies _ rfl (.tmp 202) (.tmp 204) _ rfl w9.heap.size 3 i0' _ 1 8 Tryz.underlying78 hi0 hz0 hz1 hz2 rfl (by decide) u20 DE.length (DE.flatMap ncell) rfl (own_below HND.out ((Below.refl _ _).alloc (Nat.le_refl _) _)) ⟨(wd).heap.size, 0, none⟩ 1 1 [.int .i64 (k : Int)] rfl rfl (World.news_of_block (cs := #[.int .i64 (k : Int)]) (t := 3) (fr := (0, 0)) (heap_alloc_new (wd) _)) (by simp [Value.oneCell']) (by omega) (by simp only [maxLen]; omega) (by omega) (by have hz_ := HBD.out.size; rw [World.size_alloc]; omega) ((wd).heap.size + 1) (by simp) ?_; intro g8' cap8 w8 hown8 hg8 hat8 hlt8)
        have hgW := grown_trans' ((Below.refl wd.heap.size wd).alloc (Nat.le_refl _) _) hg8
        have hB8 : Below w9.heap.size w9 w8 := HBD.out.grown hgW HBD.out.size (fun q hq => (HND.out.lt q hq).1)
        have HF : Hidden (Below w9.heap.size w9 w8 ∧ w8.ownsRow w9.heap.size 3 1 (.slice (some ⟨g8', 0, none⟩) (DE.length + 1) cap8) (DE ++ [k]).length ((DE ++ [k]).flatMap ncell)) := ⟨hB8, by
          rw [List.length_append, List.flatMap_append]
          simpa [ncell] using hown8⟩
        clear hgW hB8 hown8 hg8 hat8 hlt8 hi0 hz0 hz1 hz2
        go_roundg (np - (k + 1))
        case measure => omega
        case rel => exact ⟨k + 1, by omega, rfl, by go_num, ⟨by rw [HSS.out]; exact HF.out⟩⟩
    · obtain rfl : np = k := by omega
      have j1 : decide ((np : Int) < np) = false := by simp
      have j2 : decide (32 * (np : Int) < 32 * (np : Int)) = false := by simp
      obtain ⟨A10, c10, rfl, -, -⟩ := own_split hst.out.2
      have HR10 := Hidden.mk (own_rdX3 (f := ncell) (fun _ => rfl) rfl hst.out.2)
      have HK10 := Hidden.mk (HK9.out.below hst.out.1)
      have HRK10 := Hidden.mk (HRK.out.below hst.out.1 HRK.out.lt)
      have HDI := Hidden.mk HK10.out.pl.dirty
      rw [HEQ.out.1, HEQ.out.2] at HDI
      clear hst HK9 HRN HRK
      go_wp2_with fail
      refine HDI.out.mono ?_
      rintro e w11 ⟨A11, c11, rfl, hr11, hb11⟩
      have HIE := Hidden.mk (sameInts_eq A11 A10 c11 c10 (dL l8 K8 np).length (dL l8 K8 np) w11 rfl (by have := dL_le l8 K8 np; omega) hr11 (HR10.out.below hb11))
      have HK11 := Hidden.mk (HK10.out.below hb11)
      have HRK11 := Hidden.mk (HRK10.out.below hb11 HRK10.out.lt)
      clear hr11 hb11 HDI HK10 HRK10 HR10
      go_wp2_with fail
      refine HIE.out.mono ?_
      rintro e w12 ⟨rfl, hb12⟩
      have HK12 := Hidden.mk (HK11.out.below hb12)
      have HRK12 := Hidden.mk (HRK11.out.below hb12 HRK11.out.lt)
      have HO := Hidden.mk HK12.out.pl.open_
      clear hb12 HIE HK11 HRK11
      go_wp2_with fail
      refine HO.out.mono ?_
      rintro e w13 ⟨sb, pb, hb_, gkb, ckb, F13, GB, rfl, hsn, -, -⟩
      have HSB : Hidden (StH w w13 F13 GB sb pb d hb_ gkb ckb S8.st np K8 K8) := ⟨by have := hsn.st; rw [HEQ.out.1] at this; exact this⟩
      have HBW := Hidden.mk hsn.dev.bel
      have HRK : Hidden (Row w13 5 g8 c8 K8) := ⟨hsn.kp.row HRK12.out HK12.out.rk.nf⟩
      have hB0 : Below w13.heap.size w13 w13.drew := (Below.refl _ _).drew
      have eK : (K8 == K8) = true := beq_self_eq_true K8
      have eS : ((S8.st : Int) == (S8.st : Int)) = true := by simp
      clear hsn HO HK12 HRK12
      go_upto_region 47 with (fail)
      refine wp_region_held_drew (S := fun W => Row W 5 g8 c8 K8) (by kernel_rfl) (HRK.out.below hB0 HRK.out.lt) (fun hHeld => ?_)
      refine wpAnyH_take (i := 0) (oi := { dst := some 215, op := Op.move (Operand.tmp 25), type := 27, pos := "law.go:79", after := #[], guard := none }) (v := ?_) rfl (by kernel_rfl) (by kernel_rfl) (by kernel_rfl) (fun _ _ _ h => h) (Or.inl ⟨by rfl, ?_⟩) hHeld ?_
      rotate_left
      · intro w_ hSw
        go_simp
        try with_reducible rfl
      try simp only [Act.put, List.setIfInBounds_toArray, List.set_cons_zero, List.set_cons_succ]
      refine wpAnyH_take (i := 1) (oi := { dst := some 216, op := Op.binOp BinOp.eql 27 (Operand.tmp 215) (Operand.const Go.Value.nilIface) 27, type := 4, pos := "law.go:79", after := #[{ on := 0, ground := Ground.data }], guard := none }) (v := ?_) rfl (by kernel_rfl) (by kernel_rfl) (by kernel_rfl) (fun _ _ _ h => h) (Or.inl ⟨by rfl, ?_⟩) hHeld ?_
      rotate_left
      · intro w_ hSw
        go_simp
        try with_reducible rfl
      try simp only [Act.put, List.setIfInBounds_toArray, List.set_cons_zero, List.set_cons_succ]
      refine wpAnyH_take (i := 2) (oi := { dst := some 217, op := Op.move (Operand.tmp 216), type := 4, pos := "law.go:79", after := #[{ on := 1, ground := Ground.data }], guard := none }) (v := ?_) rfl (by kernel_rfl) (by kernel_rfl) (by kernel_rfl) (fun _ _ _ h => h) (Or.inl ⟨by rfl, ?_⟩) hHeld ?_
      rotate_left
      · intro w_ hSw
        go_simp
        try with_reducible rfl
      try simp only [Act.put, List.setIfInBounds_toArray, List.set_cons_zero, List.set_cons_succ]
      refine wpAnyH_take (i := 3) (oi := { dst := some 218, op := Op.move (Operand.tmp 23), type := 4, pos := "law.go:79", after := #[{ on := 2, ground := Ground.guard }], guard := some (2, true) }) (v := ?_) rfl (by kernel_rfl) (by kernel_rfl) (by kernel_rfl) (fun _ _ _ h => h) (Or.inl ⟨by rfl, ?_⟩) hHeld ?_
      rotate_left
      · intro w_ hSw
        go_simp
        try with_reducible rfl
      try simp only [Act.put, List.setIfInBounds_toArray, List.set_cons_zero, List.set_cons_succ]
      refine wpAnyH_take (i := 4) (oi := { dst := some 219, op := Op.pick (Operand.tmp 217) (Operand.tmp 218) (Operand.const (Go.Value.bool false)), type := 4, pos := "law.go:79", after := #[{ on := 2, ground := Ground.data }, { on := 3, ground := Ground.data }], guard := none }) (v := ?_) rfl (by kernel_rfl) (by kernel_rfl) (by kernel_rfl) (fun _ _ _ h => h) (Or.inl ⟨by rfl, ?_⟩) hHeld ?_
      rotate_left
      · intro w_ hSw
        go_simp
        try with_reducible rfl
      try simp only [Act.put, List.setIfInBounds_toArray, List.set_cons_zero, List.set_cons_succ]
      refine wpAnyH_take (i := 5) (oi := { dst := some 220, op := Op.move (Operand.tmp 219), type := 4, pos := "law.go:79", after := #[{ on := 4, ground := Ground.data }, { on := 2, ground := Ground.chain }], guard := none }) (v := ?_) rfl (by kernel_rfl) (by kernel_rfl) (by kernel_rfl) (fun _ _ _ h => h) (Or.inl ⟨by rfl, ?_⟩) hHeld ?_
      rotate_left
      · intro w_ hSw
        go_simp
        try with_reducible rfl
      try simp only [Act.put, List.setIfInBounds_toArray, List.set_cons_zero, List.set_cons_succ]
      refine wpAnyH_take (i := 6) (oi := { dst := some 221, op := Op.move (Operand.tmp 24), type := 30, pos := "law.go:79", after := #[{ on := 5, ground := Ground.guard }], guard := some (5, true) }) (v := ?_) rfl (by kernel_rfl) (by kernel_rfl) (by kernel_rfl) (fun _ _ _ h => h) (Or.inl ⟨by rfl, ?_⟩) hHeld ?_
      rotate_left
      · intro w_ hSw
        go_simp
        try with_reducible rfl
      try simp only [Act.put, List.setIfInBounds_toArray, List.set_cons_zero, List.set_cons_succ]
      refine wpAnyH_take (i := 10) (oi := { dst := some 225, op := Op.move (Operand.tmp 15), type := 34, pos := "law.go:79", after := #[{ on := 5, ground := Ground.guard }], guard := some (5, true) }) (v := ?_) rfl (by kernel_rfl) (by kernel_rfl) (by kernel_rfl) (fun _ _ _ h => h) (Or.inl ⟨by rfl, ?_⟩) hHeld ?_
      rotate_left
      · intro w_ hSw
        go_simp
        try with_reducible rfl
      try simp only [Act.put, List.setIfInBounds_toArray, List.set_cons_zero, List.set_cons_succ]
      refine wpAnyH_take (i := 11) (oi := { dst := some 226, op := Op.convert 34 9 (Operand.tmp 225), type := 9, pos := "law.go:79", after := #[{ on := 10, ground := Ground.data }, { on := 5, ground := Ground.guard }], guard := some (5, true) }) (v := ?_) rfl (by kernel_rfl) (by kernel_rfl) (by kernel_rfl) (fun _ _ _ h => h) (Or.inl ⟨by rfl, ?_⟩) hHeld ?_
      rotate_left
      · intro w_ hSw
        have hcv_ := conv_text w_ (some ⟨g8, 0, none⟩) (32 * np) c8 K8 HKL8.out hSw.rd
        go_simp
        try with_reducible rfl
      try simp only [Act.put, List.setIfInBounds_toArray, List.set_cons_zero, List.set_cons_succ]
      refine wpAnyH_ready (rs := [7]) (by kernel_rfl) (by simp) ?_
      refine AllReadyH.cons (o := { dst := some 222, op := Op.call { callee := Callee.value (Operand.func 16), args := #[Operand.tmp 221], argTypes := #[30] }, type := 43, pos := "law.go:79", after := #[{ on := 6, ground := Ground.data }, { on := 5, ground := Ground.chain }, { on := 5, ground := Ground.guard }], guard := some (5, true) }) rfl (fun K hK => ?_) (AllReadyH.nil)
      rw [if_pos (by rfl)]
      go_simp
      go_at_call 16
      refine (stheap_any (HSB.out.below hB0)).mono ?_
      rintro e w_9 ⟨rfl, rfl⟩
      dsimp only
      refine hK.out _ _ (hHeld) (fun hHeld => ?_)
      clear hK K
      try simp only [Act.put, List.setIfInBounds_toArray, List.set_cons_zero, List.set_cons_succ]
      refine wpAnyH_ready (rs := [8]) (by kernel_rfl) (by simp) ?_
      refine AllReadyH.cons (o := { dst := some 223, op := Op.call { callee := Callee.value (Operand.func 17), args := #[Operand.tmp 222], argTypes := #[43] }, type := 34, pos := "law.go:79", after := #[{ on := 7, ground := Ground.data }, { on := 7, ground := Ground.chain }, { on := 5, ground := Ground.guard }], guard := some (5, true) }) rfl (fun K hK => ?_) (AllReadyH.nil)
      rw [if_pos (by rfl)]
      go_simp
      go_at_call 17
      refine (hbytes_ok _ _ _ _ _ (HSB.out.below hB0).hp).mono ?_
      rintro e w14 ⟨g14, c14, rfl, -, hr14, hb14⟩
      dsimp only
      refine hK.out _ _ (hHeld.below hb14 hHeld.lt) (fun hHeld => ?_)
      clear hK K
      try simp only [Act.put, List.setIfInBounds_toArray, List.set_cons_zero, List.set_cons_succ]
      refine wpAnyH_strong (S' := fun W => Row W 5 g14 c14 K8 ∧ Row W 5 g8 c8 K8) (fun _ h => h.2) _ _ _ _ ?_
      replace hHeld := And.intro hr14 hHeld
      refine wpAnyH_take (i := 9) (oi := { dst := some 224, op := Op.convert 34 9 (Operand.tmp 223), type := 9, pos := "law.go:79", after := #[{ on := 8, ground := Ground.data }, { on := 5, ground := Ground.guard }], guard := some (5, true) }) (v := ?_) rfl (by kernel_rfl) (by kernel_rfl) (by kernel_rfl) (fun _ _ _ h => h) (Or.inl ⟨by rfl, ?_⟩) hHeld ?_
      rotate_left
      · intro w_ hSw
        have hcv_ := conv_text w_ (some ⟨g14, 0, none⟩) K8.length c14 K8 rfl hSw.1.rd
        go_simp
        try with_reducible rfl
      try simp only [Act.put, List.setIfInBounds_toArray, List.set_cons_zero, List.set_cons_succ]
      refine wpAnyH_take (i := 12) (oi := { dst := some 227, op := Op.binOp BinOp.eql 9 (Operand.tmp 224) (Operand.tmp 226) 9, type := 4, pos := "law.go:79", after := #[{ on := 9, ground := Ground.data }, { on := 11, ground := Ground.data }, { on := 5, ground := Ground.guard }], guard := some (5, true) }) (v := ?_) rfl (by kernel_rfl) (by kernel_rfl) (by kernel_rfl) (fun _ _ _ h => h) (Or.inl ⟨by rfl, ?_⟩) hHeld ?_
      rotate_left
      · intro w_ hSw
        go_simp
        try with_reducible rfl
      try simp only [Act.put, List.setIfInBounds_toArray, List.set_cons_zero, List.set_cons_succ]
      refine wpAnyH_take (i := 13) (oi := { dst := some 228, op := Op.pick (Operand.tmp 220) (Operand.tmp 227) (Operand.const (Go.Value.bool false)), type := 4, pos := "law.go:79", after := #[{ on := 5, ground := Ground.data }, { on := 12, ground := Ground.data }], guard := none }) (v := ?_) rfl (by kernel_rfl) (by kernel_rfl) (by kernel_rfl) (fun _ _ _ h => h) (Or.inl ⟨by rfl, ?_⟩) hHeld ?_
      rotate_left
      · intro w_ hSw
        go_simp
        try with_reducible rfl
      try simp only [Act.put, List.setIfInBounds_toArray, List.set_cons_zero, List.set_cons_succ]
      refine wpAnyH_take (i := 14) (oi := { dst := some 229, op := Op.move (Operand.tmp 228), type := 4, pos := "law.go:79", after := #[{ on := 13, ground := Ground.data }, { on := 8, ground := Ground.chain }], guard := none }) (v := ?_) rfl (by kernel_rfl) (by kernel_rfl) (by kernel_rfl) (fun _ _ _ h => h) (Or.inl ⟨by rfl, ?_⟩) hHeld ?_
      rotate_left
      · intro w_ hSw
        go_simp
        try with_reducible rfl
      try simp only [Act.put, List.setIfInBounds_toArray, List.set_cons_zero, List.set_cons_succ]
      refine wpAnyH_take (i := 15) (oi := { dst := some 230, op := Op.move (Operand.tmp 24), type := 30, pos := "law.go:79", after := #[{ on := 14, ground := Ground.guard }], guard := some (14, true) }) (v := ?_) rfl (by kernel_rfl) (by kernel_rfl) (by kernel_rfl) (fun _ _ _ h => h) (Or.inl ⟨by rfl, ?_⟩) hHeld ?_
      rotate_left
      · intro w_ hSw
        go_simp
        try with_reducible rfl
      try simp only [Act.put, List.setIfInBounds_toArray, List.set_cons_zero, List.set_cons_succ]
      refine wpAnyH_take (i := 17) (oi := { dst := some 232, op := Op.move (Operand.tmp 16), type := 3, pos := "law.go:79", after := #[{ on := 14, ground := Ground.guard }], guard := some (14, true) }) (v := ?_) rfl (by kernel_rfl) (by kernel_rfl) (by kernel_rfl) (fun _ _ _ h => h) (Or.inl ⟨by rfl, ?_⟩) hHeld ?_
      rotate_left
      · intro w_ hSw
        go_simp
        try with_reducible rfl
      try simp only [Act.put, List.setIfInBounds_toArray, List.set_cons_zero, List.set_cons_succ]
      refine wpAnyH_ready (rs := [16]) (by kernel_rfl) (by simp) ?_
      refine AllReadyH.cons (o := { dst := some 231, op := Op.call { callee := Callee.value (Operand.func 47), args := #[Operand.tmp 230], argTypes := #[30] }, type := 3, pos := "law.go:79", after := #[{ on := 15, ground := Ground.data }, { on := 14, ground := Ground.chain }, { on := 14, ground := Ground.guard }], guard := some (14, true) }) rfl (fun K hK => ?_) (AllReadyH.nil)
      rw [if_pos (by rfl)]
      go_simp
      go_at_call 47
      refine (sstamp_any ((HSB.out.below hB0).below hb14)).mono ?_
      rintro e w_9 ⟨rfl, rfl⟩
      dsimp only
      refine hK.out _ _ (hHeld) (fun hHeld => ?_)
      clear hK K
      try simp only [Act.put, List.setIfInBounds_toArray, List.set_cons_zero, List.set_cons_succ]
      refine wpAnyH_take (i := 18) (oi := { dst := some 233, op := Op.binOp BinOp.eql 3 (Operand.tmp 231) (Operand.tmp 232) 3, type := 4, pos := "law.go:79", after := #[{ on := 16, ground := Ground.data }, { on := 17, ground := Ground.data }, { on := 14, ground := Ground.guard }], guard := some (14, true) }) (v := ?_) rfl (by kernel_rfl) (by kernel_rfl) (by kernel_rfl) (fun _ _ _ h => h) (Or.inl ⟨by rfl, ?_⟩) hHeld ?_
      rotate_left
      · intro w_ hSw
        go_simp
        try with_reducible rfl
      try simp only [Act.put, List.setIfInBounds_toArray, List.set_cons_zero, List.set_cons_succ]
      refine wpAnyH_take (i := 19) (oi := { dst := some 234, op := Op.pick (Operand.tmp 229) (Operand.tmp 233) (Operand.const (Go.Value.bool false)), type := 4, pos := "law.go:79", after := #[{ on := 14, ground := Ground.data }, { on := 18, ground := Ground.data }], guard := none }) (v := ?_) rfl (by kernel_rfl) (by kernel_rfl) (by kernel_rfl) (fun _ _ _ h => h) (Or.inl ⟨by rfl, ?_⟩) hHeld ?_
      rotate_left
      · intro w_ hSw
        go_simp
        try with_reducible rfl
      try simp only [Act.put, List.setIfInBounds_toArray, List.set_cons_zero, List.set_cons_succ]
      refine wpAnyH_take (i := 20) (oi := { dst := some 4, op := Op.assign (Operand.tmp 234), type := 4, pos := "law.go:79", after := #[{ on := 19, ground := Ground.data }, { on := 16, ground := Ground.chain }, { on := 0, ground := Ground.phase }, { on := 1, ground := Ground.phase }, { on := 2, ground := Ground.phase }, { on := 3, ground := Ground.phase }, { on := 4, ground := Ground.phase }, { on := 5, ground := Ground.phase }, { on := 6, ground := Ground.phase }, { on := 7, ground := Ground.phase }, { on := 8, ground := Ground.phase }, { on := 9, ground := Ground.phase }, { on := 10, ground := Ground.phase }, { on := 11, ground := Ground.phase }, { on := 12, ground := Ground.phase }, { on := 13, ground := Ground.phase }, { on := 14, ground := Ground.phase }, { on := 15, ground := Ground.phase }, { on := 16, ground := Ground.phase }, { on := 17, ground := Ground.phase }, { on := 18, ground := Ground.phase }, { on := 19, ground := Ground.phase }], guard := none }) (v := ?_) rfl (by kernel_rfl) (by kernel_rfl) (by kernel_rfl) (fun _ _ _ h => h) (Or.inl ⟨by rfl, ?_⟩) hHeld ?_
      rotate_left
      · intro w_ hSw
        go_simp
        try with_reducible rfl
      try simp only [Act.put, List.setIfInBounds_toArray, List.set_cons_zero, List.set_cons_succ]
      refine wpAnyH_done (by kernel_rfl) ?_ _
      clear hHeld
      go_wp2_with fail
      go_ret
      exact ⟨rfl, (HBW.out.trans (hB0.mono HBW.out.size)).trans (hb14.mono (HBW.out.trans (hB0.mono HBW.out.size)).size)⟩
end Go.Proofs.YtoieifphklodoaaGreatDoor
