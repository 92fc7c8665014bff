/- Contracts and plain laws, put together: PlayTells1. -/
import Derived.Test.YtoieifphklodoaaGreatDoorPlayTellsFrameM6
import Derived.Test.YtoieifphklodoaaGreatDoorPlayTellsFrameM3
/- PlayTells: the walk. -/
namespace Go.Proofs.YtoieifphklodoaaGreatDoor
open Go.RowKit Go.Maps Go.ChangeMaps

theorem np60 : 12 = nP (newD 60) := by unfold nP; rw [newD_len]; decide
theorem doS_six {n : Nat} {s : Sto} {o : OpX} (h0 : (doS n s o).2 = 0) (h6 : o.what = 6) : (doS n s o).1.l = (doS n s o).1.K := by
  unfold doS at h0 ⊢
  rw [if_pos h6] at h0 ⊢
  by_cases hz : (cmS n s.st s.D s.l s.K).2 = 0
  · rw [if_pos hz]
  · rw [if_neg hz] at h0
    exact absurd h0 hz
theorem play_is (nn np : Nat) (OA : Option Addr) (m oc : Nat) (L : List OpX) (x : Int) (KA : Option Addr) (nk ck : Nat) (keep : List Bool) (torn cut : Int) (w : World) (hL : L.length = m) (hm : m ≤ 200) (h57 : 57 ≤ nn) (h3 : nn ≤ 300) (hnp : np = nP (newD nn)) (hr : RdX ocells 6 w OA L) (ho : ∀ x ∈ L, OpOk w x) (hx : x ≤ 9223372036854775807) (hk : keep.length = nk) (hrk : RdB w KA keep) {st : Nat} {N : Bytes} (hd : HdS nn np (crsD nn np x L keep torn (min 32 (max 0 cut)).toNat) st N) :
    Calls Tryz.prog 51 #[.int .i64 (nn : Int), .slice OA m oc, .int .i64 x, .slice KA nk ck, .int .i64 torn, .int .i64 cut] w fun e w' => ∃ A1 c1 A2 c2, e = .returned (.tuple #[.slice A1 (entriesL N).length c1, .slice A2 (rootsL N).length c2, .nilIface]) ∧ RdX ecells 4 w' A1 (entriesL N) ∧ RdX rcells 2 w' A2 (rootsL N) ∧ Below w.heap.size w w' := by
  refine (play_ok nn np OA m oc L x KA nk ck keep torn cut w hL hm h57 h3 hnp hr ho hx hk hrk).mono ?_
  rintro e w1 ⟨v1, v2, st', N', rfl, hd', ho1, ho2, hb⟩
  obtain rfl : N' = N := hd'.uniq hd (crsD_up _ _ _ _ _ _ _)
  obtain ⟨A1, c1, rfl, -, -⟩ := own_split ho1
  obtain ⟨A2, c2, rfl, -, -⟩ := own_split ho2
  exact ⟨A1, c1, A2, c2, rfl, own_rdX3 (f := ecells) (fun _ => rfl) rfl ho1, own_rdX3 (f := rcells) (fun _ => rfl) rfl ho2, hb⟩
set_option maxRecDepth 100000 in
set_option maxHeartbeats 8000000 in
theorem playTells_walk (n : Int) (OA : Option Addr) (oc : Nat) (L : List OpX) (KA : Option Addr) (kc : Nat) (keep : List Bool) (torn cut : Int) (w : World) (hg : HasType w) (hL : RdX ocells 6 w OA L) (hLo : ∀ x ∈ L, OpOk w x) (hk : RdB w KA keep) :
    Calls Tryz.prog 7 #[.int .i64 n, .slice OA L.length oc, .slice KA keep.length kc, .int .i64 torn, .int .i64 cut] w fun e w' => e = .returned (.bool true) ∧ Below w.heap.size w w' := by
  obtain ⟨m, hm⟩ : ∃ m, L.length = m := ⟨_, rfl⟩
  obtain ⟨nk, hnk⟩ : ∃ m, keep.length = m := ⟨_, rfl⟩
  have HL := Hidden.mk (And.intro hL (And.intro hLo (And.intro hm (And.intro hnk (And.intro hk hg)))))
  rw [hm, hnk]
  clear hL hLo hm hnk hk hg
  by_cases hbig : 200 < m
  · have HS := Hidden.mk (steps_big n OA m oc w hbig)
    have HP := Hidden.mk (fun W => play_bad_big n OA m oc (-1) KA nk kc torn cut W hbig)
    have d1 : decide ((200 : Int) < m) = true := by simp; omega
    have d1' : decide (200 < m) = true := by simpa using hbig
    clear hbig
    go_enter Tryz.func7, Tryz.ntmps7
    go_wp2_with fail
    refine HS.out.mono ?_
    rintro e w1 ⟨rfl, rfl⟩
    go_wp2_with fail
    refine (HP.out _).mono ?_
    rintro e w1 ⟨rfl, rfl⟩
    go_wp2_with fail
    go_quiet (fail)
    have hb := below_drewN (Below.refl w.heap.size w) nq
    have HB := Hidden.mk hb
    have HER := Hidden.mk (fun W (hW : Below w.heap.size w W) => err_some 4 4 W (HL.out.2.2.2.2.2.below HL.out.2.2.2.2.2.lt hW))
    clear hb
    go_wp2_with fail
    refine (HER.out _ HB.out).mono ?_
    rintro e w3 ⟨rfl, hb3⟩
    have HB3 := Hidden.mk (HB.out.trans (hb3.mono HB.out.size))
    clear hb3
    go_wp2_with fail
    refine (HER.out _ HB3.out).mono ?_
    rintro e w4 ⟨rfl, hb4⟩
    have HB4 := Hidden.mk (HB3.out.trans (hb4.mono HB3.out.size))
    clear hb4
    go_wp2_with fail
    go_ret
    exact ⟨rfl, HB4.out⟩
  have hm2 : m ≤ 200 := by omega
  by_cases hbad : n < 57 ∨ 300 < n
  · have HS := Hidden.mk (steps_bad n OA m oc w hm2 hbad)
    have HP := Hidden.mk (fun W => play_bad_n n OA m oc (-1) KA nk kc torn cut W hm2 hbad)
    have d1 : decide ((200 : Int) < m) = false := by simp; omega
    have d1' : decide (200 < m) = false := by simp; omega
    have HNB := Hidden.mk hbad
    have HER := Hidden.mk (fun W (hW : Below w.heap.size w W) => err_some 1 1 W (HL.out.2.2.2.2.2.below HL.out.2.2.2.2.2.lt hW))
    clear hbig hbad
    go_enter Tryz.func7, Tryz.ntmps7
    go_wp2_with fail
    refine HS.out.mono ?_
    rintro e w1 ⟨rfl, hb1⟩
    have HB1 := Hidden.mk hb1
    clear hb1
    go_wp2_with fail
    refine (HP.out _).mono ?_
    rintro e w2 ⟨rfl, hb2⟩
    have HB2 := Hidden.mk (HB1.out.trans (hb2.mono HB1.out.size))
    clear hb2 HB1
    go_wp2_with fail
    go_quiet (fail)
    have hb := below_drewN HB2.out nq
    have HB := Hidden.mk hb
    clear hb HB2
    by_cases h57 : n < 57
    · have d2 : decide (n < 57) = true := by simpa using h57
      clear h57
      go_wp2_with fail
      refine (HER.out _ HB.out).mono ?_
      rintro e w3 ⟨rfl, hb3⟩
      have HB3 := Hidden.mk (HB.out.trans (hb3.mono HB.out.size))
      clear hb3
      go_wp2_with fail
      refine (HER.out _ HB3.out).mono ?_
      rintro e w4 ⟨rfl, hb4⟩
      have HB4 := Hidden.mk (HB3.out.trans (hb4.mono HB3.out.size))
      clear hb4
      go_wp2_with fail
      go_ret
      exact ⟨rfl, HB4.out⟩
    · have d2 : decide (n < 57) = false := by simpa using h57
      have d3 : decide (300 < n) = true := by simp; have := HNB.out; omega
      clear h57
      go_wp2_with fail
      refine (HER.out _ HB.out).mono ?_
      rintro e w3 ⟨rfl, hb3⟩
      have HB3 := Hidden.mk (HB.out.trans (hb3.mono HB.out.size))
      clear hb3
      go_wp2_with fail
      refine (HER.out _ HB3.out).mono ?_
      rintro e w4 ⟨rfl, hb4⟩
      have HB4 := Hidden.mk (HB3.out.trans (hb4.mono HB3.out.size))
      clear hb4
      go_wp2_with fail
      go_ret
      exact ⟨rfl, HB4.out⟩
  obtain ⟨nn, rfl⟩ : ∃ nn : Nat, n = nn := ⟨n.toNat, by omega⟩
  have h57 : 57 ≤ nn := by omega
  have h3 : nn ≤ 300 := by omega
  obtain ⟨np, hnp⟩ : ∃ np, np = nP (newD nn) := ⟨_, rfl⟩
  have hok := beg0_ok nn h57 h3 np hnp
  have HOK := Hidden.mk hok
  have HPAR := Hidden.mk (And.intro h57 (And.intro h3 hnp))
  have HKL : Hidden ((runK np (beg0 nn np) L m).1.K.length = 32 * np ∧ Good (runK np (beg0 nn np) L m).1.K) := ⟨by
    have := (hok.run L 2 (Nat.le_refl _) m (by rw [HL.out.2.2.1]; omega) (by omega)).1
    exact ⟨this.lk, this.gk⟩⟩
  have HRUN : Hidden (∀ k, k ≤ m → (runK np (beg0 nn np) L k).1.st ≤ 2 + k) := ⟨fun k hk => runK_st np _ L k⟩
  have HSUC : Hidden (∀ k (hk : k < L.length), (runK np (beg0 nn np) L (k + 1)).1 = (doS np (runK np (beg0 nn np) L k).1 L[k]).1) := ⟨fun k hk => by rw [runK_succ np _ L k hk]⟩
  have HST := Hidden.mk (steps_ok nn np OA m oc L w HL.out.2.2.1 hm2 h57 h3 hnp HL.out.1 HL.out.2.1)
  have hmany : (runK np (beg0 nn np) L m).2 ≤ 50 * cntC L m := runK_le hok L 2 (Nat.le_refl _) m (by rw [HL.out.2.2.1]; omega) (by omega)
  have hcnt := cntC_le L m
  have HPN : Hidden (∀ W, Below w.heap.size w W → Calls Tryz.prog 51 #[.int .i64 (nn : Int), .slice OA m oc, .int .i64 (-1), .slice KA nk kc, .int .i64 torn, .int .i64 cut] W fun e w' => ∃ A1 c1 A2 c2, e = .returned (.tuple #[.slice A1 (entriesL (runK np (beg0 nn np) L m).1.K).length c1, .slice A2 (rootsL (runK np (beg0 nn np) L m).1.K).length c2, .nilIface]) ∧ RdX ecells 4 w' A1 (entriesL (runK np (beg0 nn np) L m).1.K) ∧ RdX rcells 2 w' A2 (rootsL (runK np (beg0 nn np) L m).1.K) ∧ Below W.heap.size W w') := ⟨fun W hW => by
    have hd := play_stays hok L (by rw [HL.out.2.2.1]; omega) keep torn (min 32 (max 0 cut)).toNat (by omega)
    rw [HL.out.2.2.1] at hd
    exact play_is nn np OA m oc L (-1) KA nk kc keep torn cut W HL.out.2.2.1 hm2 h57 h3 hnp (HL.out.1.below hW) (fun x hx => (HL.out.2.1 x hx).below hW) (by decide) HL.out.2.2.2.1 (HL.out.2.2.2.2.1.below hW) hd⟩
  have HPM : Hidden (∀ W, Below w.heap.size w W → Calls Tryz.prog 51 #[.int .i64 (nn : Int), .slice OA m oc, .int .i64 ((runK np (beg0 nn np) L m).2 : Int), .slice KA nk kc, .int .i64 torn, .int .i64 cut] W fun e w' => ∃ A1 c1 A2 c2, e = .returned (.tuple #[.slice A1 (entriesL (runK np (beg0 nn np) L m).1.K).length c1, .slice A2 (rootsL (runK np (beg0 nn np) L m).1.K).length c2, .nilIface]) ∧ RdX ecells 4 w' A1 (entriesL (runK np (beg0 nn np) L m).1.K) ∧ RdX rcells 2 w' A2 (rootsL (runK np (beg0 nn np) L m).1.K) ∧ Below W.heap.size W w') := ⟨fun W hW => by
    have hd := play_stays hok L (by rw [HL.out.2.2.1]; omega) keep torn (min 32 (max 0 cut)).toNat (by omega)
    rw [← play_all hok L (by rw [HL.out.2.2.1]; omega) keep torn (min 32 (max 0 cut)).toNat, HL.out.2.2.1] at hd
    exact play_is nn np OA m oc L _ KA nk kc keep torn cut W HL.out.2.2.1 hm2 h57 h3 hnp (HL.out.1.below hW) (fun x hx => (HL.out.2.1 x hx).below hW) (by omega) HL.out.2.2.2.1 (HL.out.2.2.2.2.1.below hW) hd⟩
  have HPZ : Hidden (∀ W, Below w.heap.size w W → Calls Tryz.prog 51 #[.int .i64 (nn : Int), .slice OA m oc, .int .i64 0, .slice none 0 0, .int .i64 (-1), .int .i64 0] W fun e w' => ∃ A1 c1 A2 c2, e = .returned (.tuple #[.slice A1 0 c1, .slice A2 0 c2, .nilIface]) ∧ Below W.heap.size W w') := ⟨fun W hW => by
    have hd := play_none hok L (min 32 (max 0 (0 : Int))).toNat
    have hz := zeros_none (m := 32 * np) (by have := hok.gl.bd; simp [beg0] at this; omega)
    refine (play_is nn np OA m oc L 0 none 0 0 [] (-1) 0 W HL.out.2.2.1 hm2 h57 h3 hnp (HL.out.1.below hW) (fun x hx => (HL.out.2.1 x hx).below hW) (by decide) rfl (fun j h => by simp at h) hd).mono ?_
    rintro e w1 ⟨A1, c1, A2, c2, rfl, -, -, hb⟩
    rw [hz.1, hz.2]
    exact ⟨A1, c1, A2, c2, rfl, hb⟩⟩
  have HS60 := Hidden.mk (fun (W : World) => steps_ok 60 12 (some ⟨W.heap.size, 0, none⟩) 2 2 (scrO 0) _ rfl (by decide) (by decide) (by decide) np60 (scr_rd W 0) (scr_ok _ 0 (.inl rfl)))
  rw [six_steps (beg0_ok 60 (by decide) (by decide) 12 np60) (by decide)] at HS60
  have HMO := Hidden.mk (And.intro hok.n2 (And.intro hmany hcnt))
  obtain ⟨many, hmn⟩ : ∃ x, (runK np (beg0 nn np) L m).2 = x := ⟨_, rfl⟩
  obtain ⟨KF, hKF⟩ : ∃ x, (runK np (beg0 nn np) L m).1.K = x := ⟨_, rfl⟩
  rw [hKF] at HPN HPM HKL
  rw [hmn] at HPM HST HMO
  have HKF := Hidden.mk hKF
  have hB0 : runK np (beg0 nn np) L 0 = (beg0 nn np, 0) := rfl
  have HB0 := Hidden.mk hB0
  have hM2 : many ≤ 10000 := by have := HMO.out; omega
  clear hok hbig hbad hmany hcnt hmn hKF hB0
  go_enter Tryz.func7, Tryz.ntmps7
  go_wp2_with fail
  refine HST.out.mono ?_
  rintro e w1 ⟨rfl, hb1⟩
  have HB1 := Hidden.mk hb1
  clear hb1 HST
  go_wp2_with fail
  refine (HPN.out _ HB1.out).mono ?_
  rintro e w2 ⟨A1, c1, A2, c2, rfl, hr1, hr2, hb2⟩
  have HB2 := Hidden.mk (HB1.out.trans (hb2.mono HB1.out.size))
  have HR2 := Hidden.mk (And.intro hr1 hr2)
  clear hr1 hr2 hb2 HPN HB1
  have hal := (Below.refl w2.heap.size w2).alloc (Nat.le_refl _) (.cells #[.int .i64 1, .int .i64 0, .int .i64 0, .int .i64 3, .string ⟨#[]⟩, .slice none 0 0, .int .i64 6, .int .i64 0, .int .i64 0, .int .i64 0, .string ⟨#[]⟩, .slice none 0 0] 36)
  have HAL := Hidden.mk hal
  have HSC := Hidden.mk (HS60.out w2)
  clear hal HS60
  go_wp2_with fail
  refine HSC.out.mono ?_
  rintro e w3 ⟨rfl, hb3⟩
  have HB23 := Hidden.mk (HAL.out.trans (hb3.mono HAL.out.size))
  have HB3 := Hidden.mk (HB2.out.trans (HB23.out.mono HB2.out.size))
  have HR3 := Hidden.mk (And.intro (HR2.out.1.below HB23.out) (HR2.out.2.below HB23.out))
  clear hb3 HSC HAL HB23 HR2 HB2
  have HDN := Hidden.mk (dnewB nn w3 (by omega) h3)
  go_wp2_with fail
  refine HDN.out.mono ?_
  rintro e w4 ⟨d, F0, rfl, hd⟩
  have HC := Hidden.mk (screate_ok nn np hd h57 h3 hnp)
  clear hd HDN hnp
  go_wp2_with fail
  refine HC.out.mono ?_
  rintro e w5 ⟨s, p, h, gk, ck, F1, GH1, rfl, hmk⟩
  have HP5 : Hidden (PlSt w3 w5 F1 GH1 s p d h nn np (beg0 nn np)) := ⟨⟨hmk.dev, ⟨gk, ck, hmk.st⟩, HOK.out⟩⟩
  clear hmk HC
  go_wp2_with fail
  refine HP5.out.heap_.mono ?_
  rintro e w6 ⟨rfl, rfl⟩
  go_wp2_with fail
  refine HP5.out.bytes_.mono ?_
  rintro e w6 ⟨g6, c6, rfl, hg6, hr6, hb6⟩
  have HK6 : Hidden (KpSt w3 w6 F1 GH1 s p d h nn np (runK np (beg0 nn np) L 0).1 g6 c6 (2 + 0)) := ⟨⟨by rw [HB0.out]; exact HP5.out.below hb6, by rw [HB0.out]; exact HP5.out.fresh hg6 hr6, by rw [HB0.out]; exact Nat.le_refl _⟩⟩
  have HLL : Hidden ((beg0 nn np).l.length = (runK np (beg0 nn np) L 0).1.K.length) := ⟨by rw [HB0.out]; rfl⟩
  clear hg6 hr6 hb6 HP5
  generalize hBB : beg0 nn np = B at *
  clear hBB
  go_wp2_with fail
  go_loopg [21, 22] m (fun r kv iv wr => ∃ (k : Nat) (F GH : Nat → Prop) (g c : Nat), k ≤ m ∧ r = m - k ∧ iv = .int .i64 (k : Int) ∧ kv = .slice (some ⟨g, 0, none⟩) (runK np B L k).1.K.length c ∧ Hidden (KpSt w3 wr F GH s p d h nn np (runK np B L k).1 g c (2 + k)))
  case atStart => exact ⟨0, F1, GH1, g6, c6, by omega, rfl, rfl, by rw [HLL.out], HK6⟩
  case round =>
    obtain ⟨k, F, GH, g, c, hk, rfl, rfl, rfl, hst⟩ := hrel
    have HS := Hidden.mk hst.out
    clear hst HK6 HLL
    by_cases hlt : k < m
    · have e1 : decide ((k : Int) < m) = true := by simp; omega
      have e1' : decide (k < m) = true := by simpa using hlt
      have i0 : (0 : Int) ≤ k := by omega
      have i1 : (k : Int) < m := by omega
      have s1 : IntKind.i64.wrap ((k : Int) + 1) = (k : Int) + 1 := IntWalk.i64_in _ (by omega)
      have hkl : k < L.length := by rw [HL.out.2.2.1]; exact hlt
      have hBw := HB3.out.trans (HS.out.pl.dev.bel.mono HB3.out.size)
      obtain ⟨pb, off, rfl, x0, x1, x2, x3, x4, x5⟩ := ops_at (HL.out.1.below hBw) k hkl
      have HX8 : Hidden (∀ W, Below w.heap.size w W → W.cell? ⟨pb, off + k * 6, none⟩ = some (.int .i64 L[k].what)) := ⟨fun W hW => by
        obtain ⟨pb', off', e', hc', -⟩ := ops_at (HL.out.1.below hW) k hkl
        simp only [Option.some.injEq, Addr.mk.injEq, and_true] at e'
        obtain ⟨rfl, rfl⟩ := e'
        exact hc'⟩
      have HDO := Hidden.mk (HS.out.do_ (by omega) L[k] ((HL.out.2.1 _ (List.getElem_mem hkl)).below HB3.out))
      have HNX := Hidden.mk (HSUC.out k hkl)
      have HK6 : Hidden ((doS np (runK np B L k).1 L[k]).2 = 0 → L[k].what = 6 → (doS np (runK np B L k).1 L[k]).1.l = (doS np (runK np B L k).1 L[k]).1.K) := ⟨doS_six⟩
      have HKK : Hidden (¬ ((doS np (runK np B L k).1 L[k]).2 = 0 ∧ L[k].what = 6) → (doS np (runK np B L k).1 L[k]).1.K = (runK np B L k).1.K) := ⟨doS_keep⟩
      have HKL2 : Hidden (∀ b, 2 + k + 1 ≤ b → 2 + (k + 1) ≤ b) := ⟨fun b h => by omega⟩
      generalize hq1 : (runK np B L (k + 1)).1 = S1 at *
      generalize hq2 : (runK np B L k).1 = S at *
      unfold opV at HDO
      generalize doS np S L[k] = R at *
      generalize L[k] = o at *
      obtain ⟨what, handle, at_, len, name, bA, bc, body⟩ := o
      dsimp only at *
      clear hBw
      go_wp2_with fail
      refine HDO.out.mono ?_
      rintro e w8 ⟨rfl, F8, GH8, hp8, hr8, hs8⟩
      have HP8 : Hidden (PlSt w3 w8 F8 GH8 s p d h nn np S1) := ⟨by rw [HNX.out]; exact hp8⟩
      have HR8 := Hidden.mk hr8
      have HS8 : Hidden (S1.st ≤ 2 + (k + 1)) := ⟨by rw [HNX.out]; omega⟩
      have y0 := HX8.out w8 (HB3.out.trans (hp8.dev.bel.mono HB3.out.size))
      rw [← HNX.out] at HK6 HKK
      clear hp8 hr8 hs8 HDO HS HX8 x0 x1 x2 x3 x4 x5
      by_cases h0 : R.2 = 0
      · rw [h0, errV0]
        by_cases hw6 : what = 6
        · have HLK := Hidden.mk (HK6.out h0 hw6)
          subst hw6
          clear h0 HK6 HKK
          go_wp2_with fail
          refine HP8.out.heap_.mono ?_
          rintro e w9 ⟨rfl, rfl⟩
          go_wp2_with fail
          refine HP8.out.bytes_.mono ?_
          rintro e w9 ⟨g9, c9, rfl, hg9, hr9, hb9⟩
          have HN : Hidden (KpSt w3 w9 F8 GH8 s p d h nn np S1 g9 c9 (2 + (k + 1))) := ⟨HP8.out.below hb9, by rw [← HLK.out]; exact HP8.out.fresh hg9 hr9, HS8.out⟩
          clear hg9 hr9 hb9 HR8 HP8
          go_wp2_with fail
          go_roundg (m - (k + 1))
          case measure => omega
          case rel => exact ⟨k + 1, F8, GH8, g9, c9, by omega, rfl, by go_num, by rw [hq1, HLK.out], by rw [hq1]; exact HN⟩
        · have HKE := Hidden.mk (HKK.out (fun x => hw6 x.2))
          have z6 : (what == 6) = false := by simpa using hw6
          have HN : Hidden (KpSt w3 w8 F8 GH8 s p d h nn np S1 g c (2 + (k + 1))) := ⟨HP8.out, HR8.out.cong HKE.out.symm, HS8.out⟩
          clear h0 hw6 HK6 HKK HR8 HP8
          go_wp2_with fail
          go_roundg (m - (k + 1))
          case measure => omega
          case rel => exact ⟨k + 1, F8, GH8, g, c, by omega, rfl, by go_num, by rw [hq1, HKE.out], by rw [hq1]; exact HN⟩
      · rw [errV_pos h0]
        have HKE := Hidden.mk (HKK.out (fun x => h0 x.1))
        have HN : Hidden (KpSt w3 w8 F8 GH8 s p d h nn np S1 g c (2 + (k + 1))) := ⟨HP8.out, HR8.out.cong HKE.out.symm, HS8.out⟩
        clear h0 HK6 HKK HR8 HP8
        go_wp2_with fail
        go_roundg (m - (k + 1))
        case measure => omega
        case rel => exact ⟨k + 1, F8, GH8, g, c, by omega, rfl, by go_num, by rw [hq1, HKE.out], by rw [hq1]; exact HN⟩
    obtain rfl : k = m := by omega
    have e1 : decide ((k : Int) < k) = false := by simp
    have hrow := HS.out.rk.row
    have hBw := HS.out.pl.dev.bel
    rw [HKF.out] at hrow ⊢
    have HRW := Hidden.mk hrow
    have HBW := Hidden.mk (HB3.out.trans (hBw.mono HB3.out.size))
    have HE1 := Hidden.mk (And.intro (HR3.out.1.below hBw) (HR3.out.2.below hBw))
    have hrt : rightB ((32 * np : Nat) : Int) = true := by
      have := HKL.out.2.len
      rwa [HKL.out.1] at this
    have hgc : 32 * np ≤ c := by have := hrow.le.1; rw [HKL.out.1] at this; exact this
    have HENT : Hidden (∀ W, Below wr.heap.size wr W → Calls Tryz.prog 53 #[.slice (some ⟨g, 0, none⟩) (32 * np) c] W fun e w' => ∃ v, e = .returned v ∧ w'.ownsRow W.heap.size 89 4 v (entriesL KF).length ((entriesL KF).flatMap ecells) ∧ Below W.heap.size W w') := ⟨fun W hW => refEntries_ok _ (32 * np) c KF W HKL.out.1 hrt hgc (HRW.out.rd.below hW)⟩
    have HROO : Hidden (∀ W, Below wr.heap.size wr W → Calls Tryz.prog 55 #[.slice (some ⟨g, 0, none⟩) (32 * np) c] W fun e w' => ∃ v, e = .returned v ∧ w'.ownsRow W.heap.size 150 2 v (rootsL KF).length ((rootsL KF).flatMap rcells) ∧ Below W.heap.size W w') := ⟨fun W hW => refRoots_ok g 0 (32 * np) c KF W HKL.out.1 hrt hgc (HRW.out.rd.below hW)⟩
    have HLE : Hidden ((entriesL KF).length ≤ 1000 ∧ (rootsL KF).length ≤ 1000) := ⟨Nat.le_trans (entsL_len _ _ 40) (by decide), Nat.le_trans (rootsF_len _ _) (by decide)⟩
    rw [HKL.out.1]
    clear hrow hBw hrt hgc HS hlt HR3 HRW HRUN HSUC HKF
    go_wp2_with fail
    refine (HENT.out _ (Below.refl _ _)).mono ?_
    rintro e w10 ⟨v, rfl, ho, hb⟩
    obtain ⟨A10, c10, rfl, -, -⟩ := own_split ho
    have HSE := Hidden.mk (sameEnts_eq A1 A10 c1 c10 (entriesL KF) w10 HLE.out.1 (HE1.out.1.below hb) (own_rdX3 (f := ecells) (fun _ => rfl) rfl ho))
    have HB10 := Hidden.mk hb
    clear ho hb
    go_wp2_with fail
    refine HSE.out.mono ?_
    rintro e w11 ⟨rfl, hb11⟩
    have HB11 := Hidden.mk (HB10.out.trans (hb11.mono HB10.out.size))
    clear hb11 HB10 HSE
    go_wp2_with fail
    refine (HROO.out _ HB11.out).mono ?_
    rintro e w12 ⟨v, rfl, ho, hb⟩
    obtain ⟨A12, c12, rfl, -, -⟩ := own_split ho
    have HB12 := Hidden.mk (HB11.out.trans (hb.mono HB11.out.size))
    have HSE := Hidden.mk (sameRoots_eq A2 A12 c2 c12 (rootsL KF) w12 HLE.out.2 (HE1.out.2.below HB12.out) (own_rdX3 (f := rcells) (fun _ => rfl) rfl ho))
    clear ho hb HB11
    go_wp2_with fail
    refine HSE.out.mono ?_
    rintro e w13 ⟨rfl, hb13⟩
    have HB13 := Hidden.mk (HB12.out.trans (hb13.mono HB12.out.size))
    clear hb13 HB12 HSE HE1
    go_wp2_with fail
    refine (HPM.out _ (HBW.out.trans (HB13.out.mono HBW.out.size))).mono ?_
    rintro e w14 ⟨A3, c3, A4, c4, rfl, hr3, hr4, hb14⟩
    have HB14 := Hidden.mk (HB13.out.trans (hb14.mono HB13.out.size))
    have HE2 := Hidden.mk (And.intro hr3 hr4)
    clear hr3 hr4 hb14 HB13 HPM
    go_wp2_with fail
    refine (HENT.out _ HB14.out).mono ?_
    rintro e w15 ⟨v, rfl, ho, hb⟩
    obtain ⟨A15, c15, rfl, -, -⟩ := own_split ho
    have HSE := Hidden.mk (sameEnts_eq A3 A15 c3 c15 (entriesL KF) w15 HLE.out.1 (HE2.out.1.below hb) (own_rdX3 (f := ecells) (fun _ => rfl) rfl ho))
    have HB15 := Hidden.mk (HB14.out.trans (hb.mono HB14.out.size))
    have HE3 := Hidden.mk (HE2.out.2.below hb)
    clear ho hb HE2 HB14
    go_wp2_with fail
    refine HSE.out.mono ?_
    rintro e w16 ⟨rfl, hb16⟩
    have HB16 := Hidden.mk (HB15.out.trans (hb16.mono HB15.out.size))
    have HE4 := Hidden.mk (HE3.out.below hb16)
    clear hb16 HB15 HSE HE3
    go_wp2_with fail
    refine (HROO.out _ HB16.out).mono ?_
    rintro e w17 ⟨v, rfl, ho, hb⟩
    obtain ⟨A17, c17, rfl, -, -⟩ := own_split ho
    have HB17 := Hidden.mk (HB16.out.trans (hb.mono HB16.out.size))
    have HSE := Hidden.mk (sameRoots_eq A4 A17 c4 c17 (rootsL KF) w17 HLE.out.2 (HE4.out.below hb) (own_rdX3 (f := rcells) (fun _ => rfl) rfl ho))
    clear ho hb HB16 HE4
    go_wp2_with fail
    refine HSE.out.mono ?_
    rintro e w18 ⟨rfl, hb18⟩
    have HB18 := Hidden.mk (HBW.out.trans ((HB17.out.trans (hb18.mono HB17.out.size)).mono HBW.out.size))
    clear hb18 HB17 HSE
    by_cases hz : many = 0
    · subst hz
      go_wp2_with fail
      go_ret
      exact ⟨rfl, HB18.out⟩
    · have q0 : ((many : Int) == 0) = false := by simpa using hz
      have HZ := Hidden.mk (HPZ.out _ HB18.out)
      clear hz
      go_wp2_with fail
      refine HZ.out.mono ?_
      rintro e w19 ⟨A5, c5, A6, c6', rfl, hb19⟩
      have HB19 := Hidden.mk (HB18.out.trans (hb19.mono HB18.out.size))
      clear hb19
      go_wp2_with fail
      go_ret
      exact ⟨rfl, HB19.out⟩
end Go.Proofs.YtoieifphklodoaaGreatDoor
