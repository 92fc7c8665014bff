/- Contracts and plain laws, put together: Play2, StoreTwice1. -/
import Derived.Test.YtijcclpnkfmpnaaGreatStoreTwiceFrameM5
import Derived.Deep.RegionHeld3
/- A store that is played with, the power there: what is kept; a second store beside it; a region's condition made stronger on the way. -/
namespace Go.Proofs.YtijcclpnkfmpnaaGreat
open Go.RowKit Go.Maps Go.ChangeMaps

section
variable {P : Program} {ops : Array Oper} {Q : Exit → Act → World → Prop} {md : Region.Mode} {S S' : World → Prop}
/-- a stronger condition does -/
theorem wpAnyH_strong (h : ∀ w, S' w → S w) : ∀ (fuel : Nat) (listed : Array Bool) (a : Act) (w : World), wpAnyH P md ops Q S' fuel listed a w → wpAnyH P md ops Q S fuel listed a w
  | 0, _, _, _, k => k
  | fuel + 1, _, _, _, k => ⟨k.1, fun i hi => wpOp_mono (fun a' w' k' => ⟨h w' k'.1, wpAnyH_strong h fuel _ a' w' k'.2⟩) (k.2 i hi)⟩
end
/-- a store, its device, the power there -/
structure PlSt (w0 w : World) (F GH : Nat → Prop) (s p d h nn n : Nat) (S : Sto) : Prop where
  dev : DevB w0 w F d S.D
  st : ∃ gk ck, StH w0 w F GH s p d h gk ck S.st n S.l S.K
  ok : StOk nn n S
/-- what an op leaves -/
structure PlM (w0 w w' : World) (F F' GH GH' : Nat → Prop) (s p d h nn n : Nat) (S : Sto) : Prop where
  pl : PlSt w0 w' F' GH' s p d h nn n S
  kp : Keep (fun q => (F q ∨ GH q) ∨ (q = s ∨ q = p)) w w'
  sub : ∀ q, F' q → F q ∨ w.heap.size ≤ q
  nw : ∀ q, GH' q → GH q ∨ w.heap.size ≤ q
section
variable {w0 w w' w1 : World} {F F' GH GH' GA : Nat → Prop} {s p d h nn n sa pa ha gka cka sta : Nat} {S : Sto} {la Ka : Bytes}
theorem PlSt.below (a : PlSt w0 w F GH s p d h nn n S) (hb : Below w.heap.size w w') : PlSt w0 w' F GH s p d h nn n S := by
  obtain ⟨gk, ck, hs⟩ := a.st
  exact ⟨a.dev.below hb, ⟨gk, ck, hs.below hb⟩, a.ok⟩
theorem PlSt.do_ (a : PlSt w0 w F GH s p d h nn n S) (hst : S.st < 4294967295) (o : OpX) (ho : OpOk w0 o) :
    Calls Tryz.prog 24 #[.pointer (some ⟨s, 0, none⟩), opV o] w fun e w' => e = .returned (errV (doS n S o).2) ∧ ∃ F' GH', PlM w0 w w' F F' GH GH' s p d h nn n (doS n S o).1 := by
  obtain ⟨gk, ck, hs⟩ := a.st
  obtain ⟨D, st, l, K⟩ := S
  refine (sdo_any o hs a.dev a.ok.gl a.ok.gk a.ok.ll a.ok.lk a.ok.n2 (Nat.le_of_lt hst) (ho.below a.dev.bel)).mono ?_
  rintro e w1 ⟨he, F', GH', gk', ck', hm⟩
  exact ⟨he, F', GH', ⟨hm.dev, ⟨gk', ck', hm.st⟩, (a.ok.do hst o).1⟩, hm.kp, hm.sub, hm.nw⟩
/-- Commit by itself -/
theorem PlSt.commit (a : PlSt w0 w F GH s p d h nn n S) (hst : S.st < 4294967295) :
    Calls Tryz.prog 25 #[.pointer (some ⟨s, 0, none⟩)] w fun e w' => e = .returned (errV (cmS n S.st S.D S.l S.K).2) ∧ Below w0.heap.size w0 w' ∧ ((cmS n S.st S.D S.l S.K).2 = 0 → ∃ F', PlM w0 w w' F F' GH GH s p d h nn n ⟨(cmS n S.st S.D S.l S.K).1, if (dL S.l S.K n).length ≠ 0 then S.st + 1 else S.st, S.l, S.l⟩) := by
  obtain ⟨gk, ck, hs⟩ := a.st
  obtain ⟨D, st, l, K⟩ := S
  refine (scommit_any hs a.dev a.ok.ll a.ok.lk a.ok.n2 (Nat.le_of_lt hst)).mono ?_
  rintro e w1 ⟨he, F', gk', ck', hn, hm⟩
  refine ⟨he, ?_, fun h0 => ⟨F', ⟨(hm h0).dev, ⟨gk', ck', (hm h0).st⟩, ?_⟩, (hm h0).kp, (hm h0).sub, (hm h0).nw⟩⟩
  · by_cases h0 : (cmS n st D l K).2 = 0
    · exact (hm h0).dev.bel
    · exact (hn h0).dev.bel
  have hd := (a.ok.do hst ⟨6, 0, 0, 0, [], none, 0, []⟩).1
  unfold doS at hd
  rw [if_pos rfl, if_pos h0] at hd
  exact hd
/-- another store, of which no block is one of these -/
structure Beside (w0 w : World) (F GH GA : Nat → Prop) (s p sa pa d ha gka cka sta n : Nat) (la Ka : Bytes) : Prop where
  st : StH w0 w F GA sa pa d ha gka cka sta n la Ka
  ap : ∀ q, (GA q ∨ q = sa ∨ q = pa ∨ q = gka) → ¬ GH q ∧ q ≠ s ∧ q ≠ p
theorem StH.lt4 (a : StH w0 w F GA sa pa d ha gka cka sta n la Ka) : ∀ q, (GA q ∨ q = sa ∨ q = pa ∨ q = gka) → q < w.heap.size ∧ ¬ F q := fun q hq => by
  obtain ⟨l1, l2, l3⟩ := a.lt
  rcases hq with hq | rfl | rfl | rfl
  · exact ⟨a.hp.flt q hq, a.gf q hq⟩
  · exact ⟨l1, a.sf⟩
  · exact ⟨l2, a.pg.2⟩
  · exact ⟨l3, a.kf⟩
theorem Beside.below (a : Beside w0 w F GH GA s p sa pa d ha gka cka sta n la Ka) (hb : Below w.heap.size w w') : Beside w0 w' F GH GA s p sa pa d ha gka cka sta n la Ka := ⟨a.st.below hb, a.ap⟩
theorem Beside.turn (a : Beside w0 w F GH GA s p sa pa d ha gka cka sta n la Ka) (hF : ∀ q, F q → w0.heap.size ≤ q) (hG : ∀ q, GH q → w0.heap.size ≤ q) (hs : w0.heap.size ≤ s) (hp : w0.heap.size ≤ p) (hk : Keep (fun q => (F q ∨ GH q) ∨ (q = s ∨ q = p)) w w') (hsub : ∀ q, F' q → F q ∨ w.heap.size ≤ q) (hnw : ∀ q, GH' q → GH q ∨ w.heap.size ≤ q) : Beside w0 w' F' GH' GA s p sa pa d ha gka cka sta n la Ka :=
  ⟨a.st.keep hk (fun q hq hf => by
    obtain ⟨h1, h2, h3⟩ := a.ap q hq
    rcases hf with (hf | hf) | hf | hf
    · exact (a.st.lt4 q hq).2 hf
    · exact h1 hf
    · exact h2 hf
    · exact h3 hf) (fun q hf => by
    rcases hf with (hf | hf) | hf | hf
    · exact hF q hf
    · exact hG q hf
    · exact hf ▸ hs
    · exact hf ▸ hp) hsub, fun q hq => ⟨fun hg => by
    rcases hnw q hg with h' | h'
    · exact (a.ap q hq).1 h'
    · have := (a.st.lt4 q hq).1; omega, (a.ap q hq).2⟩⟩
theorem Beside.dev (a : Beside w0 w F GH GA s p sa pa d ha gka cka sta n la Ka) (hk : Keep F w w') (hn : ∀ q, F q → w0.heap.size ≤ q) (hF : ∀ q, F' q → F q ∨ w.heap.size ≤ q) : Beside w0 w' F' GH GA s p sa pa d ha gka cka sta n la Ka := ⟨a.st.dev hk hn hF, a.ap⟩
/-- the store is played with, a device of its own is opened -/
theorem PlSt.opened (a : PlSt w0 w F GH s p d h nn n S) {D' : Dv} (hd : DevB w0 w' F' d D') (hk : Keep F w w') (hF : ∀ q, F' q → F q ∨ w.heap.size ≤ q) (ho : StOk nn n ⟨D', S.st, S.l, S.K⟩) : PlSt w0 w' F' GH s p d h nn n ⟨D', S.st, S.l, S.K⟩ := by
  obtain ⟨gk, ck, hs⟩ := a.st
  exact ⟨hd, ⟨gk, ck, hs.dev hk a.dev.new hF⟩, ho⟩
theorem PlSt.open_ (a : PlSt w0 w F GH s p d h nn n S) :
    Calls Tryz.prog 26 #[.pointer (some ⟨d, 0, none⟩)] w fun e w' => ∃ sa pa ha gka cka F' GA, e = .returned (.tuple #[.pointer (some ⟨sa, 0, none⟩), .nilIface]) ∧ SnM w0 w w' F F' GA sa pa d ha gka cka S.st n (openP S.D).1 S.K ∧ PlSt w0 w' F' GH s p d h nn n ⟨(openP S.D).1, S.st, S.l, S.K⟩ ∧ Beside w0 w' F' GH GA s p sa pa d ha gka cka S.st n S.K S.K := by
  obtain ⟨o1, o2, o3, o4, o5, o6, o7, o8⟩ := a.ok.opened
  refine (sopen_ok a.dev o1 o4 o7 o8 o5 o6 S.K o2.kb.symm a.ok.gk).mono ?_
  rintro e w1 ⟨sa, pa, ha, gka, cka, F', GA, he, hm⟩
  obtain ⟨gk, ck, hs⟩ := id a.st
  refine ⟨sa, pa, ha, gka, cka, F', GA, he, hm, a.opened hm.dev hm.kp hm.sub o3, hm.st, fun q hq => ?_⟩
  have hq : w.heap.size ≤ q := by
    rcases hq with hq | rfl | rfl | rfl
    · exact hm.ng q hq
    · exact hm.ns.1
    · exact hm.ns.2.1
    · exact hm.ns.2.2
  obtain ⟨l1, l2, l3⟩ := hs.lt
  exact ⟨fun hg => by have := hs.hp.flt q hg; omega, by omega, by omega⟩
end
end Go.Proofs.YtijcclpnkfmpnaaGreat
/- StoreTwice: the walk. -/
namespace Go.Proofs.YtijcclpnkfmpnaaGreat
open Go.RowKit Go.Maps Go.ChangeMaps

theorem doS_same {n : Nat} {S : Sto} {o : OpX} (h6 : o.what ≠ 6) : (doS n S o).1.D = S.D ∧ (doS n S o).1.st = S.st ∧ (doS n S o).1.K = S.K := by
  unfold doS
  rw [if_neg h6]
  split <;> exact ⟨rfl, rfl, rfl⟩
theorem np64 : 16 = nP (newD 64) := by unfold nP; rw [newD_len]; decide
set_option maxRecDepth 100000 in
set_option maxHeartbeats 8000000 in
theorem storeTwice_walk (OA : Option Addr) (oc : Nat) (L : List OpX) (MA : Option Addr) (mc : Nat) (M : List OpX) (w : World) (hL : RdX ocells 6 w OA L) (hLo : ∀ x ∈ L, OpOk w x) (hM : RdX ocells 6 w MA M) (hMo : ∀ x ∈ M, OpOk w x) :
    Calls Tryz.prog 4 #[.slice OA L.length oc, .slice MA M.length mc] w fun e w' => e = .returned (.bool true) ∧ Below w.heap.size w w' := by
  have HL := Hidden.mk (And.intro hL (And.intro hLo (And.intro hM hMo)))
  have HN := Hidden.mk (dnewB 64 w (by decide) (by decide))
  rw [show ((64 : Nat) : Int) = 64 from rfl] at HN
  obtain ⟨m, hm⟩ : ∃ m, L.length = m := ⟨_, rfl⟩
  obtain ⟨m2, hm2⟩ : ∃ m, M.length = m := ⟨_, rfl⟩
  have HLM := Hidden.mk (And.intro hm hm2)
  rw [hm, hm2]
  clear hL hLo hM hMo hm hm2
  go_enter Tryz.func4, Tryz.ntmps4
  go_wp2_with fail
  refine HN.out.mono ?_
  rintro e w1 ⟨d, F0, rfl, hd⟩
  have HB1 := Hidden.mk hd.bel
  have HC := Hidden.mk (screate_ok 64 16 hd (by decide) (by decide) np64)
  have HOK : Hidden (StOk 64 16 ⟨madeD 64, 2, List.replicate (32 * 16) 0, List.replicate (32 * 16) 0⟩) := ⟨(made_ok 64 (by decide) (by decide) 16 np64).2.2.2.2⟩
  generalize madeD 64 = D0 at *
  generalize List.replicate (32 * 16) (0 : UInt8) = Z0 at *
  clear hd HN
  go_wp2_with fail
  refine HC.out.mono ?_
  rintro e w2 ⟨s, p, h, gk, ck, F1, GH1, rfl, hmk⟩
  have HP : Hidden (PlSt w w2 F1 GH1 s p d h 64 16 ⟨D0, 2, Z0, Z0⟩) := ⟨⟨hmk.dev, ⟨gk, ck, hmk.st⟩, HOK.out⟩⟩
  have HSH := Hidden.mk hmk.st
  have HS0 := Hidden.mk (And.intro hmk.st.s0 hmk.st.p0)
  have hz : Z0.length = 512 := HOK.out.ll
  have q1 : ((Z0.length : Int) != 512) = false := by rw [hz]; decide
  clear hmk HC HOK hz
  go_wp2_with fail
  refine (stheap_any HSH.out).mono ?_
  rintro e w3 ⟨rfl, rfl⟩
  go_wp2_with fail
  refine (hbytes_ok _ _ _ _ _ HSH.out.hp).mono ?_
  rintro e w3 ⟨g3, c3, rfl, -, -, hb3⟩
  have HP3 : Hidden (∃ F GH S, PlSt w w3 F GH s p d h 64 16 S ∧ S.st ≤ 2) := ⟨F1, GH1, _, HP.out.below hb3, Nat.le_refl _⟩
  clear hb3 HP HSH
  obtain ⟨F1', GH1', S1, HP3⟩ := HP3.out
  have HP4 := Hidden.mk HP3
  clear HP3
  go_upto_block 0 with (fail)
  go_cut [] (fun wx => ∃ F GH S, Hidden (PlSt w wx F GH s p d h 64 16 S ∧ S.st ≤ 22))
  case first =>
    go_wp2_with fail
    go_loopg [8] 20 (fun r i wr => ∃ (k : Nat) (F GH : Nat → Prop) (S : Sto), k ≤ 20 ∧ r = 20 - k ∧ i = .int .i64 (k : Int) ∧ Hidden (PlSt w wr F GH s p d h 64 16 S ∧ S.st ≤ 2 + k))
    case atStart => exact ⟨0, F1', GH1', S1, by omega, rfl, rfl, HP4⟩
    case round =>
      obtain ⟨k, F, GH, S, hk, rfl, rfl, hst⟩ := hrel
      have HST := Hidden.mk hst.out
      clear hst HP4
      by_cases hlt : k < m
      · have e1 : decide ((k : Int) < m) = true := by simp; omega
        have e1' : decide (k < m) = true := by simpa using hlt
        by_cases h20 : k < 20
        · have e2 : decide ((k : Int) < 20) = true := by simp; omega
          have e2' : decide (k < 20) = true := by simpa using h20
          have i0 : (0 : Int) ≤ k := by omega
          have i1 : (k : Int) < m := by omega
          have s1 : IntKind.i64.wrap ((k : Int) + 1) = (k : Int) + 1 := IntWalk.i64_in _ (by omega)
          have hkl : k < L.length := by rw [HLM.out.1]; exact hlt
          obtain ⟨pb, off, rfl, hc⟩ := (HL.out.1.below HST.out.1.dev.bel) k hkl
          have x0 := hc 0 _ rfl
          have x1 := hc 1 _ rfl
          have x2 := hc 2 _ rfl
          have x3 := hc 3 _ rfl
          have x4 := hc 4 _ rfl
          have x5 := hc 5 _ rfl
          rw [Nat.add_zero] at x0
          have HDO := Hidden.mk (HST.out.1.do_ (by have := HST.out.2; omega) L[k] (HL.out.2.1 _ (List.getElem_mem hkl)))
          have HSD : Hidden ((doS 16 S L[k]).1.st ≤ 2 + (k + 1)) := ⟨by have := (HST.out.1.ok.do (by have := HST.out.2; omega) L[k]).2; have := HST.out.2; omega⟩
          unfold opV at HDO
          generalize doS 16 S L[k] = r at *
          generalize L[k] = o at *
          obtain ⟨what, handle, at_, len, name, bA, bc, body⟩ := o
          dsimp only at *
          clear hc
          go_wp2_with fail
          refine HDO.out.mono ?_
          rintro e w5 ⟨rfl, F5, GH5, hm5⟩
          have HN : Hidden (PlSt w w5 F5 GH5 s p d h 64 16 r.1 ∧ r.1.st ≤ 2 + (k + 1)) := ⟨hm5.pl, HSD.out⟩
          clear hm5 HDO
          go_wp2_with fail
          go_roundg (20 - (k + 1))
          case measure => omega
          case rel => exact ⟨k + 1, F5, GH5, r.1, by omega, rfl, by go_num, HN⟩
        · have e2 : decide ((k : Int) < 20) = false := by simp; omega
          have e2' : decide (k < 20) = false := by simpa using h20
          clear h20
          go_wp2_with fail
          go_meet
          exact ⟨F, GH, S, ⟨HST.out.1, by have := HST.out.2; omega⟩⟩
      · have e1 : decide ((k : Int) < m) = false := by simp; omega
        have e1' : decide (k < m) = false := by simpa using hlt
        clear hlt
        go_wp2_with fail
        go_meet
        exact ⟨F, GH, S, ⟨HST.out.1, by have := HST.out.2; omega⟩⟩
  case rest =>
  obtain ⟨F2, GH2, S2, hcut⟩ := hcut
  have HS2 := Hidden.mk hcut.out
  obtain ⟨wA, rfl⟩ : ∃ wA : World, wA = wc := ⟨_, rfl⟩
  have HCM := Hidden.mk (HS2.out.1.commit (by have := HS2.out.2; omega))
  obtain ⟨R, hR⟩ : ∃ R, cmS 16 S2.st S2.D S2.l S2.K = R := ⟨_, rfl⟩
  rw [hR] at HCM
  clear hcut HP4 hR
  go_wp2_with fail
  refine HCM.out.mono ?_
  rintro e w4 ⟨rfl, hbl4, hm4⟩
  have HM4 := Hidden.mk hm4
  have HB4 := Hidden.mk hbl4
  clear hm4 hbl4 HCM
  by_cases hz : R.2 = 0
  rotate_left
  · rw [errV_pos hz]
    clear hz HM4
    go_wp2_with fail
    go_ret
    exact ⟨rfl, HB4.out⟩
  obtain ⟨F3, hm3⟩ := HM4.out hz
  have HS3 := Hidden.mk hm3.pl
  have hst3 : (if (dL S2.l S2.K 16).length ≠ 0 then S2.st + 1 else S2.st) ≤ 23 := by have := HS2.out.2; split <;> omega
  generalize (if (dL S2.l S2.K 16).length ≠ 0 then S2.st + 1 else S2.st) = st3 at *
  rw [hz, errV0]
  obtain ⟨S3, hS3⟩ : ∃ S3 : Sto, S3 = ⟨R.1, st3, S2.l, S2.l⟩ := ⟨_, rfl⟩
  rw [← hS3] at HS3
  have HT3 : Hidden (S3.st ≤ 23) := ⟨by rw [hS3]; exact hst3⟩
  clear hS3 hm3 hst3 HM4 HS2 hz
  have HOP := Hidden.mk HS3.out.open_
  go_wp2_with fail
  refine HOP.out.mono ?_
  rintro e w5 ⟨sa, pa, ha, gka, cka, F5, GA, rfl, -, hp5, hb5⟩
  obtain ⟨S5, hS5⟩ : ∃ S5 : Sto, S5 = ⟨(openP S3.D).1, S3.st, S3.l, S3.K⟩ := ⟨_, rfl⟩
  rw [← hS5] at hp5
  have HP5 := Hidden.mk hp5
  have HA5 : Hidden (Beside w w5 F5 GH2 GA s p sa pa d ha gka cka S5.st 16 S5.K S5.K ∧ S5.st ≤ 23) := ⟨by rw [hS5]; exact ⟨hb5, HT3.out⟩⟩
  clear hS5 hp5 hb5 HOP HT3 HS3
  obtain ⟨st1, hst1⟩ : ∃ x, S5.st = x := ⟨_, rfl⟩
  obtain ⟨K1, hK1⟩ : ∃ x, S5.K = x := ⟨_, rfl⟩
  obtain ⟨D1, hD1⟩ : ∃ x, S5.D = x := ⟨_, rfl⟩
  rw [hst1, hK1] at HA5
  have HP6 : Hidden (PlSt w w5 F5 GH2 s p d h 64 16 S5 ∧ S5.st = st1 ∧ S5.D = D1 ∧ S5.K = K1 ∧ Beside w w5 F5 GH2 GA s p sa pa d ha gka cka st1 16 K1 K1) := ⟨HP5.out, hst1, hD1, hK1, HA5.out.1⟩
  have HT1 := Hidden.mk HA5.out.2
  have HK1 : Hidden (K1.length = 32 * 16) := ⟨by rw [← hK1]; exact HP5.out.ok.lk⟩
  have HG1 : Hidden (Good K1) := ⟨by rw [← hK1]; exact HP5.out.ok.gk⟩
  clear HP5 HA5 hst1 hK1 hD1
  go_upto_block 2 with (fail)
  go_cut [] (fun wx => ∃ F GH S, Hidden (PlSt w wx F GH s p d h 64 16 S ∧ S.st = st1 ∧ S.D = D1 ∧ S.K = K1 ∧ Beside w wx F GH GA s p sa pa d ha gka cka st1 16 K1 K1))
  case first =>
    go_wp2_with fail
    go_loopg [11] 20 (fun r i wr => ∃ (k : Nat) (F GH : Nat → Prop) (S : Sto), k ≤ 20 ∧ r = 20 - k ∧ i = .int .i64 (k : Int) ∧ Hidden (PlSt w wr F GH s p d h 64 16 S ∧ S.st = st1 ∧ S.D = D1 ∧ S.K = K1 ∧ Beside w wr F GH GA s p sa pa d ha gka cka st1 16 K1 K1))
    case atStart => exact ⟨0, F5, GH2, S5, by omega, rfl, rfl, HP6⟩
    case round =>
      obtain ⟨k, F, GH, S, hk, rfl, rfl, hst⟩ := hrel
      have HST := Hidden.mk hst.out
      clear hst HP6
      by_cases hlt : k < m2
      · have e1 : decide ((k : Int) < m2) = true := by simp; omega
        have e1' : decide (k < m2) = true := by simpa using hlt
        by_cases h20 : k < 20
        · have e2 : decide ((k : Int) < 20) = true := by simp; omega
          have e2' : decide (k < 20) = true := by simpa using h20
          have i0 : (0 : Int) ≤ k := by omega
          have i1 : (k : Int) < m2 := by omega
          have s1 : IntKind.i64.wrap ((k : Int) + 1) = (k : Int) + 1 := IntWalk.i64_in _ (by omega)
          have hkl : k < M.length := by rw [HLM.out.2]; exact hlt
          obtain ⟨pb, off, rfl, hc⟩ := (HL.out.2.2.1.below HST.out.1.dev.bel) k hkl
          have x0 := hc 0 _ rfl
          have x1 := hc 1 _ rfl
          have x2 := hc 2 _ rfl
          have x3 := hc 3 _ rfl
          have x4 := hc 4 _ rfl
          have x5 := hc 5 _ rfl
          rw [Nat.add_zero] at x0
          have hbd : S.st < 4294967295 := by have := HST.out.2.1; have := HT1.out; omega
          have HDO := Hidden.mk (HST.out.1.do_ hbd M[k] (HL.out.2.2.2 _ (List.getElem_mem hkl)))
          have HSM : Hidden (M[k].what ≠ 6 → (doS 16 S M[k]).1.D = S.D ∧ (doS 16 S M[k]).1.st = S.st ∧ (doS 16 S M[k]).1.K = S.K) := ⟨fun h6 => doS_same h6⟩
          unfold opV at HDO
          generalize doS 16 S M[k] = r at *
          generalize M[k] = o at *
          obtain ⟨what, handle, at_, len, name, bA, bc, body⟩ := o
          dsimp only at *
          clear hc hbd
          by_cases h6 : what = 6
          · have e6 : (what != 6) = false := by simp [h6]
            clear h6 HSM HDO
            go_wp2_with fail
            go_roundg (20 - (k + 1))
            case measure => omega
            case rel => exact ⟨k + 1, F, GH, S, by omega, rfl, by go_num, HST⟩
          · have e6 : (what != 6) = true := by simpa using h6
            have HSS := Hidden.mk (HSM.out h6)
            clear h6 HSM
            go_wp2_with fail
            refine HDO.out.mono ?_
            rintro e w6 ⟨rfl, F6, GH6, hm6⟩
            have HN : Hidden (PlSt w w6 F6 GH6 s p d h 64 16 r.1 ∧ r.1.st = st1 ∧ r.1.D = D1 ∧ r.1.K = K1 ∧ Beside w w6 F6 GH6 GA s p sa pa d ha gka cka st1 16 K1 K1) := ⟨by
              obtain ⟨b1, b2, b3, b4, b5⟩ := HST.out
              obtain ⟨c1, c2, c3⟩ := HSS.out
              obtain ⟨gk_, ck_, hs_⟩ := b1.st
              exact ⟨hm6.pl, c2.trans b2, c1.trans b3, c3.trans b4, b5.turn b1.dev.new hs_.hp.new hs_.s0 hs_.p0 hm6.kp hm6.sub hm6.nw⟩⟩
            clear hm6 HDO HSS HST
            go_wp2_with fail
            go_roundg (20 - (k + 1))
            case measure => omega
            case rel => exact ⟨k + 1, F6, GH6, r.1, by omega, rfl, by go_num, HN⟩
        · have e2 : decide ((k : Int) < 20) = false := by simp; omega
          have e2' : decide (k < 20) = false := by simpa using h20
          clear h20
          go_wp2_with fail
          go_meet
          exact ⟨F, GH, S, HST⟩
      · have e1 : decide ((k : Int) < m2) = false := by simp; omega
        have e1' : decide (k < m2) = false := by simpa using hlt
        clear hlt
        go_wp2_with fail
        go_meet
        exact ⟨F, GH, S, HST⟩
  case rest =>
  obtain ⟨F7, GH7, S7, hcut⟩ := hcut
  have HS7 := Hidden.mk hcut.out
  obtain ⟨wB, rfl⟩ : ∃ wB : World, wB = wc := ⟨_, rfl⟩
  have HOB := Hidden.mk HS7.out.1.open_
  clear hcut HP6
  go_wp2_with fail
  refine HOB.out.mono ?_
  rintro e w8 ⟨sb, pb, hb, gkb, ckb, F8, GB, rfl, hsn, hp8, hb8⟩
  have HX8 : Hidden (Below w.heap.size w w8 ∧ (∀ W, Below w8.heap.size w8 W → (∃ gk ck, StH w W F8 GH7 s p d h gk ck st1 16 S7.l K1) ∧ StH w W F8 GA sa pa d ha gka cka st1 16 K1 K1 ∧ StH w W F8 GB sb pb d hb gkb ckb st1 16 K1 K1) ∧ DevB w w8 F8 d (openP D1).1 ∧ Beside w w8 F8 GH7 GA s p sa pa d ha gka cka st1 16 K1 K1) := ⟨by
    obtain ⟨b1, b2, b3, b4, b5⟩ := HS7.out
    have ha8 := b5.dev hsn.kp b1.dev.new hsn.sub
    obtain ⟨gk_, ck_, hs_⟩ := hp8.st
    have hdv := hp8.dev
    have hb8' := hb8.st
    dsimp only at hs_ hdv
    rw [b2, b4] at hs_
    rw [b3] at hdv
    rw [b2, b4] at hb8'
    exact ⟨hp8.dev.bel, fun W hW => ⟨⟨gk_, ck_, hs_.below hW⟩, ha8.st.below hW, hb8'.below hW⟩, hdv, ha8⟩⟩
  clear hsn hp8 hb8 HOB HS7
  obtain ⟨gks, cks, hss⟩ := (HX8.out.2.1 _ (Below.refl _ _)).1
  have HXS : Hidden (∀ W, Below w8.heap.size w8 W → StH w W F8 GH7 s p d h gks cks st1 16 S7.l K1) := ⟨fun W hW => hss.below hW⟩
  have HXA : Hidden (∀ W, Below w8.heap.size w8 W → StH w W F8 GA sa pa d ha gka cka st1 16 K1 K1) := ⟨fun W hW => (HX8.out.2.1 W hW).2.1⟩
  have HXB : Hidden (∀ W, Below w8.heap.size w8 W → StH w W F8 GB sb pb d hb gkb ckb st1 16 K1 K1) := ⟨fun W hW => (HX8.out.2.1 W hW).2.2⟩
  have eK : (K1 == K1) = true := beq_self_eq_true K1
  have eK' : (K1 != K1) = false := bne_self_eq_false K1
  have hB0 : Below w8.heap.size w8 w8.drew := (Below.refl _ _).drew
  clear hss
  go_upto_region 20 with (fail)
  go_cut [114] (fun c wx => c = .bool false ∧ Below w8.heap.size w8 wx)
  case first =>
    as_aux_lemma =>
      refine wp_region_held_drew (S := fun _ => True) (by kernel_rfl) trivial (fun hHeld => ?_)
      refine wpAnyH_take (i := 0) (oi := { dst := some 85, op := Op.move (Operand.tmp 10), type := 32, pos := "law.go:500", after := #[], guard := none }) (v := ?_) rfl (by kernel_rfl) (by kernel_rfl) (by kernel_rfl) (fun _ _ _ h => h) (Or.inl ⟨by rfl, ?_⟩) hHeld ?_
      rotate_left
      · intro w_ hSw
        go_simp
        try with_reducible rfl
      try simp only [Act.put, List.setIfInBounds_toArray, List.set_cons_zero, List.set_cons_succ]
      refine wpAnyH_take (i := 1) (oi := { dst := some 86, op := Op.binOp BinOp.neq 32 (Operand.tmp 85) (Operand.const Go.Value.nilIface) 32, type := 4, pos := "law.go:500", after := #[{ on := 0, ground := Ground.data }], guard := none }) (v := ?_) rfl (by kernel_rfl) (by kernel_rfl) (by kernel_rfl) (fun _ _ _ h => h) (Or.inl ⟨by rfl, ?_⟩) hHeld ?_
      rotate_left
      · intro w_ hSw
        go_simp
        try with_reducible rfl
      try simp only [Act.put, List.setIfInBounds_toArray, List.set_cons_zero, List.set_cons_succ]
      refine wpAnyH_take (i := 2) (oi := { dst := some 87, op := Op.move (Operand.tmp 86), type := 4, pos := "law.go:500", after := #[{ on := 1, ground := Ground.data }], guard := none }) (v := ?_) rfl (by kernel_rfl) (by kernel_rfl) (by kernel_rfl) (fun _ _ _ h => h) (Or.inl ⟨by rfl, ?_⟩) hHeld ?_
      rotate_left
      · intro w_ hSw
        go_simp
        try with_reducible rfl
      try simp only [Act.put, List.setIfInBounds_toArray, List.set_cons_zero, List.set_cons_succ]
      refine wpAnyH_take (i := 3) (oi := { dst := some 88, op := Op.move (Operand.tmp 13), type := 32, pos := "law.go:500", after := #[{ on := 2, ground := Ground.guard }], guard := some (2, false) }) (v := ?_) rfl (by kernel_rfl) (by kernel_rfl) (by kernel_rfl) (fun _ _ _ h => h) (Or.inl ⟨by rfl, ?_⟩) hHeld ?_
      rotate_left
      · intro w_ hSw
        go_simp
        try with_reducible rfl
      try simp only [Act.put, List.setIfInBounds_toArray, List.set_cons_zero, List.set_cons_succ]
      refine wpAnyH_take (i := 4) (oi := { dst := some 89, op := Op.binOp BinOp.neq 32 (Operand.tmp 88) (Operand.const Go.Value.nilIface) 32, type := 4, pos := "law.go:500", after := #[{ on := 3, ground := Ground.data }, { on := 2, ground := Ground.guard }], guard := some (2, false) }) (v := ?_) rfl (by kernel_rfl) (by kernel_rfl) (by kernel_rfl) (fun _ _ _ h => h) (Or.inl ⟨by rfl, ?_⟩) hHeld ?_
      rotate_left
      · intro w_ hSw
        go_simp
        try with_reducible rfl
      try simp only [Act.put, List.setIfInBounds_toArray, List.set_cons_zero, List.set_cons_succ]
      refine wpAnyH_take (i := 5) (oi := { dst := some 90, op := Op.pick (Operand.tmp 87) (Operand.const (Go.Value.bool true)) (Operand.tmp 89), type := 4, pos := "law.go:500", after := #[{ on := 2, ground := Ground.data }, { on := 4, ground := Ground.data }], guard := none }) (v := ?_) rfl (by kernel_rfl) (by kernel_rfl) (by kernel_rfl) (fun _ _ _ h => h) (Or.inl ⟨by rfl, ?_⟩) hHeld ?_
      rotate_left
      · intro w_ hSw
        go_simp
        try with_reducible rfl
      try simp only [Act.put, List.setIfInBounds_toArray, List.set_cons_zero, List.set_cons_succ]
      refine wpAnyH_take (i := 6) (oi := { dst := some 91, op := Op.move (Operand.tmp 90), type := 4, pos := "law.go:500", after := #[{ on := 5, ground := Ground.data }, { on := 2, ground := Ground.chain }], guard := none }) (v := ?_) rfl (by kernel_rfl) (by kernel_rfl) (by kernel_rfl) (fun _ _ _ h => h) (Or.inl ⟨by rfl, ?_⟩) hHeld ?_
      rotate_left
      · intro w_ hSw
        go_simp
        try with_reducible rfl
      try simp only [Act.put, List.setIfInBounds_toArray, List.set_cons_zero, List.set_cons_succ]
      refine wpAnyH_take (i := 7) (oi := { dst := some 92, op := Op.move (Operand.tmp 9), type := 57, pos := "law.go:500", after := #[{ on := 6, ground := Ground.guard }], guard := some (6, false) }) (v := ?_) rfl (by kernel_rfl) (by kernel_rfl) (by kernel_rfl) (fun _ _ _ h => h) (Or.inl ⟨by rfl, ?_⟩) hHeld ?_
      rotate_left
      · intro w_ hSw
        go_simp
        try with_reducible rfl
      try simp only [Act.put, List.setIfInBounds_toArray, List.set_cons_zero, List.set_cons_succ]
      refine wpAnyH_take (i := 11) (oi := { dst := some 96, op := Op.move (Operand.tmp 12), type := 57, pos := "law.go:500", after := #[{ on := 6, ground := Ground.guard }], guard := some (6, false) }) (v := ?_) rfl (by kernel_rfl) (by kernel_rfl) (by kernel_rfl) (fun _ _ _ h => h) (Or.inl ⟨by rfl, ?_⟩) hHeld ?_
      rotate_left
      · intro w_ hSw
        go_simp
        try with_reducible rfl
      try simp only [Act.put, List.setIfInBounds_toArray, List.set_cons_zero, List.set_cons_succ]
      refine wpAnyH_ready (rs := [8]) (by kernel_rfl) (by simp) ?_
      refine AllReadyH.cons (o := { dst := some 93, op := Op.call { callee := Callee.value (Operand.func 23), args := #[Operand.tmp 92], argTypes := #[57] }, type := 25, pos := "law.go:500", after := #[{ on := 7, ground := Ground.data }, { on := 6, ground := Ground.chain }, { on := 6, ground := Ground.guard }], guard := some (6, false) }) rfl (fun K hK => ?_) (AllReadyH.nil)
      rw [if_pos (by rfl)]
      go_simp
      go_at_call 23
      refine (stheap_any (HXA.out _ (hB0))).mono ?_
      rintro e w_9 ⟨rfl, rfl⟩
      dsimp only
      refine hK.out _ _ (hHeld) (fun hHeld => ?_)
      clear hK K
      try simp only [Act.put, List.setIfInBounds_toArray, List.set_cons_zero, List.set_cons_succ]
      refine wpAnyH_ready (rs := [9]) (by kernel_rfl) (by simp) ?_
      refine AllReadyH.cons (o := { dst := some 94, op := Op.call { callee := Callee.value (Operand.func 10), args := #[Operand.tmp 93], argTypes := #[25] }, type := 22, pos := "law.go:500", after := #[{ on := 8, ground := Ground.data }, { on := 8, ground := Ground.chain }, { on := 6, ground := Ground.guard }], guard := some (6, false) }) rfl (fun K hK => ?_) (AllReadyH.nil)
      rw [if_pos (by rfl)]
      go_simp
      go_at_call 10
      refine (hbytes_ok _ _ _ _ _ (HXA.out _ (hB0)).hp).mono ?_
      rintro e wza ⟨gza, cza, rfl, -, hrza, hbza⟩
      have hBza := (hB0).trans (hbza.mono (hB0).size)
      dsimp only
      refine hK.out _ _ (trivial) (fun hHeld => ?_)
      clear hK K
      try simp only [Act.put, List.setIfInBounds_toArray, List.set_cons_zero, List.set_cons_succ]
      refine wpAnyH_strong (S' := fun W => Row W 5 gza cza K1 ∧ True) (fun _ h => h.2) _ _ _ _ ?_
      replace hHeld := And.intro hrza hHeld
      refine wpAnyH_take (i := 10) (oi := { dst := some 95, op := Op.convert 22 9 (Operand.tmp 94), type := 9, pos := "law.go:500", after := #[{ on := 9, ground := Ground.data }, { on := 6, ground := Ground.guard }], guard := some (6, false) }) (v := ?_) rfl (by kernel_rfl) (by kernel_rfl) (by kernel_rfl) (fun _ _ _ h => h) (Or.inl ⟨by rfl, ?_⟩) hHeld ?_
      rotate_left
      · intro w_ hSw
        have hcv_ := conv_text w_ (some ⟨gza, 0, none⟩) (K1).length cza (K1) rfl hSw.1.rd
        go_simp
        try with_reducible rfl
      try simp only [Act.put, List.setIfInBounds_toArray, List.set_cons_zero, List.set_cons_succ]
      refine wpAnyH_ready (rs := [12]) (by kernel_rfl) (by simp) ?_
      refine AllReadyH.cons (o := { dst := some 97, op := Op.call { callee := Callee.value (Operand.func 23), args := #[Operand.tmp 96], argTypes := #[57] }, type := 25, pos := "law.go:500", after := #[{ on := 11, ground := Ground.data }, { on := 9, ground := Ground.chain }, { on := 6, ground := Ground.guard }], guard := some (6, false) }) rfl (fun K hK => ?_) (AllReadyH.nil)
      rw [if_pos (by rfl)]
      go_simp
      go_at_call 23
      refine (stheap_any (HXB.out _ (hBza))).mono ?_
      rintro e w_9 ⟨rfl, rfl⟩
      dsimp only
      refine hK.out _ _ (hHeld) (fun hHeld => ?_)
      clear hK K
      try simp only [Act.put, List.setIfInBounds_toArray, List.set_cons_zero, List.set_cons_succ]
      refine wpAnyH_ready (rs := [13]) (by kernel_rfl) (by simp) ?_
      refine AllReadyH.cons (o := { dst := some 98, op := Op.call { callee := Callee.value (Operand.func 10), args := #[Operand.tmp 97], argTypes := #[25] }, type := 22, pos := "law.go:500", after := #[{ on := 12, ground := Ground.data }, { on := 12, ground := Ground.chain }, { on := 6, ground := Ground.guard }], guard := some (6, false) }) rfl (fun K hK => ?_) (AllReadyH.nil)
      rw [if_pos (by rfl)]
      go_simp
      go_at_call 10
      refine (hbytes_ok _ _ _ _ _ (HXB.out _ (hBza)).hp).mono ?_
      rintro e wzb ⟨gzb, czb, rfl, -, hrzb, hbzb⟩
      have hBzb := (hBza).trans (hbzb.mono (hBza).size)
      dsimp only
      refine hK.out _ _ (⟨hHeld.1.below hbzb hHeld.1.lt, trivial⟩) (fun hHeld => ?_)
      clear hK K
      try simp only [Act.put, List.setIfInBounds_toArray, List.set_cons_zero, List.set_cons_succ]
      refine wpAnyH_strong (S' := fun W => Row W 5 gzb czb K1 ∧ (Row W 5 gza cza K1 ∧ True)) (fun _ h => h.2) _ _ _ _ ?_
      replace hHeld := And.intro hrzb hHeld
      refine wpAnyH_take (i := 14) (oi := { dst := some 99, op := Op.convert 22 9 (Operand.tmp 98), type := 9, pos := "law.go:500", after := #[{ on := 13, ground := Ground.data }, { on := 6, ground := Ground.guard }], guard := some (6, false) }) (v := ?_) rfl (by kernel_rfl) (by kernel_rfl) (by kernel_rfl) (fun _ _ _ h => h) (Or.inl ⟨by rfl, ?_⟩) hHeld ?_
      rotate_left
      · intro w_ hSw
        have hcv_ := conv_text w_ (some ⟨gzb, 0, none⟩) (K1).length czb (K1) rfl hSw.1.rd
        go_simp
        try with_reducible rfl
      try simp only [Act.put, List.setIfInBounds_toArray, List.set_cons_zero, List.set_cons_succ]
      refine wpAnyH_take (i := 15) (oi := { dst := some 100, op := Op.binOp BinOp.neq 9 (Operand.tmp 95) (Operand.tmp 99) 9, type := 4, pos := "law.go:500", after := #[{ on := 10, ground := Ground.data }, { on := 14, ground := Ground.data }, { on := 6, ground := Ground.guard }], guard := some (6, false) }) (v := ?_) rfl (by kernel_rfl) (by kernel_rfl) (by kernel_rfl) (fun _ _ _ h => h) (Or.inl ⟨by rfl, ?_⟩) hHeld ?_
      rotate_left
      · intro w_ hSw
        go_simp
        try with_reducible rfl
      try simp only [Act.put, List.setIfInBounds_toArray, List.set_cons_zero, List.set_cons_succ]
      refine wpAnyH_take (i := 16) (oi := { dst := some 101, op := Op.pick (Operand.tmp 91) (Operand.const (Go.Value.bool true)) (Operand.tmp 100), type := 4, pos := "law.go:500", after := #[{ on := 6, ground := Ground.data }, { on := 15, ground := Ground.data }], guard := none }) (v := ?_) rfl (by kernel_rfl) (by kernel_rfl) (by kernel_rfl) (fun _ _ _ h => h) (Or.inl ⟨by rfl, ?_⟩) hHeld ?_
      rotate_left
      · intro w_ hSw
        go_simp
        try with_reducible rfl
      try simp only [Act.put, List.setIfInBounds_toArray, List.set_cons_zero, List.set_cons_succ]
      refine wpAnyH_take (i := 17) (oi := { dst := some 102, op := Op.move (Operand.tmp 101), type := 4, pos := "law.go:500", after := #[{ on := 16, ground := Ground.data }, { on := 13, ground := Ground.chain }], guard := none }) (v := ?_) rfl (by kernel_rfl) (by kernel_rfl) (by kernel_rfl) (fun _ _ _ h => h) (Or.inl ⟨by rfl, ?_⟩) hHeld ?_
      rotate_left
      · intro w_ hSw
        go_simp
        try with_reducible rfl
      try simp only [Act.put, List.setIfInBounds_toArray, List.set_cons_zero, List.set_cons_succ]
      refine wpAnyH_take (i := 18) (oi := { dst := some 103, op := Op.move (Operand.tmp 9), type := 57, pos := "law.go:500", after := #[{ on := 17, ground := Ground.guard }], guard := some (17, false) }) (v := ?_) rfl (by kernel_rfl) (by kernel_rfl) (by kernel_rfl) (fun _ _ _ h => h) (Or.inl ⟨by rfl, ?_⟩) hHeld ?_
      rotate_left
      · intro w_ hSw
        go_simp
        try with_reducible rfl
      try simp only [Act.put, List.setIfInBounds_toArray, List.set_cons_zero, List.set_cons_succ]
      refine wpAnyH_take (i := 20) (oi := { dst := some 105, op := Op.move (Operand.tmp 7), type := 57, pos := "law.go:500", after := #[{ on := 17, ground := Ground.guard }], guard := some (17, false) }) (v := ?_) rfl (by kernel_rfl) (by kernel_rfl) (by kernel_rfl) (fun _ _ _ h => h) (Or.inl ⟨by rfl, ?_⟩) hHeld ?_
      rotate_left
      · intro w_ hSw
        go_simp
        try with_reducible rfl
      try simp only [Act.put, List.setIfInBounds_toArray, List.set_cons_zero, List.set_cons_succ]
      refine wpAnyH_ready (rs := [19]) (by kernel_rfl) (by simp) ?_
      refine AllReadyH.cons (o := { dst := some 104, op := Op.call { callee := Callee.value (Operand.func 27), args := #[Operand.tmp 103], argTypes := #[57] }, type := 3, pos := "law.go:500", after := #[{ on := 18, ground := Ground.data }, { on := 17, ground := Ground.chain }, { on := 17, ground := Ground.guard }], guard := some (17, false) }) rfl (fun K hK => ?_) (AllReadyH.nil)
      rw [if_pos (by rfl)]
      go_simp
      go_at_call 27
      refine (sstamp_any (HXA.out _ (hBzb))).mono ?_
      rintro e w_9 ⟨rfl, rfl⟩
      dsimp only
      refine hK.out _ _ (hHeld) (fun hHeld => ?_)
      clear hK K
      try simp only [Act.put, List.setIfInBounds_toArray, List.set_cons_zero, List.set_cons_succ]
      refine wpAnyH_ready (rs := [21]) (by kernel_rfl) (by simp) ?_
      refine AllReadyH.cons (o := { dst := some 106, op := Op.call { callee := Callee.value (Operand.func 27), args := #[Operand.tmp 105], argTypes := #[57] }, type := 3, pos := "law.go:500", after := #[{ on := 20, ground := Ground.data }, { on := 19, ground := Ground.chain }, { on := 17, ground := Ground.guard }], guard := some (17, false) }) rfl (fun K hK => ?_) (AllReadyH.nil)
      rw [if_pos (by rfl)]
      go_simp
      go_at_call 27
      refine (sstamp_any (HXS.out _ (hBzb))).mono ?_
      rintro e w_9 ⟨rfl, rfl⟩
      dsimp only
      refine hK.out _ _ (hHeld) (fun hHeld => ?_)
      clear hK K
      try simp only [Act.put, List.setIfInBounds_toArray, List.set_cons_zero, List.set_cons_succ]
      refine wpAnyH_take (i := 22) (oi := { dst := some 107, op := Op.binOp BinOp.neq 3 (Operand.tmp 104) (Operand.tmp 106) 3, type := 4, pos := "law.go:500", after := #[{ on := 19, ground := Ground.data }, { on := 21, ground := Ground.data }, { on := 17, ground := Ground.guard }], guard := some (17, false) }) (v := ?_) rfl (by kernel_rfl) (by kernel_rfl) (by kernel_rfl) (fun _ _ _ h => h) (Or.inl ⟨by rfl, ?_⟩) hHeld ?_
      rotate_left
      · intro w_ hSw
        go_simp
        try with_reducible rfl
      try simp only [Act.put, List.setIfInBounds_toArray, List.set_cons_zero, List.set_cons_succ]
      refine wpAnyH_take (i := 23) (oi := { dst := some 108, op := Op.pick (Operand.tmp 102) (Operand.const (Go.Value.bool true)) (Operand.tmp 107), type := 4, pos := "law.go:500", after := #[{ on := 17, ground := Ground.data }, { on := 22, ground := Ground.data }], guard := none }) (v := ?_) rfl (by kernel_rfl) (by kernel_rfl) (by kernel_rfl) (fun _ _ _ h => h) (Or.inl ⟨by rfl, ?_⟩) hHeld ?_
      rotate_left
      · intro w_ hSw
        go_simp
        try with_reducible rfl
      try simp only [Act.put, List.setIfInBounds_toArray, List.set_cons_zero, List.set_cons_succ]
      refine wpAnyH_take (i := 24) (oi := { dst := some 109, op := Op.move (Operand.tmp 108), type := 4, pos := "law.go:500", after := #[{ on := 23, ground := Ground.data }, { on := 21, ground := Ground.chain }], guard := none }) (v := ?_) rfl (by kernel_rfl) (by kernel_rfl) (by kernel_rfl) (fun _ _ _ h => h) (Or.inl ⟨by rfl, ?_⟩) hHeld ?_
      rotate_left
      · intro w_ hSw
        go_simp
        try with_reducible rfl
      try simp only [Act.put, List.setIfInBounds_toArray, List.set_cons_zero, List.set_cons_succ]
      refine wpAnyH_take (i := 25) (oi := { dst := some 110, op := Op.move (Operand.tmp 9), type := 57, pos := "law.go:500", after := #[{ on := 24, ground := Ground.guard }], guard := some (24, false) }) (v := ?_) rfl (by kernel_rfl) (by kernel_rfl) (by kernel_rfl) (fun _ _ _ h => h) (Or.inl ⟨by rfl, ?_⟩) hHeld ?_
      rotate_left
      · intro w_ hSw
        go_simp
        try with_reducible rfl
      try simp only [Act.put, List.setIfInBounds_toArray, List.set_cons_zero, List.set_cons_succ]
      refine wpAnyH_ready (rs := [26]) (by kernel_rfl) (by simp) ?_
      refine AllReadyH.cons (o := { dst := some 111, op := Op.call { callee := Callee.value (Operand.func 28), args := #[Operand.tmp 110], argTypes := #[57] }, type := 24, pos := "law.go:500", after := #[{ on := 25, ground := Ground.data }, { on := 24, ground := Ground.chain }, { on := 24, ground := Ground.guard }], guard := some (24, false) }) rfl (fun K hK => ?_) (AllReadyH.nil)
      rw [if_pos (by rfl)]
      go_simp
      go_at_call 28
      refine (sdirty_any (HXA.out _ (hBzb)) HK1.out HK1.out (by decide)).mono ?_
      rintro e w30 ⟨v30, rfl, ho30, hb30⟩
      rw [dL_same] at ho30
      obtain ⟨A30, c30, rfl, -, -⟩ := own_split ho30
      have hB30 := (hBzb).trans (hb30.mono (hBzb).size)
      dsimp only
      refine hK.out _ _ (⟨hHeld.1.below hb30 hHeld.1.lt, hHeld.2.1.below hb30 hHeld.2.1.lt, trivial⟩) (fun hHeld => ?_)
      clear hK K
      try simp only [Act.put, List.setIfInBounds_toArray, List.set_cons_zero, List.set_cons_succ]
      refine wpAnyH_take (i := 27) (oi := { dst := some 112, op := Op.call { callee := Callee.builtin Go.Builtin.len, args := #[Operand.tmp 111], argTypes := #[24] }, type := 3, pos := "law.go:500", after := #[{ on := 26, ground := Ground.data }, { on := 24, ground := Ground.guard }], guard := some (24, false) }) (v := ?_) rfl (by kernel_rfl) (by kernel_rfl) (by kernel_rfl) (fun _ _ _ h => h) (Or.inl ⟨by rfl, ?_⟩) hHeld ?_
      rotate_left
      · intro w_ hSw
        go_simp
        try with_reducible rfl
      try simp only [Act.put, List.setIfInBounds_toArray, List.set_cons_zero, List.set_cons_succ]
      refine wpAnyH_take (i := 28) (oi := { dst := some 113, op := Op.binOp BinOp.neq 3 (Operand.tmp 112) (Operand.const (Go.Value.int Go.IntKind.i64 0)) 3, type := 4, pos := "law.go:500", after := #[{ on := 27, ground := Ground.data }, { on := 24, ground := Ground.guard }], guard := some (24, false) }) (v := ?_) rfl (by kernel_rfl) (by kernel_rfl) (by kernel_rfl) (fun _ _ _ h => h) (Or.inl ⟨by rfl, ?_⟩) hHeld ?_
      rotate_left
      · intro w_ hSw
        go_simp
        try with_reducible rfl
      try simp only [Act.put, List.setIfInBounds_toArray, List.set_cons_zero, List.set_cons_succ]
      refine wpAnyH_take (i := 29) (oi := { dst := some 114, op := Op.pick (Operand.tmp 109) (Operand.const (Go.Value.bool true)) (Operand.tmp 113), type := 4, pos := "law.go:500", after := #[{ on := 24, ground := Ground.data }, { on := 28, ground := Ground.data }], guard := none }) (v := ?_) rfl (by kernel_rfl) (by kernel_rfl) (by kernel_rfl) (fun _ _ _ h => h) (Or.inl ⟨by rfl, ?_⟩) hHeld ?_
      rotate_left
      · intro w_ hSw
        go_simp
        try with_reducible rfl
      try simp only [Act.put, List.setIfInBounds_toArray, List.set_cons_zero, List.set_cons_succ]
      refine wpAnyH_done (by kernel_rfl) ?_ _
      clear hHeld
      go_wp2_with fail
      go_meet
      exact ⟨rfl, hB30⟩
  case rest =>
  obtain ⟨rfl, hcut⟩ := hcut
  obtain ⟨w9, rfl⟩ : ∃ wB : World, wB = wc := ⟨_, rfl⟩
  have HC9 := Hidden.mk hcut
  have HAB := Hidden.mk (sabort_any (HXS.out _ hcut) (by rw [HK1.out]; decide) (fun q hq => by have := HX8.out.2.2.1.flt q hq; have := hcut.size; omega))
  clear hcut hB0
  go_wp2_with fail
  refine HAB.out.mono ?_
  rintro e w10 ⟨rfl, GH10, hm10, hs10⟩
  have HY : Hidden (Below w.heap.size w w10 ∧ StH w w10 F8 GH10 s p d h gks cks st1 16 K1 K1 ∧ StH w w10 F8 GA sa pa d ha gka cka st1 16 K1 K1) := ⟨by
    have ha9 := HX8.out.2.2.2.below HC9.out
    refine ⟨hs10.hp.bel, hs10, ha9.st.keep hm10.kp (fun q hq hg => (ha9.ap q hq).1 hg) (HXS.out _ HC9.out).hp.new (fun q hq => .inl hq)⟩⟩
  have HYB := Hidden.mk HY.out.1
  have HYS : Hidden (∀ W, Below w10.heap.size w10 W → StH w W F8 GH10 s p d h gks cks st1 16 K1 K1) := ⟨fun W hW => HY.out.2.1.below hW⟩
  have HYA : Hidden (∀ W, Below w10.heap.size w10 W → StH w W F8 GA sa pa d ha gka cka st1 16 K1 K1) := ⟨fun W hW => HY.out.2.2.below hW⟩
  have hB0 : Below w10.heap.size w10 w10.drew := (Below.refl _ _).drew
  clear hm10 hs10 HAB HX8 HC9 HXS HXA HXB HY
  go_upto_region 23 with (fail)
  refine wp_region_held_drew (S := fun _ => True) (by kernel_rfl) trivial (fun hHeld => ?_)
  refine wpAnyH_take (i := 0) (oi := { dst := some 117, op := Op.move (Operand.tmp 7), type := 57, pos := "law.go:504", after := #[], guard := none }) (v := ?_) rfl (by kernel_rfl) (by kernel_rfl) (by kernel_rfl) (fun _ _ _ h => h) (Or.inl ⟨by rfl, ?_⟩) hHeld ?_
  rotate_left
  · intro w_ hSw
    go_simp
    try with_reducible rfl
  try simp only [Act.put, List.setIfInBounds_toArray, List.set_cons_zero, List.set_cons_succ]
  refine wpAnyH_take (i := 4) (oi := { dst := some 121, op := Op.move (Operand.tmp 9), type := 57, pos := "law.go:504", after := #[], guard := none }) (v := ?_) rfl (by kernel_rfl) (by kernel_rfl) (by kernel_rfl) (fun _ _ _ h => h) (Or.inl ⟨by rfl, ?_⟩) hHeld ?_
  rotate_left
  · intro w_ hSw
    go_simp
    try with_reducible rfl
  try simp only [Act.put, List.setIfInBounds_toArray, List.set_cons_zero, List.set_cons_succ]
  refine wpAnyH_ready (rs := [1]) (by kernel_rfl) (by simp) ?_
  refine AllReadyH.cons (o := { dst := some 118, op := Op.call { callee := Callee.value (Operand.func 23), args := #[Operand.tmp 117], argTypes := #[57] }, type := 25, pos := "law.go:504", after := #[{ on := 0, ground := Ground.data }], guard := none }) rfl (fun K hK => ?_) (AllReadyH.nil)
  rw [if_pos (by rfl)]
  go_simp
  go_at_call 23
  refine (stheap_any (HYS.out _ (hB0))).mono ?_
  rintro e w_9 ⟨rfl, rfl⟩
  dsimp only
  refine hK.out _ _ (hHeld) (fun hHeld => ?_)
  clear hK K
  try simp only [Act.put, List.setIfInBounds_toArray, List.set_cons_zero, List.set_cons_succ]
  refine wpAnyH_ready (rs := [2]) (by kernel_rfl) (by simp) ?_
  refine AllReadyH.cons (o := { dst := some 119, op := Op.call { callee := Callee.value (Operand.func 10), args := #[Operand.tmp 118], argTypes := #[25] }, type := 22, pos := "law.go:504", after := #[{ on := 1, ground := Ground.data }, { on := 1, ground := Ground.chain }], guard := none }) rfl (fun K hK => ?_) (AllReadyH.nil)
  rw [if_pos (by rfl)]
  go_simp
  go_at_call 10
  refine (hbytes_ok _ _ _ _ _ (HYS.out _ (hB0)).hp).mono ?_
  rintro e wya ⟨gya, cya, rfl, -, hrya, hbya⟩
  have hBya := (hB0).trans (hbya.mono (hB0).size)
  dsimp only
  refine hK.out _ _ (trivial) (fun hHeld => ?_)
  clear hK K
  try simp only [Act.put, List.setIfInBounds_toArray, List.set_cons_zero, List.set_cons_succ]
  refine wpAnyH_strong (S' := fun W => Row W 5 gya cya K1 ∧ True) (fun _ h => h.2) _ _ _ _ ?_
  replace hHeld := And.intro hrya hHeld
  refine wpAnyH_take (i := 3) (oi := { dst := some 120, op := Op.convert 22 9 (Operand.tmp 119), type := 9, pos := "law.go:504", after := #[{ on := 2, ground := Ground.data }], guard := none }) (v := ?_) rfl (by kernel_rfl) (by kernel_rfl) (by kernel_rfl) (fun _ _ _ h => h) (Or.inl ⟨by rfl, ?_⟩) hHeld ?_
  rotate_left
  · intro w_ hSw
    have hcv_ := conv_text w_ (some ⟨gya, 0, none⟩) (K1).length cya (K1) rfl hSw.1.rd
    go_simp
    try with_reducible rfl
  try simp only [Act.put, List.setIfInBounds_toArray, List.set_cons_zero, List.set_cons_succ]
  refine wpAnyH_ready (rs := [5]) (by kernel_rfl) (by simp) ?_
  refine AllReadyH.cons (o := { dst := some 122, op := Op.call { callee := Callee.value (Operand.func 23), args := #[Operand.tmp 121], argTypes := #[57] }, type := 25, pos := "law.go:504", after := #[{ on := 4, ground := Ground.data }, { on := 2, ground := Ground.chain }], guard := none }) rfl (fun K hK => ?_) (AllReadyH.nil)
  rw [if_pos (by rfl)]
  go_simp
  go_at_call 23
  refine (stheap_any (HYA.out _ (hBya))).mono ?_
  rintro e w_9 ⟨rfl, rfl⟩
  dsimp only
  refine hK.out _ _ (hHeld) (fun hHeld => ?_)
  clear hK K
  try simp only [Act.put, List.setIfInBounds_toArray, List.set_cons_zero, List.set_cons_succ]
  refine wpAnyH_ready (rs := [6]) (by kernel_rfl) (by simp) ?_
  refine AllReadyH.cons (o := { dst := some 123, op := Op.call { callee := Callee.value (Operand.func 10), args := #[Operand.tmp 122], argTypes := #[25] }, type := 22, pos := "law.go:504", after := #[{ on := 5, ground := Ground.data }, { on := 5, ground := Ground.chain }], guard := none }) rfl (fun K hK => ?_) (AllReadyH.nil)
  rw [if_pos (by rfl)]
  go_simp
  go_at_call 10
  refine (hbytes_ok _ _ _ _ _ (HYA.out _ (hBya)).hp).mono ?_
  rintro e wyb ⟨gyb, cyb, rfl, -, hryb, hbyb⟩
  have hByb := (hBya).trans (hbyb.mono (hBya).size)
  dsimp only
  refine hK.out _ _ (⟨hHeld.1.below hbyb hHeld.1.lt, trivial⟩) (fun hHeld => ?_)
  clear hK K
  try simp only [Act.put, List.setIfInBounds_toArray, List.set_cons_zero, List.set_cons_succ]
  refine wpAnyH_strong (S' := fun W => Row W 5 gyb cyb K1 ∧ (Row W 5 gya cya K1 ∧ True)) (fun _ h => h.2) _ _ _ _ ?_
  replace hHeld := And.intro hryb hHeld
  refine wpAnyH_take (i := 7) (oi := { dst := some 124, op := Op.convert 22 9 (Operand.tmp 123), type := 9, pos := "law.go:504", after := #[{ on := 6, ground := Ground.data }], guard := none }) (v := ?_) rfl (by kernel_rfl) (by kernel_rfl) (by kernel_rfl) (fun _ _ _ h => h) (Or.inl ⟨by rfl, ?_⟩) hHeld ?_
  rotate_left
  · intro w_ hSw
    have hcv_ := conv_text w_ (some ⟨gyb, 0, none⟩) (K1).length cyb (K1) rfl hSw.1.rd
    go_simp
    try with_reducible rfl
  try simp only [Act.put, List.setIfInBounds_toArray, List.set_cons_zero, List.set_cons_succ]
  refine wpAnyH_take (i := 8) (oi := { dst := some 125, op := Op.binOp BinOp.eql 9 (Operand.tmp 120) (Operand.tmp 124) 9, type := 4, pos := "law.go:504", after := #[{ on := 3, ground := Ground.data }, { on := 7, ground := Ground.data }], guard := none }) (v := ?_) rfl (by kernel_rfl) (by kernel_rfl) (by kernel_rfl) (fun _ _ _ h => h) (Or.inl ⟨by rfl, ?_⟩) hHeld ?_
  rotate_left
  · intro w_ hSw
    go_simp
    try with_reducible rfl
  try simp only [Act.put, List.setIfInBounds_toArray, List.set_cons_zero, List.set_cons_succ]
  refine wpAnyH_take (i := 9) (oi := { dst := some 4, op := Op.assign (Operand.tmp 125), type := 4, pos := "law.go:504", after := #[{ on := 8, ground := Ground.data }, { on := 6, ground := Ground.chain }, { on := 0, ground := Ground.phase }, { on := 1, ground := Ground.phase }, { on := 2, ground := Ground.phase }, { on := 3, ground := Ground.phase }, { on := 4, ground := Ground.phase }, { on := 5, ground := Ground.phase }, { on := 6, ground := Ground.phase }, { on := 7, ground := Ground.phase }, { on := 8, ground := Ground.phase }], guard := none }) (v := ?_) rfl (by kernel_rfl) (by kernel_rfl) (by kernel_rfl) (fun _ _ _ h => h) (Or.inl ⟨by rfl, ?_⟩) hHeld ?_
  rotate_left
  · intro w_ hSw
    go_simp
    try with_reducible rfl
  try simp only [Act.put, List.setIfInBounds_toArray, List.set_cons_zero, List.set_cons_succ]
  refine wpAnyH_done (by kernel_rfl) ?_ _
  clear hHeld
  go_wp2_with fail
  go_ret
  exact ⟨rfl, HYB.out.trans ((hByb).mono HYB.out.size)⟩
end Go.Proofs.YtijcclpnkfmpnaaGreat
