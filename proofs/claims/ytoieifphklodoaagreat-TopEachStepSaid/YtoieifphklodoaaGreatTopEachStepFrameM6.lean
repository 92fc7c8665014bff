/- Contracts and plain laws, put together: Store4, Store5, Play2, StoreSafeP, StoreSafe0, SimP, PlayP, PlayT, Play3, Play4, PlayU, Play5, Top1, PlayV, Same1, SameB, PlaySteps1. -/
import Derived.Test.YtoieifphklodoaaGreatTopEachStepFrameM5
import Derived.Test.YtoieifphklodoaaGreatTopEachStepFrameM3
import Derived.Test.YtoieifphklodoaaGreatTopEachStepFrameM2
import Derived.Deep.DeepCutAuto
import Derived.Deep.CutBlock
import Derived.Deep.RegionHeld3
import Derived.Test.YtoieifphklodoaaGreatTopEachStepFrameM4
import Derived.BigQuiet
/- Package store: of, Open, Create. -/
namespace Go.Proofs.YtoieifphklodoaaGreat
open Go.RowKit Go.Maps Go.ChangeMaps

/-- a store that a call has made -/
structure SnM (w0 w w' : World) (F F' GH : Nat → Prop) (s p d h gk ck st n : Nat) (D : Dv) (N : Bytes) : Prop where
  dev : DevB w0 w' F' d D
  st : StH w0 w' F' GH s p d h gk ck st n N N
  kp : Keep F w w'
  sub : ∀ q, F' q → F q ∨ w.heap.size ≤ q
  ns : w.heap.size ≤ s ∧ w.heap.size ≤ p ∧ w.heap.size ≤ gk
  ng : ∀ q, GH q → w.heap.size ≤ q
section
variable {w0 w w' : World} {F F' GH GH' G : Nat → Prop} {s p d h gk ck st n : Nat} {D : Dv} {l l' K : Bytes}
set_option maxRecDepth 100000 in
theorem sof_ok (hd : DevB w0 w F d D) (hp : PgH w F p d st n) (hn : n = nP D) (hdn : D.down = false) (hl : ∀ i, i < n → (readD D (48 + i)).length = 32) (N : Bytes) (hN : allB D n = N) (hg : Good N) (h0 : w0.heap.size ≤ p) :
    Calls Tryz.prog 29 #[.pointer (some ⟨p, 0, none⟩)] w fun e w' => ∃ s h gk ck GH, e = .returned (.tuple #[.pointer (some ⟨s, 0, none⟩), .nilIface]) ∧ StH w0 w' F GH s p d h gk ck st n N N ∧ Below w.heap.size w w' ∧ w.heap.size ≤ s ∧ w.heap.size ≤ gk ∧ ∀ q, GH q → w.heap.size ≤ q := by
  have hlen : (allB D n).length = 32 * n := allB_len n hl
  rw [hN] at hlen
  have hb := hg.bd
  have HV := Hidden.mk (vall_ok hd (by rw [← hn]; exact hp) hdn (by rw [← hn]; exact hl) n hn)
  rw [hN] at HV
  have HP := Hidden.mk (And.intro hp (And.intro hd (And.intro hlen (And.intro hg h0))))
  have hn9 : 0 < 32 * n := by omega
  clear hd hp hn hdn hl hN hg h0 hlen hb
  go_enter Tryz.func29, Tryz.ntmps29
  go_wp2_with fail
  refine HV.out.mono ?_
  rintro e w1 ⟨v, rfl, hown, hb1⟩
  obtain ⟨g, cap, rfl, hbg, hrow⟩ := row_of_owns hown HP.out.2.2.1 hn9
  have HR := Hidden.mk (And.intro hbg (And.intro hrow hb1))
  have HLD := Hidden.mk (hload_ok (some ⟨g, 0, none⟩) (32 * n) cap N w0 w1 HP.out.2.2.1 HP.out.2.2.2.1 (by rw [← HP.out.2.2.1]; exact hrow.le.1) hrow.rd (HP.out.2.1.below hb1).bel)
  clear hown hbg hrow hb1 HV
  go_wp2_with fail
  refine HLD.out.mono ?_
  rintro e w2 ⟨h, GH, rfl, hp2, hb2, hg2⟩
  have hal := (Below.refl w2.heap.size w2).alloc (Nat.le_refl _) (.cells #[.pointer (some ⟨p, 0, none⟩), .pointer (some ⟨h, 0, none⟩), .slice (some ⟨g, 0, none⟩) (32 * n) cap] 74)
  have HF : Hidden (StH w0 (w2.alloc (.cells #[.pointer (some ⟨p, 0, none⟩), .pointer (some ⟨h, 0, none⟩), .slice (some ⟨g, 0, none⟩) (32 * n) cap] 74)) F GH w2.heap.size p d h g cap st n N N ∧ Below w.heap.size w (w2.alloc (.cells #[.pointer (some ⟨p, 0, none⟩), .pointer (some ⟨h, 0, none⟩), .slice (some ⟨g, 0, none⟩) (32 * n) cap] 74)) ∧ w.heap.size ≤ w2.heap.size ∧ w.heap.size ≤ g ∧ ∀ q, GH q → w.heap.size ≤ q) := ⟨by
    obtain ⟨a1, a2, a3⟩ := HR.out
    obtain ⟨b1, b2, b3, b4, b5⟩ := HP.out
    have hB2 : Below w.heap.size w w2 := a3.trans (hb2.mono a3.size)
    have hB3 := hB2.trans (hal.mono hB2.size)
    have s1 := a3.size
    have s2 := hb2.size
    have s0 := b2.bel.size
    have hnF : ∀ q, w.heap.size ≤ q → ¬ F q := fun q hq hf => by have := b2.flt q hf; omega
    have hr2 : Row w2 5 g cap N := a2.below hb2 a2.lt
    have hglt := a2.lt
    have hplt := b1.lt
    refine ⟨⟨by rw [b3]; exact heap_alloc_new w2 _, b1.below hB3, hp2.below hal, hr2.below hal hr2.lt, hnF _ (by omega), hnF _ a1, fun q hq => hnF q (Nat.le_trans s1 (hg2 q hq)), fun hq => by have := hp2.flt _ hq; omega, fun hq => by have := hg2 _ hq; omega, fun hq => by have := hg2 _ hq; omega, by omega, b5, Nat.le_trans s0 a1⟩, hB3, by omega, a1, fun q hq => Nat.le_trans s1 (hg2 q hq)⟩⟩
  clear hp2 hb2 hg2 hal HLD
  go_wp2_with fail
  go_ret2
  exact ⟨_, h, g, cap, GH, rfl, HF.out.1, HF.out.2.1, HF.out.2.2.1, HF.out.2.2.2.1, HF.out.2.2.2.2⟩
theorem sopen_ok (hd : DevB w0 w F d D) (h0 : (openP D).2 = 0) (hst : (openMk D).1 = st) (hn : n = nP D) (hn2 : n = nP (openP D).1) (hdn : (openP D).1.down = false) (hl : ∀ i, i < n → (readD (openP D).1 (48 + i)).length = 32) (N : Bytes) (hN : allB (openP D).1 n = N) (hg : Good N) :
    Calls Tryz.prog 21 #[.pointer (some ⟨d, 0, none⟩)] w fun e w' => ∃ s p h gk ck F' GH, e = .returned (.tuple #[.pointer (some ⟨s, 0, none⟩), .nilIface]) ∧ SnM w0 w w' F F' GH s p d h gk ck st n (openP D).1 N := by
  have HO := Hidden.mk (popen_any hd)
  have HZ := Hidden.mk (And.intro hd.bel hst)
  have HNP := Hidden.mk hn
  have HQ := Hidden.mk (And.intro h0 (And.intro hn (And.intro hn2 (And.intro hdn (And.intro hl (And.intro hN hg))))))
  rw [hst] at HO
  generalize openP D = r at *
  clear hd h0 hn hn2 hdn hl hN hg hst
  go_enter Tryz.func21, Tryz.ntmps21
  go_wp2_with fail
  refine HO.out.mono ?_
  rintro e w1 hop
  obtain ⟨v, F', rfl, hm, hpp⟩ := hop.uni
  obtain ⟨q1, q2, q3, q4, q5, q6, q7⟩ := HQ.out
  obtain ⟨p, rfl, hp, hpn⟩ := hpp q1
  have hw := HZ.out.1.size
  have HOF := Hidden.mk (sof_ok hm.dev (by rw [← HNP.out] at hp; exact hp) q3 q4 q5 N q6 q7 (by omega))
  have HM := Hidden.mk (And.intro hm hpn)
  rw [q1, errV0]
  clear hm hop hpp hp hpn q1 q2 q3 q4 q5 q6 q7 HO
  go_wp2_with fail
  refine HOF.out.mono ?_
  rintro e w2 ⟨s, h, gk, ck, GH, rfl, hs, hb, h1, h2, h3⟩
  have HF : Hidden (SnM w0 w w2 F F' GH s p d h gk ck st n r.1 N) := ⟨by
    obtain ⟨a1, a2⟩ := HM.out
    have a3 := a1.below hb
    have hz := a1.kp.size
    exact ⟨a3.dev, hs, a3.kp, a3.sub, ⟨by omega, a2, by omega⟩, fun q hq => Nat.le_trans hz (h3 q hq)⟩⟩
  clear hs hb h1 h2 h3 HOF
  go_wp2_with fail
  go_ret2
  exact ⟨s, p, h, gk, ck, F', GH, rfl, HF.out⟩
end
end Go.Proofs.YtoieifphklodoaaGreat
/- Package store: Create. -/
namespace Go.Proofs.YtoieifphklodoaaGreat
open Go.RowKit Go.Maps Go.ChangeMaps

section
variable {w0 w w' : World} {F F' : Nat → Prop} {d : Nat}
theorem newD_len (nn : Nat) : (newD nn).S.length = nn := by simp [newD]
set_option maxRecDepth 100000 in
set_option maxHeartbeats 1000000 in
theorem screate_ok (nn n : Nat) (hd : DevB w0 w F d (newD nn)) (h57 : 57 ≤ nn) (h3 : nn ≤ 300) (hn : n = nP (newD nn)) :
    Calls Tryz.prog 7 #[.pointer (some ⟨d, 0, none⟩)] w fun e w' => ∃ s p h gk ck F' GH, e = .returned (.tuple #[.pointer (some ⟨s, 0, none⟩), .nilIface]) ∧ SnM w0 w w' F F' GH s p d h gk ck 2 n (madeD nn) (List.replicate (32 * n) 0) := by
  have HL := Hidden.mk hd.len
  rw [newD_len] at HL
  obtain ⟨mk0, mkn, mkp, mkd, mko⟩ := made_ok nn h57 h3 n hn
  have HMD := Hidden.mk (And.intro mk0 (And.intro mkp (And.intro mkd mko)))
  have HME : Hidden (madeD nn = (flD (zsD nn n)).1) := ⟨by unfold madeD; rw [hn]⟩
  have HZS : Hidden (∀ k, k ≤ n → MdS nn n (zsD nn k)) := ⟨fun k hk => by have := zs_ok nn (by omega) h3 k (by rw [← hn]; exact hk); rwa [← hn] at this⟩
  have HPF := Hidden.mk (pformat_ok hd (⟨rfl, rfl⟩ : Up (newD nn)) (by rw [newD_len]; omega))
  rw [← hn] at HPF
  have s1 : IntKind.i64.wrap ((nn : Int) - 48) = (nn : Int) - 48 := IntWalk.i64_in _ (by omega)
  have HB0 := Hidden.mk hd.bel
  have HZ0 : Hidden (zsD nn 0 = formatD (newD nn)) := ⟨rfl⟩
  have HZK : Hidden (∀ k, zsD nn (k + 1) = (wrD (zsD nn k) (48 + (k : Int)) (List.replicate 32 0)).1) := ⟨fun _ => rfl⟩
  have hn9 : 9 ≤ n ∧ n ≤ 200 := by omega
  have hnz : min ((nn : Int) - 48) 200 = (n : Int) := by omega
  generalize madeD nn = Dm at *
  generalize formatD (newD nn) = Df at *
  clear hd mk0 mkp mkd mko mkn hn
  go_enter Tryz.func7, Tryz.ntmps7
  go_upto_region 1 with (fail)
  go_cut [4] (fun v wx => v = .int .i64 (n : Int) ∧ w = wx)
  case first =>
    go_wp2_with fail
    refine HL.out.mono ?_
    rintro e w1 ⟨rfl, rfl⟩
    go_wp2_with fail
    all_goals
      go_meet
      refine ⟨?_, rfl⟩
      first
        | (congr 1; omega)
  case rest =>
  obtain ⟨rfl, rfl⟩ := hcut
  clear s1 hnz HL
  have s2 : IntKind.i64.wrap ((n : Int) * 32) = (n : Int) * 32 := IntWalk.i64_in _ (by omega)
  have d1 : decide ((n : Int) < 1) = false := by simp; omega
  have HR := Hidden.mk (right_any ((n : Int) * 32) w)
  rw [rightB_true.2 (by omega)] at HR
  go_wp2_with fail
  refine HR.out.mono ?_
  rintro e w1 ⟨rfl, rfl⟩
  clear d1 s2 HR
  go_wp2_with fail
  refine HPF.out.mono ?_
  rintro e w1 ⟨p, F1, rfl, hm1, hp1, hpn⟩
  have HP1 := Hidden.mk hp1
  have HPN := Hidden.mk hpn
  have HST : Hidden (PdM w0 w w1 F F1 d (zsD nn 0) ∧ PgH w1 F1 p d 2 n) := ⟨by rw [HZ0.out]; exact ⟨hm1, hp1⟩⟩
  clear hm1 hp1 hpn HPF HZ0
  go_wp2_with fail
  refine (plen_any HP1.out).mono ?_
  rintro e w2 ⟨rfl, rfl⟩
  go_wp2_with fail
  clear HP1
  go_loopg [33] n (fun r i wr => ∃ (k : Nat) (Fk : Nat → Prop), k ≤ n ∧ r = n - k ∧ i = .int .i64 (k : Int) ∧ Hidden (PdM w0 w wr F Fk d (zsD nn k) ∧ PgH wr Fk p d 2 n))
  case atStart => exact ⟨0, F1, by omega, rfl, rfl, HST⟩
  case round =>
    obtain ⟨k, Fk, hk, rfl, rfl, hst⟩ := hrel
    by_cases hlt : k < n
    · have i0 : (0 : Int) ≤ k := by omega
      have i1 : (k : Int) < n := by omega
      have s1 : IntKind.i64.wrap ((k : Int) + 1) = (k : Int) + 1 := IntWalk.i64_in _ (by omega)
      have s2 : IntKind.i64.wrap (48 + (k : Int)) = 48 + (k : Int) := IntWalk.i64_in _ (by omega)
      have hmz := fun W => mk_bytes 32 32 rfl (by omega) W
      have hal := (Below.refl wr.heap.size wr).alloc (Nat.le_refl _) (.cells (zeroRow 32) 5)
      have HM4 := Hidden.mk (hst.out.1.below hal)
      have HP4 := Hidden.mk (hst.out.2.below hal)
      have hgF : ¬ Fk wr.heap.size := fun hf => by have := hst.out.1.dev.flt _ hf; omega
      have HW2 := Hidden.mk (HM4.out.dev.write_all (48 + (k : Int)) (some ⟨wr.heap.size, 0, none⟩) 32 32 (List.replicate 32 0) (by simp) (row_zeros wr 32 (by simp [maxLen])).rd (fun _ ad e hf => hgF (by obtain rfl := Option.some.inj e; exact hf)))
      have hz := ((HZS.out k hk).zero k hlt).1
      rw [hz, errV0, ← HZK.out k] at HW2
      clear hst hal hgF hz HST
      go_wp2_with fail
      refine HW2.out.mono ?_
      rintro e w5 ⟨rfl, hh⟩
      obtain ⟨F5, hm5⟩ := pdm_write _ hh
      have HN : Hidden (PdM w0 w w5 F F5 d (zsD nn (k + 1)) ∧ PgH w5 F5 p d 2 n) := ⟨HM4.out.next hm5, HP4.out.mod hm5⟩
      clear hh hm5 HW2 HM4 HP4 hmz
      go_wp2_with fail
      go_roundg (n - (k + 1))
      case measure => omega
      case rel => exact ⟨k + 1, F5, by omega, rfl, by go_num, HN⟩
    · obtain rfl : k = n := by omega
      have t4 : decide ((k : Int) < k) = false := by simp
      have HFL := Hidden.mk hst.out.1.dev.flush_all
      rw [HMD.out.1, errV0, ← HME.out] at HFL
      clear HST
      go_wp2_with fail
      refine HFL.out.mono ?_
      rintro e w6 ⟨rfl, hd6, hk6⟩
      have hm6 : PdM w0 wr w6 Fk Fk d Dm := ⟨hd6, hk6, fun _ hq => .inl hq⟩
      have HM7 := Hidden.mk (And.intro (hst.out.1.next hm6) (hst.out.2.mod hm6))
      obtain ⟨a1, a2, a3⟩ := HMD.out.2
      have hsz := HB0.out.size
      have hpg := a3.sf
      obtain ⟨pg, hsf⟩ := hpg
      have HOF := Hidden.mk (sof_ok HM7.out.1.dev HM7.out.2 a1 a2 (fun i hi => by rw [(hsf.page i hi).1]; exact (hsf.page i hi).2) _ a3.kb.symm a3.gl (by have := HPN.out; omega))
      dsimp only at HOF
      clear hd6 hk6 hm6 HFL a1 a2 a3 hsf hst
      go_wp2_with fail
      refine HOF.out.mono ?_
      rintro e w8 ⟨s, h, gk, ck, GH, rfl, hs, hb, h1, h2, h3⟩
      have HF : Hidden (SnM w0 w w8 F Fk GH s p d h gk ck 2 k Dm (List.replicate (32 * k) 0)) := ⟨by
        have a3 := HM7.out.1.below hb
        have hz := HM7.out.1.kp.size
        exact ⟨a3.dev, hs, a3.kp, a3.sub, ⟨by omega, HPN.out, by omega⟩, fun q hq => Nat.le_trans hz (h3 q hq)⟩⟩
      clear hs hb h1 h2 h3 HOF
      go_wp2_with fail
      go_ret2
      exact ⟨s, p, h, gk, ck, Fk, GH, rfl, HF.out⟩
end
end Go.Proofs.YtoieifphklodoaaGreat
/- A store that is played with, the power there: what is kept; a second store beside it; a region's condition made stronger on the way. -/
namespace Go.Proofs.YtoieifphklodoaaGreat
open Go.RowKit Go.Maps Go.ChangeMaps

section
variable {P : Program} {ops : Array Oper} {Q : Exit → Act → World → Prop} {md : Region.Mode} {S S' : World → Prop}
end
/-- a store, its device, the power there -/
structure PlSt (w0 w : World) (F GH : Nat → Prop) (s p d h nn n : Nat) (S : Sto) : Prop where
  dev : DevB w0 w F d S.D
  st : ∃ gk ck, StH w0 w F GH s p d h gk ck S.st n S.l S.K
  ok : StOk nn n S
/-- what an op leaves -/
structure PlM (w0 w w' : World) (F F' GH GH' : Nat → Prop) (s p d h nn n : Nat) (S : Sto) : Prop where
  pl : PlSt w0 w' F' GH' s p d h nn n S
  kp : Keep (fun q => (F q ∨ GH q) ∨ (q = s ∨ q = p)) w w'
  sub : ∀ q, F' q → F q ∨ w.heap.size ≤ q
  nw : ∀ q, GH' q → GH q ∨ w.heap.size ≤ q
section
variable {w0 w w' w1 : World} {F F' GH GH' GA : Nat → Prop} {s p d h nn n sa pa ha gka cka sta : Nat} {S : Sto} {la Ka : Bytes}
theorem PlSt.below (a : PlSt w0 w F GH s p d h nn n S) (hb : Below w.heap.size w w') : PlSt w0 w' F GH s p d h nn n S := by
  obtain ⟨gk, ck, hs⟩ := a.st
  exact ⟨a.dev.below hb, ⟨gk, ck, hs.below hb⟩, a.ok⟩
theorem PlSt.do_ (a : PlSt w0 w F GH s p d h nn n S) (hst : S.st < 4294967295) (o : OpX) (ho : OpOk w0 o) :
    Calls Tryz.prog 10 #[.pointer (some ⟨s, 0, none⟩), opV o] w fun e w' => e = .returned (errV (doS n S o).2) ∧ ∃ F' GH', PlM w0 w w' F F' GH GH' s p d h nn n (doS n S o).1 := by
  obtain ⟨gk, ck, hs⟩ := a.st
  obtain ⟨D, st, l, K⟩ := S
  refine (sdo_any o hs a.dev a.ok.gl a.ok.gk a.ok.ll a.ok.lk a.ok.n2 (Nat.le_of_lt hst) (ho.below a.dev.bel)).mono ?_
  rintro e w1 ⟨he, F', GH', gk', ck', hm⟩
  exact ⟨he, F', GH', ⟨hm.dev, ⟨gk', ck', hm.st⟩, (a.ok.do hst o).1⟩, hm.kp, hm.sub, hm.nw⟩
/-- Commit by itself -/
theorem PlSt.commit (a : PlSt w0 w F GH s p d h nn n S) (hst : S.st < 4294967295) :
    Calls Tryz.prog 19 #[.pointer (some ⟨s, 0, none⟩)] w fun e w' => e = .returned (errV (cmS n S.st S.D S.l S.K).2) ∧ Below w0.heap.size w0 w' ∧ ((cmS n S.st S.D S.l S.K).2 = 0 → ∃ F', PlM w0 w w' F F' GH GH s p d h nn n ⟨(cmS n S.st S.D S.l S.K).1, if (dL S.l S.K n).length ≠ 0 then S.st + 1 else S.st, S.l, S.l⟩) := by
  obtain ⟨gk, ck, hs⟩ := a.st
  obtain ⟨D, st, l, K⟩ := S
  refine (scommit_any hs a.dev a.ok.ll a.ok.lk a.ok.n2 (Nat.le_of_lt hst)).mono ?_
  rintro e w1 ⟨he, F', gk', ck', hn, hm⟩
  refine ⟨he, ?_, fun h0 => ⟨F', ⟨(hm h0).dev, ⟨gk', ck', (hm h0).st⟩, ?_⟩, (hm h0).kp, (hm h0).sub, (hm h0).nw⟩⟩
  · by_cases h0 : (cmS n st D l K).2 = 0
    · exact (hm h0).dev.bel
    · exact (hn h0).dev.bel
  have hd := (a.ok.do hst ⟨6, 0, 0, 0, [], none, 0, []⟩).1
  unfold doS at hd
  rw [if_pos rfl, if_pos h0] at hd
  exact hd
/-- another store, of which no block is one of these -/
structure Beside (w0 w : World) (F GH GA : Nat → Prop) (s p sa pa d ha gka cka sta n : Nat) (la Ka : Bytes) : Prop where
  st : StH w0 w F GA sa pa d ha gka cka sta n la Ka
  ap : ∀ q, (GA q ∨ q = sa ∨ q = pa ∨ q = gka) → ¬ GH q ∧ q ≠ s ∧ q ≠ p
theorem StH.lt4 (a : StH w0 w F GA sa pa d ha gka cka sta n la Ka) : ∀ q, (GA q ∨ q = sa ∨ q = pa ∨ q = gka) → q < w.heap.size ∧ ¬ F q := fun q hq => by
  obtain ⟨l1, l2, l3⟩ := a.lt
  rcases hq with hq | rfl | rfl | rfl
  · exact ⟨a.hp.flt q hq, a.gf q hq⟩
  · exact ⟨l1, a.sf⟩
  · exact ⟨l2, a.pg.2⟩
  · exact ⟨l3, a.kf⟩
theorem Beside.below (a : Beside w0 w F GH GA s p sa pa d ha gka cka sta n la Ka) (hb : Below w.heap.size w w') : Beside w0 w' F GH GA s p sa pa d ha gka cka sta n la Ka := ⟨a.st.below hb, a.ap⟩
theorem Beside.turn (a : Beside w0 w F GH GA s p sa pa d ha gka cka sta n la Ka) (hF : ∀ q, F q → w0.heap.size ≤ q) (hG : ∀ q, GH q → w0.heap.size ≤ q) (hs : w0.heap.size ≤ s) (hp : w0.heap.size ≤ p) (hk : Keep (fun q => (F q ∨ GH q) ∨ (q = s ∨ q = p)) w w') (hsub : ∀ q, F' q → F q ∨ w.heap.size ≤ q) (hnw : ∀ q, GH' q → GH q ∨ w.heap.size ≤ q) : Beside w0 w' F' GH' GA s p sa pa d ha gka cka sta n la Ka :=
  ⟨a.st.keep hk (fun q hq hf => by
    obtain ⟨h1, h2, h3⟩ := a.ap q hq
    rcases hf with (hf | hf) | hf | hf
    · exact (a.st.lt4 q hq).2 hf
    · exact h1 hf
    · exact h2 hf
    · exact h3 hf) (fun q hf => by
    rcases hf with (hf | hf) | hf | hf
    · exact hF q hf
    · exact hG q hf
    · exact hf ▸ hs
    · exact hf ▸ hp) hsub, fun q hq => ⟨fun hg => by
    rcases hnw q hg with h' | h'
    · exact (a.ap q hq).1 h'
    · have := (a.st.lt4 q hq).1; omega, (a.ap q hq).2⟩⟩
theorem Beside.dev (a : Beside w0 w F GH GA s p sa pa d ha gka cka sta n la Ka) (hk : Keep F w w') (hn : ∀ q, F q → w0.heap.size ≤ q) (hF : ∀ q, F' q → F q ∨ w.heap.size ≤ q) : Beside w0 w' F' GH GA s p sa pa d ha gka cka sta n la Ka := ⟨a.st.dev hk hn hF, a.ap⟩
/-- the store is played with, a device of its own is opened -/
theorem PlSt.opened (a : PlSt w0 w F GH s p d h nn n S) {D' : Dv} (hd : DevB w0 w' F' d D') (hk : Keep F w w') (hF : ∀ q, F' q → F q ∨ w.heap.size ≤ q) (ho : StOk nn n ⟨D', S.st, S.l, S.K⟩) : PlSt w0 w' F' GH s p d h nn n ⟨D', S.st, S.l, S.K⟩ := by
  obtain ⟨gk, ck, hs⟩ := a.st
  exact ⟨hd, ⟨gk, ck, hs.dev hk a.dev.new hF⟩, ho⟩
theorem PlSt.open_ (a : PlSt w0 w F GH s p d h nn n S) :
    Calls Tryz.prog 21 #[.pointer (some ⟨d, 0, none⟩)] w fun e w' => ∃ sa pa ha gka cka F' GA, e = .returned (.tuple #[.pointer (some ⟨sa, 0, none⟩), .nilIface]) ∧ SnM w0 w w' F F' GA sa pa d ha gka cka S.st n (openP S.D).1 S.K ∧ PlSt w0 w' F' GH s p d h nn n ⟨(openP S.D).1, S.st, S.l, S.K⟩ ∧ Beside w0 w' F' GH GA s p sa pa d ha gka cka S.st n S.K S.K := by
  obtain ⟨o1, o2, o3, o4, o5, o6, o7, o8⟩ := a.ok.opened
  refine (sopen_ok a.dev o1 o4 o7 o8 o5 o6 S.K o2.kb.symm a.ok.gk).mono ?_
  rintro e w1 ⟨sa, pa, ha, gka, cka, F', GA, he, hm⟩
  obtain ⟨gk, ck, hs⟩ := id a.st
  refine ⟨sa, pa, ha, gka, cka, F', GA, he, hm, a.opened hm.dev hm.kp hm.sub o3, hm.st, fun q hq => ?_⟩
  have hq : w.heap.size ≤ q := by
    rcases hq with hq | rfl | rfl | rfl
    · exact hm.ng q hq
    · exact hm.ns.1
    · exact hm.ns.2.1
    · exact hm.ns.2.2
  obtain ⟨l1, l2, l3⟩ := hs.lt
  exact ⟨fun hg => by have := hs.hp.flt q hg; omega, by omega, by omega⟩
end
/-- the store's dirty pages -/
theorem PlSt.dirty {w0 w : World} {F GH : Nat → Prop} {s p d h nn n : Nat} {S : Sto} (a : PlSt w0 w F GH s p d h nn n S) :
    Calls Tryz.prog 38 #[.pointer (some ⟨s, 0, none⟩)] w fun e w' => ∃ A c, e = .returned (.slice A (dL S.l S.K n).length c) ∧ RdX ncell 1 w' A (dL S.l S.K n) ∧ Below w.heap.size w w' := by
  obtain ⟨gk, ck, hs⟩ := a.st
  refine (sdirty_any hs a.ok.ll a.ok.lk a.ok.n2).mono ?_
  rintro e w1 ⟨v, he, ho, hb⟩
  obtain ⟨A, c, rfl, -, -⟩ := own_split ho
  exact ⟨A, c, he, own_rdX3 (f := ncell) (fun _ => rfl) rfl ho, hb⟩
theorem PlSt.heap_ {w0 w : World} {F GH : Nat → Prop} {s p d h nn n : Nat} {S : Sto} (a : PlSt w0 w F GH s p d h nn n S) :
    Calls Tryz.prog 8 #[.pointer (some ⟨s, 0, none⟩)] w fun e w' => e = .returned (.pointer (some ⟨h, 0, none⟩)) ∧ w = w' := by
  obtain ⟨gk, ck, hs⟩ := a.st
  exact stheap_any hs
theorem PlSt.bytes_ {w0 w : World} {F GH : Nat → Prop} {s p d h nn n : Nat} {S : Sto} (a : PlSt w0 w F GH s p d h nn n S) :
    Calls Tryz.prog 9 #[.pointer (some ⟨h, 0, none⟩)] w fun e w' => ∃ g cap, e = .returned (.slice (some ⟨g, 0, none⟩) S.l.length cap) ∧ w.heap.size ≤ g ∧ Row w' 5 g cap S.l ∧ Below w.heap.size w w' := by
  obtain ⟨gk, ck, hs⟩ := a.st
  exact hbytes_ok _ _ _ _ _ hs.hp
end Go.Proofs.YtoieifphklodoaaGreat
/- StoreSafe: the plain law: what is kept of a store, wherever the power goes. No program in sight. -/
namespace Go.Proofs.YtoieifphklodoaaGreat
open Go.RowKit Go.Maps Go.ChangeMaps

/-- only the pages that are there count -/
theorem Hold.ext {n st : Nat} {D : Dv} {l : Bytes} {pg pg' : Nat → Bytes} (h : Hold n D st l pg) (e : ∀ i, i < n → pg' i = pg i) : Hold n D st l pg' :=
  { n0 := h.n0, ln := h.ln, mrk := h.mrk, pos := h.pos, l23 := h.l23, inl := h.inl, ar := fun k hk => by rw [e _ (h.inl _ (List.getElem_mem hk))]; exact h.ar k hk, rest := fun i hi hn => by rw [e i hi]; exact h.rest i hi hn, oth := h.oth }
theorem Full.ext {n st : Nat} {D : Dv} {l : Bytes} {pg pg' : Nat → Bytes} (h : Full n D st l pg) (e : ∀ i, i < n → pg' i = pg i) : Full n D st l pg' :=
  ⟨h.hold.ext e, fun i hi => by rw [e i hi]; exact h.all i hi⟩
/-- who says that the power is gone is without it -/
def Lost (r : Dv × Nat) : Prop := r.2 = 9 → r.1.down = true
theorem wrD_lost (D : Dv) (i : Int) (b : Bytes) : Lost (wrD D i b) := by
  unfold Lost wrD
  split
  · intro h; cases h
  split
  · intro h; cases h
  split
  · rename_i h; intro _; exact h
  · intro h
    have h0 : D.left = 0 := by
      by_cases hl : D.left = 0
      · exact hl
      · rw [if_neg hl] at h; cases h
    show ((putD D i.toNat b).left == 0) = true
    have : (putD D i.toNat b).left = 0 := h0
    rw [this]; rfl
theorem flD_lost (D : Dv) : Lost (flD D) := by
  unfold Lost flD
  split
  · rename_i h; intro _; exact h
  split
  · rename_i hl
    intro _
    show (D.left == 0) = true
    rw [hl]; rfl
  · intro h; cases h
theorem runE_lost {X : Type} {f : Nat → X → Dv → Dv × Nat} (hf : ∀ k x D, Lost (f k x D)) : ∀ (l : List X) (k : Nat) (D : Dv), Lost (runE f k l D)
  | [], _, _ => fun h => by cases h
  | x :: l, k, D => by
    rw [runE_cons]
    split
    · exact runE_lost hf l (k + 1) _
    · exact hf k x D
theorem andThen_lost {a : Dv × Nat} {g : Dv → Dv × Nat} (ha : Lost a) (hg : ∀ D, Lost (g D)) : Lost (andThen a g) := by
  unfold andThen
  split
  · exact hg _
  · exact ha
theorem commit_lost (st n : Nat) (m : List (Int × Bytes)) (D : Dv) : (commitP st n m D).2 = 9 → (commitP st n m D).1.down = true := by
  have h9 : chkP n m ≠ 9 := by
    unfold chkP
    split
    · decide
    · have : ∀ (l : List (Int × Bytes)) (s : List Int), chkL n s l ≠ 9 := by
        intro l
        induction l with
        | nil => intro s; show (0 : Nat) ≠ 9; decide
        | cons x r ih =>
          intro s
          unfold chkL
          split
          · decide
          split
          · decide
          split
          · decide
          · exact ih _
      exact this _ _
  show Lost _
  unfold commitP
  split
  · exact fun h => absurd h h9
  split
  · rename_i h; exact fun _ => h
  split
  · intro h; cases h
  split
  · intro h; cases h
  · exact andThen_lost (andThen_lost (andThen_lost (andThen_lost (andThen_lost (runE_lost (fun _ _ _ => wrD_lost _ _ _) _ _ _) flD_lost) (fun _ => wrD_lost _ _ _)) flD_lost) (fun _ => runE_lost (fun _ _ _ => wrD_lost _ _ _) _ _ _)) flD_lost
theorem commit_dn {st n : Nat} {m : List (Int × Bytes)} {D : Dv} (hd : D.down = true) : (commitP st n m D).1 = D ∧ (commitP st n m D).2 ≠ 0 := by
  unfold commitP
  split
  · rename_i h; exact ⟨rfl, h⟩
  · first
    | exact ⟨rfl, show (9 : Nat) ≠ 0 by decide⟩
    | (rw [if_pos hd]; exact ⟨rfl, show (9 : Nat) ≠ 0 by decide⟩)
theorem crashS_left (D : Dv) (x : Int) (keep : List Bool) (torn : Int) (c : Nat) : ∀ k, crashS { D with left := x } keep torn c k = crashS D keep torn c k
  | 0 => rfl
  | k + 1 => by
    have ih := crashS_left D x keep torn c k
    unfold crashS
    rw [ih]
    rfl
theorem crashD_left (D : Dv) (x : Int) (keep : List Bool) (torn : Int) (c : Nat) : crashD { D with left := x } keep torn c = crashD D keep torn c := by
  unfold crashD
  rw [crashS_left]
/-- a store, and what may be there behind a crash: what it kept, or what was being committed -/
structure LvS (nn n : Nat) (s : Sto) (nx : Bytes) : Prop where
  wf : WfD s.D
  len : s.D.S.length = nn
  gl : Good s.l
  gk : Good s.K
  gx : Good nx
  ll : s.l.length = 32 * n
  lk : s.K.length = 32 * n
  lx : nx.length = 32 * n
  n1 : 1 ≤ n
  n2 : n ≤ 200
  on : s.D.down = false → nx = s.K ∧ ∃ l, Full n s.D s.st l (pgB s.K)
  off : s.D.down = true → ∀ keep torn c, c ≤ 32 → ∃ st l N, Hold n (crashD s.D keep torn c) st l (pgB N) ∧ st ≤ s.st + 1 ∧ (N = s.K ∨ N = nx)
theorem upd_dL {l K : Bytes} {n : Nat} (i : Nat) (hi : i < n) : updPg (pgB K) (cutL l (dL l K n)) i = pgB l i := by
  rw [updPg_cut]
  by_cases h : i ∈ dL l K n
  · rw [if_pos h]
  · rw [if_neg h]
    rw [dL_mem] at h
    have : difB l K i = false := by
      cases hd : difB l K i with
      | false => rfl
      | true => exact absurd ⟨hi, hd⟩ h
    unfold difB at this
    exact (bne_eq_false_iff_eq.1 this).symm
section
variable {nn n : Nat} {s : Sto} {nx : Bytes}
theorem LvS.hop (h : LvS nn n s nx) (o : OpX) : LvS nn n ⟨s.D, s.st, hopL s.l o, s.K⟩ nx :=
  { h with gl := (hop_step h.gl o).good, ll := (hop_step h.gl o).len.trans h.ll }
theorem LvS.abort (h : LvS nn n s nx) : LvS nn n ⟨s.D, s.st, s.K, s.K⟩ nx := { h with gl := h.gk, ll := h.lk }
/-- other steps till the power goes -/
theorem LvS.left (h : LvS nn n s nx) (x : Int) : LvS nn n ⟨{ s.D with left := x }, s.st, s.l, s.K⟩ nx :=
  { h with
    wf := ⟨h.wf.nd, h.wf.lt, h.wf.sl, h.wf.ml⟩
    on := fun hd => ⟨(h.on hd).1, by
      obtain ⟨l, hl⟩ := (h.on hd).2
      exact ⟨l, hl.left x s.D.down⟩⟩
    off := fun hd keep torn c hc => by
      show ∃ st l N, Hold n (crashD { s.D with left := x } keep torn c) st l (pgB N) ∧ st ≤ s.st + 1 ∧ (N = s.K ∨ N = nx)
      rw [crashD_left]
      exact h.off hd keep torn c hc }
/-- a commit -/
theorem LvS.commit (h : LvS nn n s nx) : 
    ((cmS n s.st s.D s.l s.K).2 = 0 → LvS nn n ⟨(cmS n s.st s.D s.l s.K).1, if (dL s.l s.K n).length ≠ 0 then s.st + 1 else s.st, s.l, s.l⟩ s.l) ∧
    ((cmS n s.st s.D s.l s.K).2 ≠ 0 → LvS nn n ⟨(cmS n s.st s.D s.l s.K).1, s.st, s.l, s.K⟩ (if s.D.down = false ∧ (cmS n s.st s.D s.l s.K).1.down = true then s.l else nx)) := by
  cases hd : s.D.down with
  | true =>
    obtain ⟨a, b⟩ := commit_dn (st := s.st) (n := n) (m := cutL s.l (dL s.l s.K n)) hd
    refine ⟨fun h0 => absurd h0 b, fun _ => ?_⟩
    rw [if_neg (fun x => by cases x.1)]
    unfold cmS
    rw [a]
    exact h
  | false =>
    obtain ⟨hx, l, hl⟩ := h.on hd
    have H := commit_safe (cutL s.l (dL s.l s.K n)) hl h.wf
    have H9 := commit_lost s.st n (cutL s.l (dL s.l s.K n)) s.D
    have hlen := H.len.trans h.len
    unfold cmS
    generalize hm : cutL s.l (dL s.l s.K n) = m at *
    have hml : m.length = (dL s.l s.K n).length := by rw [← hm, cutL_len]
    have hup : ∀ i, i < n → pgB s.l i = updPg (pgB s.K) m i := fun i hi => by rw [← hm]; exact (upd_dL i hi).symm
    generalize commitP s.st n m s.D = r at *
    refine ⟨fun h0 => ?_, fun h0 => ?_⟩
    · by_cases hm0 : m.length = 0
      · have hD := H.none_ h0 hm0
        have hnil : dL s.l s.K n = [] := List.eq_nil_of_length_eq_zero (by omega)
        have hlK : s.l = s.K := dL_none h.ll h.lk hnil
        rw [hnil, if_neg (by simp), hD]
        refine { h with gk := h.gl, gx := h.gl, lk := h.ll, lx := h.ll, on := fun _ => ⟨rfl, l, ?_⟩, off := fun hd' => ?_ }
        · show Full n s.D s.st l (pgB s.l)
          rw [hlK]; exact hl
        · rw [hd] at hd'; cases hd'
      · obtain ⟨a, b, c, d⟩ := H.done h0 hm0
        rw [if_pos (by omega)]
        refine { h with wf := H.wf, len := hlen, gk := h.gl, gx := h.gl, lk := h.ll, lx := h.ll, on := fun _ => ⟨rfl, _, a.ext hup⟩, off := fun hd' => ?_ }
        have hd2 : r.1.down = true := hd'
        rw [c] at hd2; cases hd2
    · by_cases h9 : r.2 = 9
      · have hdn := H9 h9
        rw [if_pos ⟨rfl, hdn⟩]
        refine { h with wf := H.wf, len := hlen, gx := h.gl, lx := h.ll, on := fun hd' => ?_, off := fun _ keep torn c hc => ?_ }
        · have hd2 : r.1.down = false := hd'
          rw [hdn] at hd2; cases hd2
        · rcases H.lost h9 keep torn c hc with h' | h'
          · exact ⟨_, _, _, h', by dsimp only; omega, .inl rfl⟩
          · exact ⟨_, _, _, h'.ext hup, Nat.le_refl _, .inr rfl⟩
      · have hD := H.bad h0 h9
        rw [hD, hd, if_neg (fun x => by cases x.2)]
        exact h
/-- behind a crash -/
theorem LvS.crash (h : LvS nn n s nx) (keep : List Bool) (torn : Int) (c : Nat) (hc : c ≤ 32) : ∃ st l N, Hold n (crashD s.D keep torn c) st l (pgB N) ∧ st ≤ s.st + 1 ∧ (N = s.K ∨ N = nx) := by
  cases hd : s.D.down with
  | true => exact h.off hd keep torn c hc
  | false =>
    obtain ⟨hx, l, hl⟩ := h.on hd
    exact ⟨s.st, l, s.K, hl.hold.crash h.wf keep torn c hc, by omega, .inl rfl⟩
end
/-- what is there behind a crash: the device, its stamp, and what its pages are -/
structure HdS (nn n : Nat) (D : Dv) (st : Nat) (N : Bytes) : Prop where
  hold : ∃ l, Hold n D st l (pgB N)
  wf : WfD D
  len : D.S.length = nn
  gn : Good N
  ln : N.length = 32 * n
section
variable {nn n st : Nat} {D : Dv} {N : Bytes}
theorem HdS.crash (h : HdS nn n D st N) (keep : List Bool) (torn : Int) (c : Nat) (hc : c ≤ 32) : HdS nn n (crashD D keep torn c) st N := by
  obtain ⟨l, hl⟩ := h.hold
  exact ⟨⟨l, hl.crash h.wf keep torn c hc⟩, crash_wf h.wf keep torn c hc, (crash_len _ _ _ _).trans h.len, h.gn, h.ln⟩
theorem HdS.left (h : HdS nn n D st N) (x : Int) : HdS nn n { D with left := x } st N := by
  obtain ⟨l, hl⟩ := h.hold
  exact ⟨⟨l, hl.left x D.down⟩, ⟨h.wf.nd, h.wf.lt, h.wf.sl, h.wf.ml⟩, h.len, h.gn, h.ln⟩
/-- opened, with so many steps left -/
theorem HdS.open_ (h : HdS nn n D st N) : HdS nn n (openP D).1 st N ∧ ((openP D).2 = 0 ∨ (openP D).2 = 9) ∧ ((openP D).2 = 0 → (openMk D).1 = st ∧ (openP D).1.down = false ∧ n = nP D ∧ n ≤ 200 ∧ 1 ≤ n ∧ (∃ l, Full n (openP D).1 st l (pgB N)) ∧ allB (openP D).1 n = N ∧ ∀ i, i < n → (readD (openP D).1 (48 + i)).length = 32) := by
  obtain ⟨l, hl⟩ := h.hold
  obtain ⟨a, b⟩ := open_safe hl h.wf
  have hle := hl.lens
  rcases a with ⟨a1, a2, a3, a4, a5⟩ | ⟨a1, a2, a3⟩
  · refine ⟨⟨⟨l, a2.hold⟩, a5, b.trans h.len, h.gn, h.ln⟩, .inl a1, fun _ => ?_⟩
    have hp : ∀ i, i < n → (readD (openP D).1 (48 + i)).length = 32 := fun i hi => by
      rw [(a2.all i hi).2]
      exact pgB_len h.ln hi
    refine ⟨by rw [hl.opened], a4, hl.n0, hle.1, hle.2.2, ⟨l, a2⟩, ?_, hp⟩
    exact eq_of_pages (allB_len n hp) h.ln fun k hk => by rw [allB_page n k hp hk, (a2.all k hk).2]
  · exact ⟨⟨⟨l, a2⟩, a3, b.trans h.len, h.gn, h.ln⟩, .inr a1, fun h0 => by rw [a1] at h0; cases h0⟩
/-- a store that is opened so -/
theorem HdS.lv (h : HdS nn n D st N) (h0 : (openP D).2 = 0) : LvS nn n ⟨(openP D).1, st, N, N⟩ N := by
  obtain ⟨a, b, c⟩ := h.open_
  obtain ⟨c1, c2, c3, c4, c5, c6, c7, c8⟩ := c h0
  exact ⟨a.wf, a.len, h.gn, h.gn, h.gn, h.ln, h.ln, h.ln, c5, c4, fun _ => ⟨rfl, c6⟩, fun hd => by rw [c2] at hd; cases hd⟩
end
end Go.Proofs.YtoieifphklodoaaGreat
/- StoreSafe: what the law keeps. -/
namespace Go.Proofs.YtoieifphklodoaaGreat
open Go.RowKit Go.Maps Go.ChangeMaps

/-- a row of the law's own, beside the device and a heap -/
structure RowO (w0 w : World) (F GH : Nat → Prop) (g c : Nat) (x : Bytes) : Prop where
  row : Row w 5 g c x
  nf : ¬ F g
  ng : ¬ GH g
  base : w0.heap.size ≤ g
section
variable {w0 w w' : World} {F F' GH GH' : Nat → Prop} {s p d h nn n g c g1 c1 g2 c2 gw cw : Nat} {S : Sto} {nx x : Bytes}
theorem RowO.below (a : RowO w0 w F GH g c x) (hb : Below w.heap.size w w') : RowO w0 w' F GH g c x := ⟨a.row.below hb a.row.lt, a.nf, a.ng, a.base⟩
theorem RowO.dev (a : RowO w0 w F GH g c x) (hk : Keep F w w') (hF : ∀ q, F' q → F q ∨ w.heap.size ≤ q) : RowO w0 w' F' GH g c x :=
  ⟨hk.row a.row a.nf, fun hf => by
    rcases hF _ hf with h' | h'
    · exact a.nf h'
    · have := a.row.lt; omega, a.ng, a.base⟩
theorem RowO.turn {gk ck st : Nat} {l K : Bytes} (a : RowO w0 w F GH g c x) (hs : StH w0 w F GH s p d h gk ck st n l K) (hk : Keep (fun q => (F q ∨ GH q) ∨ (q = s ∨ q = p)) w w') (hF : ∀ q, F' q → F q ∨ w.heap.size ≤ q) (hG : ∀ q, GH' q → GH q ∨ w.heap.size ≤ q) : RowO w0 w' F' GH' g c x := by
  have hne := hs.types a.row
  have hl := a.row.lt
  refine ⟨hk.row a.row (fun hf => ?_), fun hf => ?_, fun hf => ?_, a.base⟩
  · rcases hf with (hf | hf) | hf | hf
    · exact a.nf hf
    · exact a.ng hf
    · exact hne.1 hf
    · exact hne.2 hf
  · rcases hF _ hf with h' | h'
    · exact a.nf h'
    · omega
  · rcases hG _ hf with h' | h'
    · exact a.ng h'
    · omega
/-- another heap's blocks -/
theorem RowO.other (a : RowO w0 w F GH g c x) (hG : ¬ GH' g) : RowO w0 w F GH' g c x := ⟨a.row, a.nf, hG, a.base⟩
end
section
variable {w0 w w' : World} {F F' GH GH' : Nat → Prop} {s p d h nn n st b g c g1 c1 g2 c2 gw cw : Nat} {S : Sto} {D D' : Dv} {K nx N x : Bytes}
end
theorem PlSt.fresh {w0 w w' : World} {F GH : Nat → Prop} {s p d h nn n g c : Nat} {S : Sto} {x : Bytes} (a : PlSt w0 w F GH s p d h nn n S) (hg : w.heap.size ≤ g) (hr : Row w' 5 g c x) : RowO w0 w' F GH g c x := by
  obtain ⟨gk, ck, hs⟩ := a.st
  exact ⟨hr, fun hf => by have := a.dev.flt g hf; omega, fun hf => by have := hs.hp.flt g hf; omega, Nat.le_trans a.dev.bel.size hg⟩
end Go.Proofs.YtoieifphklodoaaGreat
/- A device whose power goes in so many steps, beside the same one whose power stays: how many steps a commit takes. No program in sight. -/
namespace Go.Proofs.YtoieifphklodoaaGreat
open Go.RowKit

/-- the same, with x steps left -/
structure Sim (x : Int) (D D' : Dv) : Prop where
  s : D.S = D'.S
  o : D.O = D'.O
  m : D.M = D'.M
  d : D.down = false
  d' : D'.down = false
  l : D.left = x
  l' : D'.left = -1
theorem wrD_live {D : Dv} {i : Int} {b : Bytes} (h0 : 0 ≤ i) (h1 : i < D.S.length) (hb : b.length = 32) (hd : D.down = false) (hl : D.left ≠ 0) : wrD D i b = (stepD (putD D i.toNat b), 0) := by
  unfold wrD
  rw [if_neg (by omega), if_neg (by omega), if_neg (by rw [hd]; decide), if_neg hl]
theorem flD_live {D : Dv} (hd : D.down = false) (hl : D.left ≠ 0) : flD D = (flushD (stepD D), 0) := by
  unfold flD
  rw [if_neg (by rw [hd]; decide), if_neg hl]
section
variable {x : Int} {D D' : Dv}
theorem Sim.step (h : Sim x D D') (hx : 1 ≤ x) : Sim (x - 1) (stepD D) (stepD D') where
  s := h.s
  o := h.o
  m := h.m
  d := by
    show (D.left == 0) = false
    rw [h.l]; simp; omega
  d' := by
    show (D'.left == 0) = false
    rw [h.l']; rfl
  l := by
    show max (-1) (D.left - 1) = x - 1
    rw [h.l]; omega
  l' := by
    show max (-1) (D'.left - 1) = -1
    rw [h.l']; decide
theorem Sim.put (h : Sim x D D') (i : Nat) (b : Bytes) : Sim x (putD D i b) (putD D' i b) where
  s := h.s
  o := by unfold putD; simp only [h.o]
  m := by unfold putD; simp only [h.m]
  d := h.d
  d' := h.d'
  l := h.l
  l' := h.l'
theorem Sim.wr (h : Sim x D D') (hx : 1 ≤ x) {i : Int} {b : Bytes} (h0 : 0 ≤ i) (h1 : i < D.S.length) (hb : b.length = 32) : (wrD D i b).2 = 0 ∧ (wrD D' i b).2 = 0 ∧ Sim (x - 1) (wrD D i b).1 (wrD D' i b).1 := by
  rw [wrD_live h0 h1 hb h.d (by rw [h.l]; omega), wrD_live h0 (by rw [← h.s]; exact h1) hb h.d' (by rw [h.l']; decide)]
  exact ⟨rfl, rfl, (h.put _ _).step hx⟩
theorem readD_sim (h : Sim x D D') (j : Nat) : readD D j = readD D' j := by
  unfold readD
  rw [h.s, h.o, h.m]
theorem Sim.flush (h : Sim x D D') : Sim x (flushD D) (flushD D') where
  s := by
    show (List.range _).map _ = (List.range _).map _
    rw [h.s]
    exact List.map_congr_left fun j _ => readD_sim h j
  o := rfl
  m := by first | exact h.m | rfl
  d := h.d
  d' := h.d'
  l := h.l
  l' := h.l'
theorem Sim.fl (h : Sim x D D') (hx : 1 ≤ x) : (flD D).2 = 0 ∧ (flD D').2 = 0 ∧ Sim (x - 1) (flD D).1 (flD D').1 := by
  rw [flD_live h.d (by rw [h.l]; omega), flD_live h.d' (by rw [h.l']; decide)]
  exact ⟨rfl, rfl, (h.step hx).flush⟩
end
theorem wrD_S (D : Dv) (i : Int) (b : Bytes) : (wrD D i b).1.S.length = D.S.length := by rw [wrD_len]
/-- a run of writes -/
theorem sim_run {X : Type} {f : Nat → X → Dv → Dv × Nat} {ls : Nat} {Q : Nat → X → Prop} (hf : ∀ k y (x : Int) D D', Sim x D D' → 1 ≤ x → D.S.length = ls → Q k y → (f k y D).2 = 0 ∧ (f k y D').2 = 0 ∧ Sim (x - 1) (f k y D).1 (f k y D').1 ∧ (f k y D).1.S.length = ls) : ∀ (l : List X) (k : Nat) (x : Int) (D D' : Dv), Sim x D D' → (l.length : Int) ≤ x → D.S.length = ls → (∀ j (hj : j < l.length), Q (k + j) l[j]) → (runE f k l D).2 = 0 ∧ (runE f k l D').2 = 0 ∧ Sim (x - l.length) (runE f k l D).1 (runE f k l D').1 ∧ (runE f k l D).1.S.length = ls
  | [], _, x, D, D', h, _, hs, _ => ⟨rfl, rfl, by simpa [runE] using h, hs⟩
  | y :: r, k, x, D, D', h, hx, hs, hq => by
    rw [List.length_cons] at hx
    obtain ⟨h1, h2, h3, h4⟩ := hf k y x D D' h (by omega) hs (hq 0 (by simp))
    rw [runE_cons, runE_cons, if_pos h1, if_pos h2]
    have ih := sim_run hf r (k + 1) (x - 1) _ _ h3 (by omega) h4 (fun j hj => by
      have := hq (j + 1) (by simpa using hj)
      rw [show k + 1 + j = k + (j + 1) by omega]
      exact this)
    rw [List.length_cons, show x - ((r.length + 1 : Nat) : Int) = x - 1 - (r.length : Int) by omega]
    exact ih
theorem then_ok {a : Dv × Nat} {g : Dv → Dv × Nat} (h : a.2 = 0) : andThen a g = g a.1 := by unfold andThen; rw [if_pos h]
/-- a commit of m pages, when there is something: 2 m + 4 steps -/
theorem sim_commit {x : Int} {D D' : Dv} (h : Sim x D D') (st n : Nat) (m : List (Int × Bytes)) (hn : n + 48 ≤ D.S.length) (hc : ChkOk n m) (hst : st < 4294967295) (hm : m.length ≠ 0) (hx : 2 * (m.length : Int) + 4 ≤ x) :
    (commitP st n m D).2 = 0 ∧ (commitP st n m D').2 = 0 ∧ Sim (x - (2 * (m.length : Int) + 4)) (commitP st n m D).1 (commitP st n m D').1 ∧ (commitP st n m D).1.S.length = D.S.length := by
  have h23 := hc.len
  have ha : (st + 1) % 2 < 2 := Nat.mod_lt _ (by decide)
  have e : ∀ E : Dv, E.down = false → commitP st n m E = andThen (andThen (andThen (andThen (andThen (runE (areaF ((st + 1) % 2)) 0 m E) flD) (markF ((st + 1) % 2) (markB (st + 1) m))) flD) (runE pageF 0 m)) flD := fun E hE => by
    unfold commitP
    rw [chkP_ok hc, if_neg (by omega), if_neg (by rw [hE]; decide), if_neg hm, if_neg (by omega)]
  rw [e D h.d, e D' h.d']
  generalize (st + 1) % 2 = a at *
  obtain ⟨a1, a2, a3, a4⟩ := sim_run (f := areaF a) (ls := D.S.length) (Q := fun k (y : Int × Bytes) => k < 23 ∧ y.2.length = 32) (fun k y x E E' hE hx hs hq => by
    obtain ⟨b1, b2, b3⟩ := hE.wr hx (i := ((areaP a k : Nat) : Int)) (b := y.2) (by omega) (by rw [hs]; unfold areaP; omega) hq.2
    exact ⟨b1, b2, b3, (wrD_S _ _ _).trans hs⟩) m 0 x D D' h (by omega) rfl (fun j hj => ⟨by omega, (hc.each m[j] (List.getElem_mem hj)).2.2⟩)
  rw [then_ok a1, then_ok a2]
  obtain ⟨b1, b2, b3⟩ := a3.fl (by omega)
  have b4 := (flD_len (runE (areaF a) 0 m D).1).trans a4
  rw [then_ok b1, then_ok b2]
  have hml : (markB (st + 1) m).length = 32 := makeB_len _ _ (by simp [numsB]; omega)
  obtain ⟨c1, c2, c3⟩ := b3.wr (by omega) (i := ((a : Nat) : Int)) (b := markB (st + 1) m) (by omega) (by rw [b4]; omega) hml
  have c4 := (wrD_S (flD (runE (areaF a) 0 m D).1).1 ((a : Nat) : Int) (markB (st + 1) m)).trans b4
  have c1' : (markF a (markB (st + 1) m) (flD (runE (areaF a) 0 m D).1).1).2 = 0 := c1
  have c2' : (markF a (markB (st + 1) m) (flD (runE (areaF a) 0 m D').1).1).2 = 0 := c2
  rw [then_ok c1', then_ok c2']
  obtain ⟨d1, d2, d3⟩ := c3.fl (by omega)
  have d4 := (flD_len (wrD (flD (runE (areaF a) 0 m D).1).1 ((a : Nat) : Int) (markB (st + 1) m)).1).trans c4
  have d1' : (flD (markF a (markB (st + 1) m) (flD (runE (areaF a) 0 m D).1).1).1).2 = 0 := d1
  have d2' : (flD (markF a (markB (st + 1) m) (flD (runE (areaF a) 0 m D').1).1).1).2 = 0 := d2
  rw [then_ok d1', then_ok d2']
  obtain ⟨f1, f2, f3, f4⟩ := sim_run (f := pageF) (ls := D.S.length) (Q := fun _ (y : Int × Bytes) => 0 ≤ y.1 ∧ y.1 < n ∧ y.2.length = 32) (fun k y x E E' hE hx hs hq => by
    obtain ⟨b1, b2, b3⟩ := hE.wr hx (i := 48 + y.1) (b := y.2) (by omega) (by rw [hs]; omega) hq.2.2
    exact ⟨b1, b2, b3, (wrD_S _ _ _).trans hs⟩) m 0 _ _ _ d3 (by omega) d4 (fun j hj => hc.each m[j] (List.getElem_mem hj))
  have f1' : (runE pageF 0 m (flD (markF a (markB (st + 1) m) (flD (runE (areaF a) 0 m D).1).1).1).1).2 = 0 := f1
  have f2' : (runE pageF 0 m (flD (markF a (markB (st + 1) m) (flD (runE (areaF a) 0 m D').1).1).1).1).2 = 0 := f2
  rw [then_ok f1', then_ok f2']
  obtain ⟨g1, g2, g3⟩ := f3.fl (by omega)
  refine ⟨g1, g2, ?_, (flD_len _).trans f4⟩
  have ex : x - (2 * (m.length : Int) + 4) = x - ↑m.length - 1 - 1 - 1 - ↑m.length - 1 := by omega
  rw [ex]
  exact g3
end Go.Proofs.YtoieifphklodoaaGreat
/- A script, plainly: what it comes to, how many steps it takes, and that it comes to the same while so many steps are left. No program in sight. -/
namespace Go.Proofs.YtoieifphklodoaaGreat
open Go.RowKit Go.Maps Go.ChangeMaps

/-- the steps of an op -/
def stepsO (n : Nat) (s : Sto) (o : OpX) : Nat := if (doS n s o).2 = 0 ∧ o.what = 6 ∧ 0 < (dL s.l s.K n).length then 2 * (dL s.l s.K n).length + 4 else 0
/-- the first k ops: the store, and the steps -/
def runK (n : Nat) (s : Sto) (L : List OpX) : Nat → Sto × Nat
  | 0 => (s, 0)
  | k + 1 => match L[k]? with
    | some o => ((doS n (runK n s L k).1 o).1, (runK n s L k).2 + stepsO n (runK n s L k).1 o)
    | none => runK n s L k
theorem runK_succ (n : Nat) (s : Sto) (L : List OpX) (k : Nat) (hk : k < L.length) : runK n s L (k + 1) = ((doS n (runK n s L k).1 L[k]).1, (runK n s L k).2 + stepsO n (runK n s L k).1 L[k]) := by
  rw [runK, List.getElem?_eq_getElem hk]
theorem stepsO_none (n : Nat) (s : Sto) {o : OpX} (h : o.what ≠ 6) : stepsO n s o = 0 := by unfold stepsO; rw [if_neg (fun x => h x.2.1)]
theorem stepsO_le {nn n : Nat} {s : Sto} (h : StOk nn n s) (hst : s.st < 4294967295) (o : OpX) : stepsO n s o ≤ 50 := by
  unfold stepsO
  split
  · rename_i hc
    have hs := h.said hst
    have h0 : (cmS n s.st s.D s.l s.K).2 = 0 := by
      have := hc.1
      unfold doS at this
      rw [if_pos hc.2.1] at this
      split at this
      · assumption
      · exact this
    have := hs.1.1 h0
    omega
  · omega
/-- the store, the power there, behind k ops -/
theorem StOk.run {nn n : Nat} {s : Sto} (h : StOk nn n s) (L : List OpX) (b : Nat) (hb : s.st ≤ b) : ∀ k, k ≤ L.length → b + k < 4294967295 → StOk nn n (runK n s L k).1 ∧ (runK n s L k).1.st ≤ b + k
  | 0, _, _ => ⟨h, hb⟩
  | k + 1, hk, hx => by
    obtain ⟨h1, h2⟩ := h.run L b hb k (by omega) (by omega)
    rw [runK_succ n s L k (by omega)]
    obtain ⟨h3, h4⟩ := h1.do (by omega) L[k]
    exact ⟨h3, by dsimp only; omega⟩
/-- the same store on a device that has x steps left -/
structure SimS (x : Int) (s s' : Sto) : Prop where
  d : Sim x s.D s'.D
  st : s.st = s'.st
  l : s.l = s'.l
  k : s.K = s'.K
theorem cut_chk {nn n : Nat} {s : Sto} (h : StOk nn n s) (hc : (dL s.l s.K n).length ≤ 23) : ChkOk n (cutL s.l (dL s.l s.K n)) :=
  cutL_ok h.ll (fun i hi => (dL_mem.1 hi).1) (List.nodup_range.filter _) hc
theorem SimS.do {nn n : Nat} {x : Int} {s s' : Sto} (h : SimS x s s') (ho : StOk nn n s') (hst : s'.st < 4294967295) (o : OpX) (hx : (stepsO n s' o : Int) ≤ x) :
    (doS n s o).2 = (doS n s' o).2 ∧ SimS (x - stepsO n s' o) (doS n s o).1 (doS n s' o).1 := by
  obtain ⟨D, st, l, K⟩ := s
  obtain ⟨D', st', l', K'⟩ := s'
  obtain ⟨hd, e1, e2, e3⟩ := h
  dsimp only at e1 e2 e3 hst hd
  subst e1 e2 e3
  by_cases h6 : o.what = 6
  · by_cases hc : (dL l K n).length ≤ 23
    · have hck := cut_chk ho hc
      dsimp only at hck
      obtain ⟨pg, hsf⟩ := ho.sf
      obtain ⟨lm, hfl⟩ := hsf.full
      have hle := hfl.hold.lens
      dsimp only at hle
      have hlen : n + 48 ≤ D.S.length := by rw [hd.s]; exact hle.2.1
      by_cases h0 : (dL l K n).length = 0
      · have hz : ∀ E : Dv, E.down = false → cmS n st E l K = (E, 0) := fun E hE => by
          unfold cmS commitP
          rw [chkP_ok hck, if_neg (by omega), if_neg (by rw [hE]; decide), if_pos (by rw [cutL_len]; exact h0)]
        have hs0 : stepsO n ⟨D', st, l, K⟩ o = 0 := by unfold stepsO; rw [if_neg (fun q => by have := q.2.2; dsimp only at this; omega)]
        rw [hs0]
        unfold doS
        rw [if_pos h6, if_pos h6]
        dsimp only
        rw [hz D hd.d, hz D' hd.d', if_pos rfl, if_pos rfl]
        exact ⟨rfl, ⟨by simpa using hd, rfl, rfl, rfl⟩⟩
      · have hse : stepsO n ⟨D', st, l, K⟩ o = 2 * (dL l K n).length + 4 := by
          have hz := (ho.said hst).1.2 hc
          unfold stepsO
          rw [if_pos]
          refine ⟨?_, h6, by dsimp only; omega⟩
          unfold doS
          rw [if_pos h6, if_pos hz]
        rw [hse] at hx ⊢
        obtain ⟨c1, c2, c3, -⟩ := sim_commit hd st n (cutL l (dL l K n)) hlen hck hst (by rw [cutL_len]; exact h0) (by rw [cutL_len]; omega)
        rw [cutL_len] at c3
        have c1' : (cmS n st D l K).2 = 0 := c1
        have c2' : (cmS n st D' l K).2 = 0 := c2
        unfold doS
        rw [if_pos h6, if_pos h6]
        dsimp only
        rw [if_pos c1', if_pos c2']
        refine ⟨rfl, ⟨?_, rfl, rfl, rfl⟩⟩
        have e : x - ((2 * (dL l K n).length + 4 : Nat) : Int) = x - (2 * ((dL l K n).length : Int) + 4) := by omega
        rw [e]
        exact c3
    · have hz : ∀ E : Dv, cmS n st E l K = (E, 4) := fun E => cmS_full (by omega)
      have hs0 : stepsO n ⟨D', st, l, K⟩ o = 0 := by
        unfold stepsO
        rw [if_neg]
        intro q
        have := q.1
        unfold doS at this
        rw [if_pos h6] at this
        dsimp only at this
        rw [hz D', if_neg (show ¬ (4 : Nat) = 0 by decide)] at this
        exact absurd this (show ¬ (4 : Nat) = 0 by decide)
      rw [hs0]
      unfold doS
      rw [if_pos h6, if_pos h6]
      dsimp only
      rw [hz D, hz D', if_neg (show ¬ (4 : Nat) = 0 by decide), if_neg (show ¬ (4 : Nat) = 0 by decide)]
      exact ⟨rfl, ⟨by simpa using hd, rfl, rfl, rfl⟩⟩
  · rw [stepsO_none n _ h6]
    unfold doS
    rw [if_neg h6, if_neg h6]
    by_cases h7 : o.what = 7
    · rw [if_pos h7, if_pos h7]
      exact ⟨rfl, ⟨by simpa using hd, rfl, rfl, rfl⟩⟩
    · rw [if_neg h7, if_neg h7]
      exact ⟨rfl, ⟨by simpa using hd, rfl, rfl, rfl⟩⟩
/-- so does a whole script -/
theorem SimS.run {nn n : Nat} {x : Int} {s s' : Sto} (h : SimS x s s') (ho : StOk nn n s') (L : List OpX) (b : Nat) (hb : s'.st ≤ b) : ∀ k, k ≤ L.length → b + k < 4294967295 → ((runK n s' L k).2 : Int) ≤ x → SimS (x - (runK n s' L k).2) (runK n s L k).1 (runK n s' L k).1
  | 0, _, _, _ => by simpa [runK] using h
  | k + 1, hk, hx, hs => by
    rw [runK_succ n s' L k (by omega)] at hs ⊢
    rw [runK_succ n s L k (by omega)]
    dsimp only at hs ⊢
    have ih := h.run ho L b hb k (by omega) (by omega) (by omega)
    obtain ⟨h1, h2⟩ := ho.run L b hb k (by omega) (by omega)
    have := (ih.do h1 (by omega) L[k] (by omega)).2
    have e : x - (((runK n s' L k).2 + stepsO n (runK n s' L k).1 L[k] : Nat) : Int) = x - ((runK n s' L k).2 : Int) - (stepsO n (runK n s' L k).1 L[k] : Int) := by omega
    rw [e]
    exact this
end Go.Proofs.YtoieifphklodoaaGreat
/- A played script, plainly: the power there, with as many steps as the script has, with none; what the steps of scripts add up to. No program in sight. -/
namespace Go.Proofs.YtoieifphklodoaaGreat
open Go.RowKit Go.Maps Go.ChangeMaps

/-- a new store, the power there; with so many steps left -/
def beg0 (nn n : Nat) : Sto := ⟨madeD nn, 2, List.replicate (32 * n) 0, List.replicate (32 * n) 0⟩
def begS (nn n : Nat) (x : Int) : Sto := ⟨{ madeD nn with left := max (-1) x }, 2, List.replicate (32 * n) 0, List.replicate (32 * n) 0⟩
/-- what is there behind the crash -/
def crsD (nn n : Nat) (x : Int) (L : List OpX) (keep : List Bool) (torn : Int) (c : Nat) : Dv := crashD (runK n (begS nn n x) L L.length).1.D keep torn c
section
variable {nn n : Nat} {s : Sto} {nx : Bytes}
theorem StOk.full (h : StOk nn n s) : ∃ l, Full n s.D s.st l (pgB s.K) := by
  obtain ⟨pg, hsf⟩ := h.sf
  obtain ⟨l, hl⟩ := hsf.full
  have hle := hl.hold.lens
  have hp : ∀ i, i < n → (readD s.D (48 + i)).length = 32 := fun i hi => hsf.wf.rd (by omega)
  refine ⟨l, hl.ext fun i hi => ?_⟩
  rw [h.kb, allB_page n i hp hi]
  exact (hl.all i hi).2
theorem StOk.lv (h : StOk nn n s) : LvS nn n s s.K := by
  obtain ⟨l, hl⟩ := h.full
  obtain ⟨pg, hsf⟩ := h.sf
  exact ⟨hsf.wf, hsf.len, h.gl, h.gk, h.gk, h.ll, h.lk, h.lk, h.n1, h.n2, fun _ => ⟨rfl, l, hl⟩, fun hd => by rw [hsf.up.2] at hd; cases hd⟩
theorem StOk.hd (h : StOk nn n s) : HdS nn n s.D s.st s.K := by
  obtain ⟨l, hl⟩ := h.full
  obtain ⟨pg, hsf⟩ := h.sf
  exact ⟨⟨l, hl.hold⟩, hsf.wf, hsf.len, h.gk, h.lk⟩
theorem LvS.do_ (h : LvS nn n s nx) (o : OpX) : ∃ nx', LvS nn n (doS n s o).1 nx' := by
  obtain ⟨c1, c2⟩ := h.commit
  unfold doS
  by_cases h6 : o.what = 6
  · rw [if_pos h6]
    by_cases h0 : (cmS n s.st s.D s.l s.K).2 = 0
    · rw [if_pos h0]; exact ⟨_, c1 h0⟩
    · rw [if_neg h0]; exact ⟨_, c2 h0⟩
  · rw [if_neg h6]
    by_cases h7 : o.what = 7
    · rw [if_pos h7]; exact ⟨_, h.abort⟩
    · rw [if_neg h7]; exact ⟨_, h.hop o⟩
theorem doS_st (n : Nat) (s : Sto) (o : OpX) : (doS n s o).1.st ≤ s.st + 1 := by
  unfold doS
  split
  · split
    · dsimp only; split <;> omega
    · dsimp only; omega
  · split
    · dsimp only; omega
    · dsimp only; omega
theorem runK_st (n : Nat) (s : Sto) (L : List OpX) : ∀ k, (runK n s L k).1.st ≤ s.st + k
  | 0 => by simp [runK]
  | k + 1 => by
    have ih := runK_st n s L k
    unfold runK
    split
    · have := doS_st n (runK n s L k).1 (by assumption)
      dsimp only
      omega
    · omega
theorem LvS.run (h : LvS nn n s nx) (L : List OpX) : ∀ k, ∃ nx', LvS nn n (runK n s L k).1 nx'
  | 0 => ⟨nx, h⟩
  | k + 1 => by
    obtain ⟨nx', h'⟩ := h.run L k
    unfold runK
    split
    · exact h'.do_ _
    · exact ⟨nx', h'⟩
/-- a crash of it -/
theorem LvS.crashed (h : LvS nn n s nx) (keep : List Bool) (torn : Int) (c : Nat) (hc : c ≤ 32) : ∃ st N, HdS nn n (crashD s.D keep torn c) st N ∧ st ≤ s.st + 1 := by
  obtain ⟨st, l, N, h1, h2, h3⟩ := h.crash keep torn c hc
  refine ⟨st, N, ⟨⟨l, h1⟩, crash_wf h.wf keep torn c hc, (crash_len _ _ _ _).trans h.len, ?_, ?_⟩, h2⟩
  · rcases h3 with rfl | rfl
    · exact h.gk
    · exact h.gx
  · rcases h3 with rfl | rfl
    · exact h.lk
    · exact h.lx
end
section
variable {nn n st st' : Nat} {D D' : Dv} {N N' : Bytes}
/-- only one thing can be there -/
theorem HdS.uniq (h : HdS nn n D st N) (h' : HdS nn n D st' N') (hu : Up D) : N = N' := by
  have h0 : (openP D).2 = 0 := by
    rcases h.open_.2.1 with h1 | h1
    · exact h1
    · exact absurd h1 (open_stays hu).2
  rw [← (h.open_.2.2 h0).2.2.2.2.2.2.1, ← (h'.open_.2.2 h0).2.2.2.2.2.2.1]
/-- the same sectors, nothing pending -/
theorem HdS.as (h : HdS nn n D st N) (hs : D'.S = D.S) (ho : D'.O = []) : HdS nn n D' st N := by
  obtain ⟨l, hl⟩ := h.hold
  refine ⟨⟨l, hl.same (by rw [hs]) fun j v _ _ hv => ?_⟩, ⟨by rw [ho]; simp, fun i hi => by rw [ho] at hi; simp at hi, fun i hi => by rw [hs] at hi ⊢; exact h.wf.sl i hi, fun i hi => by rw [ho] at hi; simp at hi⟩, by rw [hs]; exact h.len, h.gn, h.ln⟩
  refine ⟨by rw [hs]; exact hv.1, ?_⟩
  unfold readD
  rw [ho, if_neg (by simp), hs]
  exact hv.1
end
/-- the new store -/
theorem beg0_ok (nn : Nat) (h1 : 57 ≤ nn) (h3 : nn ≤ 300) (n : Nat) (hn : n = nP (newD nn)) : StOk nn n (beg0 nn n) := (made_ok nn h1 h3 n hn).2.2.2.2
theorem begS_neg {nn n : Nat} (h : StOk nn n (beg0 nn n)) : begS nn n (-1) = beg0 nn n := by
  obtain ⟨pg, hsf⟩ := h.sf
  have hl : (madeD nn).left = -1 := hsf.up.1
  unfold begS beg0
  have : max (-1) (-1 : Int) = (madeD nn).left := by rw [hl]; decide
  rw [this]
theorem begS_lv {nn n : Nat} (h : StOk nn n (beg0 nn n)) (x : Int) : LvS nn n (begS nn n x) (beg0 nn n).K := h.lv.left (max (-1) x)
/-- what Play comes to, whenever the power goes -/
theorem play_hd {nn n : Nat} (h : StOk nn n (beg0 nn n)) (x : Int) (L : List OpX) (keep : List Bool) (torn : Int) (c : Nat) (hc : c ≤ 32) : ∃ st N, HdS nn n (crsD nn n x L keep torn c) st N := by
  obtain ⟨nx, hl⟩ := (begS_lv h x).run L L.length
  obtain ⟨st, N, h1, -⟩ := hl.crashed keep torn c hc
  exact ⟨st, N, h1⟩
theorem crsD_up (nn n : Nat) (x : Int) (L : List OpX) (keep : List Bool) (torn : Int) (c : Nat) : Up (crsD nn n x L keep torn c) := ⟨rfl, rfl⟩
/-- the power never goes -/
theorem play_stays {nn n : Nat} (h : StOk nn n (beg0 nn n)) (L : List OpX) (hL : L.length ≤ 1000000) (keep : List Bool) (torn : Int) (c : Nat) (hc : c ≤ 32) : HdS nn n (crsD nn n (-1) L keep torn c) (runK n (beg0 nn n) L L.length).1.st (runK n (beg0 nn n) L L.length).1.K := by
  unfold crsD
  rw [begS_neg h]
  exact (h.run L 2 (Nat.le_refl _) L.length (Nat.le_refl _) (by omega)).1.hd.crash keep torn c hc
/-- so many steps as the script has -/
theorem crash_sim {D D' : Dv} (hs : D.S = D'.S) (ho : D.O = D'.O) (hm : D.M = D'.M) (keep : List Bool) (torn : Int) (c : Nat) : crashD D keep torn c = crashD D' keep torn c := by
  have h1 : ∀ k, crash1 D keep torn c k = crash1 D' keep torn c k := fun k => by unfold crash1; rw [hs, ho, hm]
  have h2 : ∀ k, crashS D keep torn c k = crashS D' keep torn c k := by
    intro k
    induction k with
    | zero => exact hs
    | succ k ih => rw [crashS, crashS, ih, h1, ho]
  unfold crashD
  rw [h2, ho, hm]
theorem play_all {nn n : Nat} (h : StOk nn n (beg0 nn n)) (L : List OpX) (hL : L.length ≤ 1000000) (keep : List Bool) (torn : Int) (c : Nat) : crsD nn n ((runK n (beg0 nn n) L L.length).2 : Int) L keep torn c = crsD nn n (-1) L keep torn c := by
  obtain ⟨pg, hsf⟩ := h.sf
  have hl : (madeD nn).left = -1 := hsf.up.1
  have hd : (madeD nn).down = false := hsf.up.2
  have h0 : SimS ((runK n (beg0 nn n) L L.length).2 : Int) (begS nn n ((runK n (beg0 nn n) L L.length).2 : Int)) (beg0 nn n) :=
    ⟨⟨rfl, rfl, rfl, hd, hd, by show max (-1) _ = _; omega, hl⟩, rfl, rfl, rfl⟩
  have h1 := h0.run h L 2 (Nat.le_refl _) L.length (Nat.le_refl _) (by omega) (Int.le_refl _)
  unfold crsD
  rw [begS_neg h]
  exact crash_sim h1.d.s h1.d.o h1.d.m _ _ _
section
variable {S : List Bytes}
end
/-- how many of the first k are commits -/
def cntC (L : List OpX) : Nat → Nat
  | 0 => 0
  | k + 1 => cntC L k + if (L[k]?.map (·.what)) = some 6 then 1 else 0
theorem cntC_le (L : List OpX) : ∀ k, cntC L k ≤ k
  | 0 => Nat.le_refl _
  | k + 1 => by
    have := cntC_le L k
    unfold cntC
    split <;> omega
theorem runK_le {nn n : Nat} {s : Sto} (h : StOk nn n s) (L : List OpX) (b : Nat) (hb : s.st ≤ b) : ∀ k, k ≤ L.length → b + k < 4294967295 → (runK n s L k).2 ≤ 50 * cntC L k
  | 0, _, _ => Nat.le_refl _
  | k + 1, hk, hx => by
    have ih := runK_le h L b hb k (by omega) (by omega)
    obtain ⟨h1, h2⟩ := h.run L b hb k (by omega) (by omega)
    rw [runK_succ n s L k (by omega)]
    unfold cntC
    rw [List.getElem?_eq_getElem (show k < L.length by omega)]
    dsimp only
    by_cases h6 : L[k].what = 6
    · have := stepsO_le h1 (by omega) L[k]
      rw [if_pos (by simp [h6])]
      omega
    · rw [stepsO_none n _ h6]
      omega
end Go.Proofs.YtoieifphklodoaaGreat
/- A store that is played with, whether the power stays or goes. -/
namespace Go.Proofs.YtoieifphklodoaaGreat
open Go.RowKit Go.Maps Go.ChangeMaps

/-- a store and its device, the power there or not -/
structure PlAny (w0 w : World) (F GH : Nat → Prop) (s p d h nn n : Nat) (S : Sto) : Prop where
  dev : DevB w0 w F d S.D
  st : ∃ gk ck, StH w0 w F GH s p d h gk ck S.st n S.l S.K
  lv : ∃ nx, LvS nn n S nx
section
variable {w0 w w' w1 : World} {F F' GH GH' : Nat → Prop} {s p d h nn n : Nat} {S : Sto}
theorem PlSt.any (a : PlSt w0 w F GH s p d h nn n S) : PlAny w0 w F GH s p d h nn n S := ⟨a.dev, a.st, _, a.ok.lv⟩
theorem PlAny.below (a : PlAny w0 w F GH s p d h nn n S) (hb : Below w.heap.size w w') : PlAny w0 w' F GH s p d h nn n S := by
  obtain ⟨gk, ck, hs⟩ := a.st
  exact ⟨a.dev.below hb, ⟨gk, ck, hs.below hb⟩, a.lv⟩
theorem PlAny.do_ (a : PlAny w0 w F GH s p d h nn n S) (hst : S.st < 4294967295) (o : OpX) (ho : OpOk w0 o) :
    Calls Tryz.prog 10 #[.pointer (some ⟨s, 0, none⟩), opV o] w fun e w' => e = .returned (errV (doS n S o).2) ∧ ∃ F' GH', PlAny w0 w' F' GH' s p d h nn n (doS n S o).1 := by
  obtain ⟨gk, ck, hs⟩ := a.st
  obtain ⟨nx, hlv⟩ := a.lv
  have hnx := hlv.do_ o
  obtain ⟨D, st, l, K⟩ := S
  refine (sdo_any o hs a.dev hlv.gl hlv.gk hlv.ll hlv.lk hlv.n2 (Nat.le_of_lt hst) (ho.below a.dev.bel)).mono ?_
  rintro e w1 ⟨he, F', GH', gk', ck', hm⟩
  exact ⟨he, F', GH', hm.dev, ⟨gk', ck', hm.st⟩, hnx⟩
/-- so many steps from now on -/
theorem PlSt.fail (a : PlSt w0 w F GH s p d h nn n S) (x : Int) (hd : DevB w0 w' F d { S.D with left := max (-1) x }) (hk : Keep F w w') : PlAny w0 w' F GH s p d h nn n ⟨{ S.D with left := max (-1) x }, S.st, S.l, S.K⟩ := by
  obtain ⟨gk, ck, hs⟩ := a.st
  exact ⟨hd, ⟨gk, ck, hs.dev hk a.dev.new (fun _ hq => .inl hq)⟩, _, a.ok.lv.left (max (-1) x)⟩
end
end Go.Proofs.YtoieifphklodoaaGreat
/- Package play: begin, Steps. -/
namespace Go.Proofs.YtoieifphklodoaaGreat
open Go.RowKit Go.Maps Go.ChangeMaps

set_option maxRecDepth 100000 in
theorem begin_ok (nn np : Nat) (OA : Option Addr) (m oc : Nat) (w : World) (hm : m ≤ 200) (h57 : 57 ≤ nn) (h3 : nn ≤ 300) (hnp : np = nP (newD nn)) :
    Calls Tryz.prog 37 #[.int .i64 (nn : Int), .slice OA m oc] w fun e w' => ∃ d s p h F GH, e = .returned (.tuple #[.pointer (some ⟨d, 0, none⟩), .pointer (some ⟨s, 0, none⟩), .nilIface]) ∧ PlSt w w' F GH s p d h nn np (beg0 nn np) := by
  have d1 : decide ((200 : Int) < (m : Int)) = false := by simp; omega
  have d2 : decide (200 < m) = false := by simp; omega
  have HN := Hidden.mk (dnewB nn w (by omega) h3)
  have HQ := Hidden.mk (And.intro h57 (And.intro h3 hnp))
  have HOK := Hidden.mk (beg0_ok nn h57 h3 np hnp)
  clear hm h57 h3 hnp
  go_enter Tryz.func37, Tryz.ntmps37
  go_wp2_with fail
  refine HN.out.mono ?_
  rintro e w1 ⟨d, F0, rfl, hd⟩
  have HC := Hidden.mk (screate_ok nn np hd HQ.out.1 HQ.out.2.1 HQ.out.2.2)
  clear hd HN
  go_wp2_with fail
  refine HC.out.mono ?_
  rintro e w2 ⟨s, p, h, gk, ck, F1, GH1, rfl, hmk⟩
  have HP : Hidden (PlSt w w2 F1 GH1 s p d h nn np (beg0 nn np)) := ⟨⟨hmk.dev, ⟨gk, ck, hmk.st⟩, HOK.out⟩⟩
  clear hmk HC HOK
  go_wp2_with fail
  go_ret3
  exact ⟨d, s, p, h, F1, GH1, rfl, HP.out⟩
/-- where a script's k-th op lies -/
theorem ops_at {w : World} {OA : Option Addr} {L : List OpX} (h : RdX ocells 6 w OA L) (k : Nat) (hk : k < L.length) : ∃ pb off, OA = some ⟨pb, off, none⟩ ∧ (w.cell? ⟨pb, off + k * 6, none⟩ = some (.int .i64 L[k].what) ∧ w.cell? ⟨pb, off + k * 6 + 1, none⟩ = some (.int .i64 L[k].handle) ∧ w.cell? ⟨pb, off + k * 6 + 2, none⟩ = some (.int .i64 L[k].at_) ∧ w.cell? ⟨pb, off + k * 6 + 3, none⟩ = some (.int .i64 L[k].len) ∧ w.cell? ⟨pb, off + k * 6 + 4, none⟩ = some (sv L[k].name) ∧ w.cell? ⟨pb, off + k * 6 + 5, none⟩ = some (.slice L[k].A L[k].body.length L[k].cap)) := by
  obtain ⟨pb, off, e, hc⟩ := h k hk
  have x0 := hc 0 _ rfl
  rw [Nat.add_zero] at x0
  exact ⟨pb, off, e, x0, hc 1 _ rfl, hc 2 _ rfl, hc 3 _ rfl, hc 4 _ rfl, hc 5 _ rfl⟩
/-- a new block is none of the store's -/
theorem PlSt.fresh_ {w0 w : World} {F GH : Nat → Prop} {s p d h nn n : Nat} {S : Sto} (a : PlSt w0 w F GH s p d h nn n S) : ¬ ((F w.heap.size ∨ GH w.heap.size) ∨ (w.heap.size = s ∨ w.heap.size = p)) := by
  obtain ⟨gk, ck, hs⟩ := a.st
  obtain ⟨l1, l2, l3⟩ := hs.lt
  rintro ((hf | hf) | hf | hf)
  · have := a.dev.flt _ hf; omega
  · have := hs.hp.flt _ hf; omega
  · omega
  · omega
theorem Six6.below {w w' : World} {b : Nat} {v0 v1 v2 v3 v4 v5 : Value} (h : Six6 w b v0 v1 v2 v3 v4 v5) (hb : Below w.heap.size w w') (hl : b < w.heap.size) : Six6 w' b v0 v1 v2 v3 v4 v5 := by
  unfold Six6 at *
  simp only [World.cell?] at *
  rw [hb.block b hl]
  exact h
set_option maxRecDepth 100000 in
set_option maxHeartbeats 1000000 in
theorem steps_ok (nn np : Nat) (OA : Option Addr) (m oc : Nat) (L : List OpX) (w : World) (hL : L.length = m) (hm : m ≤ 200) (h57 : 57 ≤ nn) (h3 : nn ≤ 300) (hnp : np = nP (newD nn)) (hr : RdX ocells 6 w OA L) (ho : ∀ x ∈ L, OpOk w x) :
    Calls Tryz.prog 11 #[.int .i64 (nn : Int), .slice OA m oc] w fun e w' => e = .returned (.tuple #[.int .i64 ((runK np (beg0 nn np) L m).2 : Int), .nilIface]) ∧ Below w.heap.size w w' := by
  have hok := beg0_ok nn h57 h3 np hnp
  have HBG := Hidden.mk (begin_ok nn np OA m oc w hm h57 h3 hnp)
  have HR := Hidden.mk (And.intro hr (And.intro ho hL))
  have HRUN : Hidden (∀ k, k ≤ m → StOk nn np (runK np (beg0 nn np) L k).1 ∧ (runK np (beg0 nn np) L k).1.st ≤ 2 + k ∧ (runK np (beg0 nn np) L k).2 ≤ 50 * k) := ⟨fun k hk => by
    obtain ⟨a, b⟩ := hok.run L 2 (Nat.le_refl _) k (by omega) (by omega)
    have c := runK_le hok L 2 (Nat.le_refl _) k (by omega) (by omega)
    have := cntC_le L k
    exact ⟨a, b, by omega⟩⟩
  have HSUC : Hidden (∀ k (hk : k < L.length), runK np (beg0 nn np) L (k + 1) = ((doS np (runK np (beg0 nn np) L k).1 L[k]).1, (runK np (beg0 nn np) L k).2 + stepsO np (runK np (beg0 nn np) L k).1 L[k])) := ⟨fun k hk => runK_succ np _ L k hk⟩
  have HB0 : Hidden (runK np (beg0 nn np) L 0 = (beg0 nn np, 0)) := ⟨rfl⟩
  generalize beg0 nn np = B at *
  clear hok hr ho h57 h3 hnp hL
  go_enter Tryz.func11, Tryz.ntmps11
  go_wp2_with fail
  refine HBG.out.mono ?_
  rintro e w1 ⟨d, s, p, h, F1, GH1, rfl, hp⟩
  have HP : Hidden (PlSt w w1 F1 GH1 s p d h nn np (runK np B L 0).1) := ⟨by rw [HB0.out]; exact hp⟩
  clear hp HBG
  go_wp2_with fail
  go_loopg [9, 25] m (fun r mv iv wr => ∃ (k : Nat) (F GH : Nat → Prop), k ≤ m ∧ r = m - k ∧ iv = .int .i64 (k : Int) ∧ mv = .int .i64 ((runK np B L k).2 : Int) ∧ Hidden (PlSt w wr F GH s p d h nn np (runK np B L k).1))
  case atStart => exact ⟨0, F1, GH1, by omega, rfl, rfl, by rw [HB0.out]; rfl, HP⟩
  case round =>
    obtain ⟨k, F, GH, hk, rfl, rfl, rfl, hst⟩ := hrel
    have HS := Hidden.mk hst.out
    clear hst HP
    by_cases hlt : k < m
    rotate_left
    · obtain rfl : k = m := by omega
      have e1 : decide ((k : Int) < k) = false := by simp
      clear hlt
      go_wp2_with fail
      go_ret2
      exact ⟨rfl, HS.out.dev.bel⟩
    have e1 : decide ((k : Int) < m) = true := by simp; omega
    have e1' : decide (k < m) = true := by simpa using hlt
    have i0 : (0 : Int) ≤ k := by omega
    have i1 : (k : Int) < m := by omega
    have s1 : IntKind.i64.wrap ((k : Int) + 1) = (k : Int) + 1 := IntWalk.i64_in _ (by omega)
    have hkl : k < L.length := by rw [HR.out.2.2]; exact hlt
    obtain ⟨pb, off, rfl, x0, x1, x2, x3, x4, x5⟩ := ops_at (HR.out.1.below HS.out.dev.bel) k hkl
    have HKO := Hidden.mk (HR.out.2.1 _ (List.getElem_mem hkl))
    have HRK := Hidden.mk (HRUN.out k hk)
    have HRK1 := Hidden.mk (HRUN.out (k + 1) (by omega))
    have HNX := Hidden.mk (HSUC.out k hkl)
    generalize hq1 : runK np B L (k + 1) = RK1 at *
    generalize hq2 : runK np B L k = RK at *
    obtain ⟨S, mn⟩ := RK
    have HSE : Hidden (stepsO np S L[k] = if (doS np S L[k]).2 = 0 ∧ L[k].what = 6 ∧ 0 < (dL S.l S.K np).length then 2 * (dL S.l S.K np).length + 4 else 0) := ⟨rfl⟩
    have HDO : Hidden (∀ W F GH, PlSt w W F GH s p d h nn np S → Calls Tryz.prog 10 #[.pointer (some ⟨s, 0, none⟩), opV L[k]] W fun e w' => e = .returned (errV (doS np S L[k]).2) ∧ ∃ F' GH', PlM w W w' F F' GH GH' s p d h nn np (doS np S L[k]).1) := ⟨fun W F GH hW => hW.do_ (by have := HRK.out.2.1; dsimp only at this; omega) L[k] HKO.out⟩
    have HMN : Hidden (mn ≤ 50 * k) := ⟨HRK.out.2.2⟩
    have hq3 := dL_le S.l S.K np
    have hq4 := HS.out.ok.n2
    dsimp only at HS HNX
    have HBX := Hidden.mk (HS.out.fresh_)
    generalize hRR : doS np S L[k] = R at *
    generalize stepsO np S L[k] = so at *
    generalize L[k] = o at *
    obtain ⟨what, handle, at_, len, name, bA, bc, body⟩ := o
    dsimp only at *
    obtain ⟨q, hq⟩ : ∃ q, (dL S.l S.K np).length = q := ⟨_, rfl⟩
    rw [hq] at HSE hq3
    have hal := (Below.refl wr.heap.size wr).alloc (Nat.le_refl _) (.cells #[.int .i64 what, .int .i64 handle, .int .i64 at_, .int .i64 len, sv name, .slice bA body.length bc] 40)
    have h6 := six6_cells wr (.int .i64 what) (.int .i64 handle) (.int .i64 at_) (.int .i64 len) (sv name) (.slice bA body.length bc) 40
    have hlt1 : wr.heap.size < (wr.alloc (.cells #[.int .i64 what, .int .i64 handle, .int .i64 at_, .int .i64 len, sv name, .slice bA body.length bc] 40)).heap.size := by simp
    have HS1 := Hidden.mk (HS.out.below hal)
    have HDI := Hidden.mk HS1.out.dirty
    rw [hq] at HDI
    clear HRK hq hRR hal
    have s2 : IntKind.i64.wrap (2 * (q : Int)) = 2 * (q : Int) := IntWalk.i64_in _ (by omega)
    have s3 : IntKind.i64.wrap (2 * (q : Int) + 4) = 2 * (q : Int) + 4 := IntWalk.i64_in _ (by omega)
    have s4 : IntKind.i64.wrap ((mn : Int) + (2 * (q : Int) + 4)) = (mn : Int) + (2 * (q : Int) + 4) := IntWalk.i64_in _ (by have := HMN.out; omega)
    go_upto_region 8 with (fail)
    generalize wr.alloc (.cells #[.int .i64 what, .int .i64 handle, .int .i64 at_, .int .i64 len, sv name, .slice bA body.length bc] 40) = W1 at *
    generalize wr.heap.size = bx at *
    have H6 := Hidden.mk h6
    clear h6 x0 x1 x2 x3 x4 x5 HS
    go_wp2_with fail
    refine HDI.out.mono ?_
    rintro e w5 ⟨A5, c5, rfl, -, hb5⟩
    have HS5 := Hidden.mk (HS1.out.below hb5)
    have HDC := Hidden.mk (HDO.out w5 F GH HS5.out)
    obtain ⟨c0, c1, c2, c3, c4, c5'⟩ := H6.out.below hb5 hlt1
    have hlt5 : bx < w5.heap.size := Nat.lt_of_lt_of_le hlt1 hb5.size
    clear hb5 HDI HS1 H6 HDO
    unfold opV at HDC
    dsimp only at HDC
    go_wp2_with fail
    refine HDC.out.mono ?_
    rintro e w6 ⟨rfl, F6, GH6, hm6⟩
    have y0 : w6.cell? ⟨bx, 0, none⟩ = some (.int .i64 what) := by
      rw [← c0]
      simp only [World.cell?]
      rw [hm6.kp.block bx hlt5 HBX.out]
    have HP6 : Hidden (PlSt w w6 F6 GH6 s p d h nn np RK1.1) := ⟨by rw [HNX.out]; exact hm6.pl⟩
    have HNM : Hidden (RK1.2 = mn + so) := ⟨by rw [HNX.out]⟩
    clear hm6 HDC c0 c1 c2 c3 c4 c5' HS5 HNX HRK1 HBX
    by_cases h0 : R.2 = 0
    · rw [h0, errV0]
      by_cases hw6 : what = 6
      · subst hw6
        by_cases hqp : 0 < q
        · have d1 : decide (0 < (q : Int)) = true := by simp; omega
          have d1' : decide (0 < q) = true := by simpa using hqp
          have HSO : Hidden (so = 2 * q + 4) := ⟨by rw [HSE.out, if_pos ⟨h0, rfl, hqp⟩]⟩
          clear h0 hqp HSE
          go_wp2_with fail
          go_roundg (m - (k + 1))
          case measure => omega
          case rel => exact ⟨k + 1, F6, GH6, by omega, rfl, by go_num, by rw [hq1, HNM.out, HSO.out]; simp, by rw [hq1]; exact HP6⟩
        · have d1 : decide (0 < (q : Int)) = false := by simp; omega
          have d1' : decide (0 < q) = false := by simpa using hqp
          have HSO : Hidden (so = 0) := ⟨by rw [HSE.out, if_neg (fun x => hqp x.2.2)]⟩
          clear h0 hqp HSE
          go_wp2_with fail
          go_roundg (m - (k + 1))
          case measure => omega
          case rel => exact ⟨k + 1, F6, GH6, by omega, rfl, by go_num, by rw [hq1, HNM.out, HSO.out]; simp, by rw [hq1]; exact HP6⟩
      · have z6 : (what == 6) = false := by simpa using hw6
        have HSO : Hidden (so = 0) := ⟨by rw [HSE.out, if_neg (fun x => hw6 x.2.1)]⟩
        clear h0 hw6 HSE
        go_wp2_with fail
        go_roundg (m - (k + 1))
        case measure => omega
        case rel => exact ⟨k + 1, F6, GH6, by omega, rfl, by go_num, by rw [hq1, HNM.out, HSO.out]; simp, by rw [hq1]; exact HP6⟩
    · rw [errV_pos h0]
      have HSO : Hidden (so = 0) := ⟨by rw [HSE.out, if_neg (fun x => h0 x.1)]⟩
      clear h0 HSE
      go_wp2_with fail
      go_roundg (m - (k + 1))
      case measure => omega
      case rel => exact ⟨k + 1, F6, GH6, by omega, rfl, by go_num, by rw [hq1, HNM.out, HSO.out]; simp, by rw [hq1]; exact HP6⟩
end Go.Proofs.YtoieifphklodoaaGreat
/- A played script, plainly: whenever the power goes, what is there is what some Commit of the script kept. No program in sight. -/
namespace Go.Proofs.YtoieifphklodoaaGreat
open Go.RowKit Go.Maps Go.ChangeMaps

/-- what was kept: at first, and behind each Commit that said nothing -/
def keptK (n : Nat) (s : Sto) (L : List OpX) : Nat → List Bytes
  | 0 => [s.K]
  | k + 1 => match L[k]? with
    | some o => keptK n s L k ++ (if (doS n (runK n s L k).1 o).2 = 0 ∧ o.what = 6 then [(doS n (runK n s L k).1 o).1.K] else [])
    | none => keptK n s L k
theorem doS_keep {n : Nat} {s : Sto} {o : OpX} (h : ¬ ((doS n s o).2 = 0 ∧ o.what = 6)) : (doS n s o).1.K = s.K := by
  unfold doS at h ⊢
  by_cases h6 : o.what = 6
  · rw [if_pos h6] at h ⊢
    by_cases h0 : (cmS n s.st s.D s.l s.K).2 = 0
    · rw [if_pos h0] at h
      exact absurd ⟨rfl, h6⟩ h
    · rw [if_neg h0]
  · rw [if_neg h6]
    split <;> rfl
theorem keptK_last (n : Nat) (s : Sto) (L : List OpX) : ∀ k, ∃ T, keptK n s L k = T ++ [(runK n s L k).1.K]
  | 0 => ⟨[], rfl⟩
  | k + 1 => by
    obtain ⟨T, hT⟩ := keptK_last n s L k
    cases ho : L[k]? with
    | none =>
      have e1 : keptK n s L (k + 1) = keptK n s L k := by rw [keptK, ho]
      have e2 : runK n s L (k + 1) = runK n s L k := by rw [runK, ho]
      rw [e1, e2]
      exact ⟨T, hT⟩
    | some o =>
      have e1 : keptK n s L (k + 1) = keptK n s L k ++ (if (doS n (runK n s L k).1 o).2 = 0 ∧ o.what = 6 then [(doS n (runK n s L k).1 o).1.K] else []) := by rw [keptK, ho]
      have e2 : (runK n s L (k + 1)).1 = (doS n (runK n s L k).1 o).1 := by rw [runK, ho]
      rw [e1, e2]
      by_cases h : (doS n (runK n s L k).1 o).2 = 0 ∧ o.what = 6
      · rw [if_pos h]
        exact ⟨keptK n s L k, rfl⟩
      · rw [if_neg h, List.append_nil, hT, doS_keep h]
        exact ⟨T, rfl⟩
theorem keptK_succ (n : Nat) (s : Sto) (L : List OpX) (k : Nat) (hk : k < L.length) : keptK n s L (k + 1) = keptK n s L k ++ (if (doS n (runK n s L k).1 L[k]).2 = 0 ∧ L[k].what = 6 then [(doS n (runK n s L k).1 L[k]).1.K] else []) := by
  rw [keptK, List.getElem?_eq_getElem hk]
theorem keptK_le (n : Nat) (s : Sto) (L : List OpX) : ∀ k, (keptK n s L k).length ≤ k + 1
  | 0 => Nat.le_refl _
  | k + 1 => by
    have ih := keptK_le n s L k
    unfold keptK
    split
    · rw [List.length_append]
      split
      · simp only [List.length_singleton]; omega
      · simp only [List.length_nil]; omega
    · omega
/-- a step says nothing, or that the power is gone -/
def ZS (ls : Nat) (r : Dv × Nat) : Prop := r.1.S.length = ls ∧ (r.2 = 0 ∨ r.2 = 9)
theorem ZS.wr {ls : Nat} {D : Dv} {i : Int} {b : Bytes} (h : D.S.length = ls) (h0 : 0 ≤ i) (h1 : i < ls) (hb : b.length = 32) : ZS ls (wrD D i b) := by
  refine ⟨by rw [wrD_len]; exact h, ?_⟩
  unfold wrD
  rw [if_neg (by omega), if_neg (by omega)]
  split
  · exact .inr rfl
  · dsimp only
    split
    · exact .inr rfl
    · exact .inl rfl
theorem ZS.fl {ls : Nat} {D : Dv} (h : D.S.length = ls) : ZS ls (flD D) := by
  refine ⟨by rw [flD_len]; exact h, ?_⟩
  unfold flD
  split
  · exact .inr rfl
  · split
    · exact .inr rfl
    · exact .inl rfl
theorem zs_run {X : Type} {f : Nat → X → Dv → Dv × Nat} {ls : Nat} {Q : Nat → X → Prop} (hf : ∀ k y D, D.S.length = ls → Q k y → ZS ls (f k y D)) : ∀ (l : List X) (k : Nat) (D : Dv), D.S.length = ls → (∀ j (hj : j < l.length), Q (k + j) l[j]) → ZS ls (runE f k l D)
  | [], _, D, h, _ => ⟨h, .inl rfl⟩
  | y :: r, k, D, h, hq => by
    rw [runE_cons]
    have h1 := hf k y D h (hq 0 (by simp))
    by_cases h0 : (f k y D).2 = 0
    · rw [if_pos h0]
      exact zs_run hf r (k + 1) _ h1.1 (fun j hj => by
        have := hq (j + 1) (by simpa using hj)
        rw [show k + 1 + j = k + (j + 1) by omega]
        exact this)
    · rw [if_neg h0]; exact h1
theorem zs_then {ls : Nat} {a : Dv × Nat} {g : Dv → Dv × Nat} (ha : ZS ls a) (hg : ∀ D, D.S.length = ls → ZS ls (g D)) : ZS ls (andThen a g) := by
  unfold andThen
  split
  · exact hg _ ha.1
  · exact ha
theorem commit_said {st n : Nat} {m : List (Int × Bytes)} {D : Dv} (hn : n + 48 ≤ D.S.length) (hc : ChkOk n m) (hst : st < 4294967295) : (commitP st n m D).2 = 0 ∨ (commitP st n m D).2 = 9 := by
  have h23 := hc.len
  have ha : (st + 1) % 2 < 2 := Nat.mod_lt _ (by decide)
  unfold commitP
  rw [chkP_ok hc, if_neg (by omega)]
  split
  · exact .inr rfl
  split
  · exact .inl rfl
  rw [if_neg (by omega)]
  generalize (st + 1) % 2 = a at *
  have hml : (markB (st + 1) m).length = 32 := makeB_len _ _ (by simp [numsB]; omega)
  refine (zs_then (zs_then (zs_then (zs_then (zs_then (zs_run (ls := D.S.length) (Q := fun k (y : Int × Bytes) => k < 23 ∧ y.2.length = 32) (fun k y E hE hq => ?_) m 0 D rfl (fun j hj => ⟨by omega, (hc.each m[j] (List.getElem_mem hj)).2.2⟩)) (fun E hE => ZS.fl hE)) (fun E hE => ?_)) (fun E hE => ZS.fl hE)) (fun E hE => zs_run (ls := D.S.length) (Q := fun _ (y : Int × Bytes) => 0 ≤ y.1 ∧ y.1 < n ∧ y.2.length = 32) (fun k y E' hE' hq => ?_) m 0 E hE (fun j hj => hc.each m[j] (List.getElem_mem hj)))) (fun E hE => ZS.fl hE)).2
  · exact ZS.wr (i := ((areaP a k : Nat) : Int)) hE (by omega) (by unfold areaP; omega) hq.2
  · exact ZS.wr (i := ((a : Nat) : Int)) hE (by omega) (by omega) hml
  · exact ZS.wr (i := 48 + y.1) hE' (by omega) (by omega) hq.2.2
/-- a store whose power may go, beside the same one whose power stays -/
structure CloS (nn n : Nat) (s s' : Sto) (nx : Bytes) (T : List Bytes) : Prop where
  lv : LvS nn n s nx
  inK : s.K ∈ T
  inX : nx ∈ T
  up : s.D.down = false → s.st = s'.st ∧ s.l = s'.l ∧ s.K = s'.K
theorem CloS.do_ {nn n : Nat} {s s' : Sto} {nx : Bytes} {T : List Bytes} (h : CloS nn n s s' nx T) (ho : StOk nn n s') (hst : s'.st < 4294967295) (o : OpX) :
    ∃ nx', CloS nn n (doS n s o).1 (doS n s' o).1 nx' (T ++ (if (doS n s' o).2 = 0 ∧ o.what = 6 then [(doS n s' o).1.K] else [])) := by
  obtain ⟨c1, c2⟩ := h.lv.commit
  by_cases h6 : o.what = 6
  · cases hd : s.D.down with
    | true =>
      obtain ⟨a, b⟩ := commit_dn (st := s.st) (n := n) (m := cutL s.l (dL s.l s.K n)) hd
      have a' : (cmS n s.st s.D s.l s.K).1 = s.D := a
      have b' : (cmS n s.st s.D s.l s.K).2 ≠ 0 := b
      have e : (doS n s o).1 = s := by
        unfold doS
        rw [if_pos h6, if_neg b', a']
      rw [e]
      exact ⟨nx, h.lv, List.mem_append_left _ h.inK, List.mem_append_left _ h.inX, fun hx => by rw [hd] at hx; cases hx⟩
    | false =>
      obtain ⟨u1, u2, u3⟩ := h.up hd
      by_cases hc : (dL s.l s.K n).length ≤ 23
      · have hc' : (dL s'.l s'.K n).length ≤ 23 := by rw [← u2, ← u3]; exact hc
        have h0' := (ho.said hst).1.2 hc'
        have hck := cut_chk ho hc'
        rw [← u2, ← u3] at hck
        have hlen : n + 48 ≤ s.D.S.length := by
          obtain ⟨-, l, hl⟩ := h.lv.on hd
          exact hl.hold.lens.2.1
        have e' : doS n s' o = (⟨(cmS n s'.st s'.D s'.l s'.K).1, if (dL s'.l s'.K n).length ≠ 0 then s'.st + 1 else s'.st, s'.l, s'.l⟩, 0) := by
          unfold doS
          rw [if_pos h6, if_pos h0']
        have hx : (doS n s' o).2 = 0 ∧ o.what = 6 := ⟨by rw [e'], h6⟩
        rw [if_pos hx, e']
        dsimp only
        by_cases h0 : (cmS n s.st s.D s.l s.K).2 = 0
        · have e : (doS n s o).1 = ⟨(cmS n s.st s.D s.l s.K).1, if (dL s.l s.K n).length ≠ 0 then s.st + 1 else s.st, s.l, s.l⟩ := by
            unfold doS
            rw [if_pos h6, if_pos h0]
          rw [e]
          refine ⟨s.l, c1 h0, ?_, ?_, fun _ => ⟨by dsimp only; rw [u1, u2, u3], u2, u2⟩⟩
          · rw [u2]; exact List.mem_append_right _ (List.mem_singleton.2 rfl)
          · rw [u2]; exact List.mem_append_right _ (List.mem_singleton.2 rfl)
        · have e : (doS n s o).1 = ⟨(cmS n s.st s.D s.l s.K).1, s.st, s.l, s.K⟩ := by
            unfold doS
            rw [if_pos h6, if_neg h0]
          have h9 : (cmS n s.st s.D s.l s.K).2 = 9 := (commit_said (st := s.st) (m := cutL s.l (dL s.l s.K n)) hlen hck (by omega)).resolve_left h0
          have hdn : (cmS n s.st s.D s.l s.K).1.down = true := commit_lost _ _ _ _ h9
          rw [e]
          refine ⟨_, c2 h0, List.mem_append_left _ h.inK, ?_, fun hx => by rw [hdn] at hx; cases hx⟩
          rw [if_pos ⟨hd, hdn⟩, u2]
          exact List.mem_append_right _ (List.mem_singleton.2 rfl)
      · have z : ∀ (st : Nat) (D : Dv), cmS n st D s.l s.K = (D, 4) := fun st D => cmS_full (by omega)
        have e : (doS n s o).1 = s := by
          unfold doS
          rw [if_pos h6, z, if_neg (show ¬ (4 : Nat) = 0 by decide)]
        have e' : doS n s' o = (s', 4) := by
          unfold doS
          rw [if_pos h6, ← u2, ← u3, z, if_neg (show ¬ (4 : Nat) = 0 by decide), u2, u3]
        rw [e, e']
        exact ⟨nx, h.lv, List.mem_append_left _ h.inK, List.mem_append_left _ h.inX, fun _ => ⟨u1, u2, u3⟩⟩
  · rw [if_neg (fun x => h6 x.2), List.append_nil]
    unfold doS
    rw [if_neg h6, if_neg h6]
    by_cases h7 : o.what = 7
    · rw [if_pos h7, if_pos h7]
      exact ⟨nx, h.lv.abort, h.inK, h.inX, fun hd => ⟨(h.up hd).1, (h.up hd).2.2, (h.up hd).2.2⟩⟩
    · rw [if_neg h7, if_neg h7]
      exact ⟨nx, h.lv.hop o, h.inK, h.inX, fun hd => ⟨(h.up hd).1, by dsimp only; rw [(h.up hd).2.1], (h.up hd).2.2⟩⟩
theorem clo_run {nn n : Nat} (h : StOk nn n (beg0 nn n)) (x : Int) (L : List OpX) (hL : L.length ≤ 1000000) : ∀ k, k ≤ L.length → ∃ nx, CloS nn n (runK n (begS nn n x) L k).1 (runK n (beg0 nn n) L k).1 nx (keptK n (beg0 nn n) L k)
  | 0, _ => ⟨_, begS_lv h x, List.mem_singleton.2 rfl, List.mem_singleton.2 rfl, fun _ => ⟨rfl, rfl, rfl⟩⟩
  | k + 1, hk => by
    obtain ⟨nx, ih⟩ := clo_run h x L hL k (by omega)
    obtain ⟨h1, h2⟩ := h.run L 2 (Nat.le_refl _) k (by omega) (by omega)
    rw [runK_succ n _ L k (by omega), runK_succ n _ L k (by omega), keptK_succ n _ L k (by omega)]
    exact ih.do_ h1 (by omega) L[k]
/-- whenever the power goes -/
theorem play_kept {nn n : Nat} (h : StOk nn n (beg0 nn n)) (x : Int) (L : List OpX) (hL : L.length ≤ 1000000) (keep : List Bool) (torn : Int) (c : Nat) (hc : c ≤ 32) {st : Nat} {N : Bytes} (hn : HdS nn n (crsD nn n x L keep torn c) st N) : N ∈ keptK n (beg0 nn n) L L.length := by
  obtain ⟨nx, hcl⟩ := clo_run h x L hL L.length (Nat.le_refl _)
  obtain ⟨st', l, N', h1, h2, h3⟩ := hcl.lv.crash keep torn c hc
  have hg : Good N' ∧ N'.length = 32 * n ∧ N' ∈ keptK n (beg0 nn n) L L.length := by
    rcases h3 with rfl | rfl
    · exact ⟨hcl.lv.gk, hcl.lv.lk, hcl.inK⟩
    · exact ⟨hcl.lv.gx, hcl.lv.lx, hcl.inX⟩
  have hd : HdS nn n (crsD nn n x L keep torn c) st' N' := ⟨⟨l, h1⟩, crash_wf hcl.lv.wf keep torn c hc, (crash_len _ _ _ _).trans hcl.lv.len, hg.1, hg.2.1⟩
  rw [hn.uniq hd (crsD_up _ _ _ _ _ _ _)]
  exact hg.2.2
theorem keptK_good {nn n : Nat} (h : StOk nn n (beg0 nn n)) (L : List OpX) (hL : L.length ≤ 1000000) : ∀ k, k ≤ L.length → ∀ x ∈ keptK n (beg0 nn n) L k, Good x
  | 0, _ => fun x hx => by
    obtain rfl := List.mem_singleton.1 hx
    exact h.gk
  | k + 1, hk => fun x hx => by
    rw [keptK_succ n _ L k (by omega)] at hx
    rcases List.mem_append.1 hx with h' | h'
    · exact keptK_good h L hL k (by omega) x h'
    · split at h'
      · obtain rfl := List.mem_singleton.1 h'
        obtain ⟨h1, h2⟩ := h.run L 2 (Nat.le_refl _) k (by omega) (by omega)
        exact (h1.do (by omega) L[k]).1.gk
      · simp at h'
end Go.Proofs.YtoieifphklodoaaGreat
/- Package play: Play. -/
namespace Go.Proofs.YtoieifphklodoaaGreat
open Go.RowKit Go.Maps Go.ChangeMaps

set_option maxRecDepth 100000 in
set_option maxHeartbeats 1000000 in
theorem play_ok (nn np : Nat) (OA : Option Addr) (m oc : Nat) (L : List OpX) (x : Int) (KA : Option Addr) (nk ck : Nat) (keep : List Bool) (torn cut : Int) (w : World) (hL : L.length = m) (hm : m ≤ 200) (h57 : 57 ≤ nn) (h3 : nn ≤ 300) (hnp : np = nP (newD nn)) (hr : RdX ocells 6 w OA L) (ho : ∀ x ∈ L, OpOk w x) (hx : x ≤ 9223372036854775807) (hk : keep.length = nk) (hrk : RdB w KA keep) :
    Calls Tryz.prog 12 #[.int .i64 (nn : Int), .slice OA m oc, .int .i64 x, .slice KA nk ck, .int .i64 torn, .int .i64 cut] w fun e w' => ∃ v1 v2 st N, e = .returned (.tuple #[v1, v2, .nilIface]) ∧ HdS nn np (crsD nn np x L keep torn (min 32 (max 0 cut)).toNat) st N ∧ w'.ownsRow w.heap.size 94 4 v1 (entriesL N).length ((entriesL N).flatMap ecells) ∧ w'.ownsRow w.heap.size 102 2 v2 (rootsL N).length ((rootsL N).flatMap rcells) ∧ Below w.heap.size w w' := by
  have HOK := Hidden.mk (beg0_ok nn h57 h3 np hnp)
  have HBG := Hidden.mk (begin_ok nn np OA m oc w hm h57 h3 hnp)
  have HR := Hidden.mk (And.intro hr (And.intro ho (And.intro hL (And.intro hk hrk))))
  have HST : Hidden (∀ k, (runK np (begS nn np x) L k).1.st ≤ 2 + k) := ⟨fun k => runK_st np (begS nn np x) L k⟩
  have HSUC : Hidden (∀ k (hk : k < L.length), (runK np (begS nn np x) L (k + 1)).1 = (doS np (runK np (begS nn np x) L k).1 L[k]).1) := ⟨fun k hk => by rw [runK_succ np _ L k hk]⟩
  have HHD := Hidden.mk (play_hd HOK.out x L keep torn (min 32 (max 0 cut)).toNat (by omega))
  have HCR : Hidden (crsD nn np x L keep torn (min 32 (max 0 cut)).toNat = crashD (runK np (begS nn np x) L m).1.D keep torn (min 32 (max 0 cut)).toNat) := ⟨by unfold crsD; rw [hL]⟩
  have HUP := Hidden.mk (crsD_up nn np x L keep torn (min 32 (max 0 cut)).toNat)
  clear hr ho h57 h3 hnp hL hk hrk
  go_enter Tryz.func12, Tryz.ntmps12
  go_wp2_with fail
  refine HBG.out.mono ?_
  rintro e w1 ⟨d, s, p, h, F1, GH1, rfl, hp⟩
  have HP := Hidden.mk hp
  have HF := Hidden.mk (hp.dev.fail x hx)
  clear hp HBG hx
  go_wp2_with fail
  refine HF.out.mono ?_
  rintro e w2 ⟨rfl, hd2, hk2⟩
  have HA : Hidden (PlAny w w2 F1 GH1 s p d h nn np (runK np (begS nn np x) L 0).1) := ⟨HP.out.fail x hd2 hk2⟩
  clear hd2 hk2 HF HP
  generalize begS nn np x = B at *
  go_wp2_with fail
  go_loopg [35] m (fun r iv wr => ∃ (k : Nat) (F GH : Nat → Prop), k ≤ m ∧ r = m - k ∧ iv = .int .i64 (k : Int) ∧ Hidden (PlAny w wr F GH s p d h nn np (runK np B L k).1))
  case atStart => exact ⟨0, F1, GH1, by omega, rfl, rfl, HA⟩
  case round =>
    obtain ⟨k, F, GH, hk, rfl, rfl, hst⟩ := hrel
    have HS := Hidden.mk hst.out
    clear hst HA
    by_cases hlt : k < m
    rotate_left
    · obtain rfl : k = m := by omega
      have e1 : decide ((k : Int) < k) = false := by simp
      have HS3 := HS
      clear hlt HS
      obtain ⟨st, N, hhd⟩ := HHD.out
      have HN := Hidden.mk hhd
      have hDC := HCR.out
      have HCD := Hidden.mk (HS3.out.dev.crash KA nk ck keep torn cut HR.out.2.2.2.1 (HR.out.2.2.2.2.below HS3.out.dev.bel) (fun h0 ad e hf => by
        obtain ⟨qb, off, e2, hc⟩ := HR.out.2.2.2.2 0 (by rw [HR.out.2.2.2.1]; exact h0)
        rw [e] at e2
        obtain rfl := Option.some.inj e2
        have := block_lt_of_cell hc
        have := HS3.out.dev.new _ hf
        dsimp only at *
        omega))
      rw [← hDC] at HCD
      generalize hDC0 : crsD nn np x L keep torn (min 32 (max 0 cut)).toNat = DC at *
      have HDC0 := Hidden.mk hDC0
      clear hhd HHD hDC hDC0 HCR HST HSUC
      go_wp2_with fail
      refine HCD.out.mono ?_
      rintro e w4 ⟨rfl, hd4, hk4⟩
      have hop := HN.out.open_
      have h0 : (openP DC).2 = 0 := by
        rcases hop.2.1 with h1 | h1
        · exact h1
        · exact absurd h1 (open_stays HUP.out).2
      obtain ⟨q1, q2, q3, q4, q5, q6, q7, q8⟩ := hop.2.2 h0
      have hn2 : np = nP (openP DC).1 := by obtain ⟨l, hl⟩ := q6; exact hl.hold.n0
      have HOP := Hidden.mk (sopen_ok hd4 h0 q1 q3 hn2 q2 q8 N q7 HN.out.gn)
      clear hd4 hk4 hop h0 q1 q2 q3 q4 q5 q6 q7 q8 hn2 HCD HS3
      go_wp2_with fail
      refine HOP.out.mono ?_
      rintro e w5 ⟨sa, pa, ha, gka, cka, F5, GA, rfl, hsn⟩
      have HSN := Hidden.mk (And.intro hsn.st hsn.dev.bel)
      clear hsn HOP
      go_wp2_with fail
      refine (stheap_any HSN.out.1).mono ?_
      rintro e w6 ⟨rfl, rfl⟩
      go_wp2_with fail
      refine (hentries_any HSN.out.1.hp).mono ?_
      rintro e w6 ⟨v1, rfl, hown1, hb6⟩
      have HSN6 := Hidden.mk (And.intro (HSN.out.1.below hb6) (HSN.out.2.trans (hb6.mono HSN.out.2.size)))
      have HO1 : Hidden (w6.ownsRow w.heap.size 94 4 v1 (entriesL N).length ((entriesL N).flatMap ecells)) := ⟨own_base hown1 HSN.out.2.size⟩
      clear hown1 hb6 HSN
      go_wp2_with fail
      refine (stheap_any HSN6.out.1).mono ?_
      rintro e w7 ⟨rfl, rfl⟩
      go_wp2_with fail
      refine (hroots_any HSN6.out.1.hp).mono ?_
      rintro e w7 ⟨v2, rfl, hown2, hb7⟩
      have HF : Hidden (w7.ownsRow w.heap.size 94 4 v1 (entriesL N).length ((entriesL N).flatMap ecells) ∧ w7.ownsRow w.heap.size 102 2 v2 (rootsL N).length ((rootsL N).flatMap rcells) ∧ Below w.heap.size w w7) := ⟨own_below HO1.out hb7, own_base hown2 HSN6.out.2.size, HSN6.out.2.trans (hb7.mono HSN6.out.2.size)⟩
      clear hown2 hb7 HO1
      go_wp2_with fail
      go_ret3
      exact ⟨v1, v2, st, N, rfl, by rw [HDC0.out]; exact HN.out, HF.out⟩
    have e1 : decide ((k : Int) < m) = true := by simp; omega
    have e1' : decide (k < m) = true := by simpa using hlt
    have i0 : (0 : Int) ≤ k := by omega
    have i1 : (k : Int) < m := by omega
    have s1 : IntKind.i64.wrap ((k : Int) + 1) = (k : Int) + 1 := IntWalk.i64_in _ (by omega)
    have hkl : k < L.length := by rw [HR.out.2.2.1]; exact hlt
    obtain ⟨pb, off, rfl, x0, x1, x2, x3, x4, x5⟩ := ops_at (HR.out.1.below HS.out.dev.bel) k hkl
    have HKO := Hidden.mk (HR.out.2.1 _ (List.getElem_mem hkl))
    have HSK := Hidden.mk (HST.out k)
    have HNX := Hidden.mk (HSUC.out k hkl)
    generalize hq1 : (runK np B L (k + 1)).1 = S1 at *
    generalize hq2 : (runK np B L k).1 = S at *
    have HDO : Hidden (∀ W F GH, PlAny w W F GH s p d h nn np S → Calls Tryz.prog 10 #[.pointer (some ⟨s, 0, none⟩), opV L[k]] W fun e w' => e = .returned (errV (doS np S L[k]).2) ∧ ∃ F' GH', PlAny w w' F' GH' s p d h nn np (doS np S L[k]).1) := ⟨fun W F GH hW => hW.do_ (by have := HSK.out; omega) L[k] HKO.out⟩
    unfold opV at HDO
    generalize doS np S L[k] = R at *
    generalize L[k] = o at *
    obtain ⟨what, handle, at_, len, name, bA, bc, body⟩ := o
    dsimp only at *
    have hal := (Below.refl wr.heap.size wr).alloc (Nat.le_refl _) (.cells #[.int .i64 what, .int .i64 handle, .int .i64 at_, .int .i64 len, sv name, .slice bA body.length bc] 40)
    have h6 := six6_cells wr (.int .i64 what) (.int .i64 handle) (.int .i64 at_) (.int .i64 len) (sv name) (.slice bA body.length bc) 40
    have HDC := Hidden.mk (HDO.out _ F GH (HS.out.below hal))
    clear hal HDO HS HSK
    go_upto_region 8 with (fail)
    generalize wr.alloc (.cells #[.int .i64 what, .int .i64 handle, .int .i64 at_, .int .i64 len, sv name, .slice bA body.length bc] 40) = W1 at *
    generalize wr.heap.size = bx at *
    obtain ⟨c0, c1, c2, c3, c4, c5'⟩ := h6
    clear x0 x1 x2 x3 x4 x5
    go_wp2_with fail
    refine HDC.out.mono ?_
    rintro e w6 ⟨rfl, F6, GH6, hp6⟩
    have HP6 : Hidden (PlAny w w6 F6 GH6 s p d h nn np S1) := ⟨by rw [HNX.out]; exact hp6⟩
    clear hp6 HDC c0 c1 c2 c3 c4 c5'
    go_wp2_with fail
    go_roundg (m - (k + 1))
    case measure => omega
    case rel => exact ⟨k + 1, F6, GH6, by omega, rfl, by go_num, by rw [hq1]; exact HP6⟩
end Go.Proofs.YtoieifphklodoaaGreat
/- The closed fact of package vaulttop: one. -/
namespace Go.Proofs.YtoieifphklodoaaGreat
open Go.RowKit Go.Maps Go.ChangeMaps

theorem PlSt.heap1 {w0 w w' : World} {F GH GH' : Nat → Prop} {s p d h nn n : Nat} {S : Sto} {l' : Bytes} (a : PlSt w0 w F GH s p d h nn n S) (hm : HpM w0 w w' GH GH' h l') (hg : Good l') (hl : l'.length = S.l.length) : PlSt w0 w' F GH' s p d h nn n ⟨S.D, S.st, l', S.K⟩ := by
  obtain ⟨gk, ck, hs⟩ := a.st
  exact ⟨a.dev.keep hm.kp (fun q hq hg => hs.gf q hg hq) hs.hp.new, ⟨gk, ck, hs.heap hm a.dev.flt⟩, a.ok.sf, a.ok.kb, hg, a.ok.gk, hl.trans a.ok.ll, a.ok.lk, a.ok.n1, a.ok.n2⟩
/-- the images that it comes by -/
theorem one_is : ∃ l1 l2 l3 : Bytes, allocL (List.replicate 384 0) 2 3 = l1 ∧ writeL l1 1 0 [8, 9] = l2 ∧ writeL l2 1 0 [1, 1] = l3 ∧ allocE (List.replicate 384 0) 2 3 = 0 ∧ allocH (List.replicate 384 0) 2 3 = 1 ∧ someE l1 1 0 2 = 0 ∧ someE l2 1 0 2 = 0 ∧ Good l1 ∧ Good l2 ∧ Good l3 ∧ l1.length = 384 ∧ l2.length = 384 ∧ l3.length = 384 ∧ readL l2 1 0 2 = [8, 9] := by
  have hr : rightB (384 : Int) = true := rfl
  have hg : Good (List.replicate 384 0) := good_zero' rfl
  have hz : ∀ j, j < 40 → hasE (rawE (List.replicate 384 0) j) = false := fun j hj => by
    rw [show rawE (List.replicate 384 0) j = List.replicate 5 0 from zeros_cut' 384 (5 * j) 5 (by omega)]; exact zeros_has
  have hfh : fH (List.replicate 384 0) 40 = 1 := by
    rcases fH_spec (List.replicate 384 0) 40 (Nat.le_refl _) with ⟨_, hall⟩ | ⟨q, _, k2, k3, k4, k5⟩
    · have := hall 0 (by omega) (by omega)
      rw [hz 0 (by omega)] at this; cases this
    · rw [k3]
      by_cases hq : q = 0
      · rw [hq]
      · have := k5 0 (by omega) (by omega)
        rw [hz 0 (by omega)] at this; cases this
  have hc := good_chk hg
  have hlen : (List.replicate 384 (0 : UInt8)).length = 384 := List.length_replicate
  generalize List.replicate 384 (0 : UInt8) = l at *
  rw [hlen] at hc
  have hf : fitE ((384 : Nat) - 288 : Int) (takenL l) 2 = 0 := fit_exists hc (p := 0) (by omega) (by omega) (by omega) (fun e he => by
    obtain ⟨j, hj, hh, _⟩ := takenL_mem.1 he
    rw [hz j hj] at hh; cases hh)
  have hE : allocE l 2 3 = 0 := by
    unfold allocE
    rw [if_neg (by rw [lenB_true.2 ⟨by omega, by omega⟩, tagB_true.2 ⟨by omega, by omega⟩]; simp), hlen, if_neg (by rw [hfh, hf]; decide)]
  have hH : allocH l 2 3 = 1 := by unfold allocH; rw [if_pos hE, hfh]; rfl
  have hga : Good (allocL l 2 3) ∧ (allocL l 2 3).length = 384 := by
    obtain ⟨k, a, n', t', _, _, _, _, hi⟩ := alloc_is hg hE
    exact ⟨hi.good hg, hi.len.trans hlen⟩
  obtain ⟨-, -, -, -, h5, -⟩ := alloc_read hg hE
  rw [hH] at h5
  generalize allocL l 2 3 = l1 at *
  obtain ⟨w1, w2⟩ := write_read hga.1 (x := 1) (c := 0) (b := [8, 9]) h5
  have hg2 := write_good hga.1 1 0 [8, 9]
  have hl2 : (writeL l1 1 0 [8, 9]).length = 384 := by
    obtain ⟨k, o, _, _, hw⟩ := write_is hga.1 (x := 1) (c := 0) (b := [8, 9]) h5
    exact hw.len.trans hga.2
  generalize hq2 : writeL l1 1 0 [8, 9] = l2 at *
  have hg3 := write_good hg2 1 0 [1, 1]
  have hl3 : (writeL l2 1 0 [1, 1]).length = 384 := by
    obtain ⟨k, o, _, _, hw⟩ := write_is hg2 (x := 1) (c := 0) (b := [1, 1]) w1
    exact hw.len.trans hl2
  exact ⟨l1, l2, _, rfl, hq2, rfl, hE, hH, h5, w1, hga.1, hg2, hg3, hga.2, hl2, hl3, w2⟩
theorem two_rd (w : World) (a b : UInt8) : Rd (w.alloc (.cells #[bv a, bv b] 5)) (some ⟨w.heap.size, 0, none⟩) [a, b] := by
  have hh := heap_alloc_new w (.cells #[bv a, bv b] 5)
  intro j hj
  refine ⟨w.heap.size, 0, rfl, ?_⟩
  simp only [World.cell?]
  rw [hh]
  match j, hj with
  | 0, _ => rfl
  | 1, _ => rfl
theorem np60' : 12 = nP (newD 60) := by unfold nP; rw [newD_len]; decide
set_option maxRecDepth 100000 in
set_option maxHeartbeats 2000000 in
theorem one_ok (w : World) : Calls Tryz.prog 5 #[] w fun e w' => e = .returned (.bool true) ∧ Below w.heap.size w w' := by
  obtain ⟨l1, l2, l3, e1, e2, e3, e4, e5, e6, e7, g1, g2, g3, n1, n2, n3, e8⟩ := one_is
  have HQ := Hidden.mk (And.intro g1 (And.intro g2 (And.intro g3 (And.intro n1 (And.intro n2 n3)))))
  have HN := Hidden.mk (dnewB 60 w (by decide) (by decide))
  have HOK := Hidden.mk (beg0_ok 60 (by decide) (by decide) 12 np60')
  go_enter Tryz.func5, Tryz.ntmps5
  go_wp2_with fail
  refine HN.out.mono ?_
  rintro e w1 ⟨d, F0, rfl, hd⟩
  have HC := Hidden.mk (screate_ok 60 12 hd (by decide) (by decide) np60')
  clear hd HN
  go_wp2_with fail
  refine HC.out.mono ?_
  rintro e w2 ⟨s, p, h, gk, ck, F1, GH1, rfl, hmk⟩
  have HP2 : Hidden (PlSt w w2 F1 GH1 s p d h 60 12 (beg0 60 12)) := ⟨⟨hmk.dev, ⟨gk, ck, hmk.st⟩, HOK.out⟩⟩
  clear hmk HC HOK
  have HA : Hidden (Calls Tryz.prog 17 #[.pointer (some ⟨h, 0, none⟩), .int .i64 2, .int .i64 3] w2 fun e w' => e = .returned (.tuple #[.int .i64 1, .nilIface]) ∧ ∃ F', HpM w w2 w' GH1 F' h l1) := ⟨by
    obtain ⟨gk, ck, hs⟩ := HP2.out.st
    have := halloc_any 2 3 hs.hp
    rw [show (beg0 60 12).l = List.replicate 384 0 from rfl, e4, e5, e1, errV0] at this
    exact this⟩
  go_wp2_with fail
  refine HP2.out.heap_.mono ?_
  rintro e w3 ⟨rfl, rfl⟩
  go_wp2_with fail
  refine HA.out.mono ?_
  rintro e w3 ⟨rfl, GH3, hm3⟩
  have HP3 := Hidden.mk (HP2.out.heap1 hm3 HQ.out.1 (by rw [HQ.out.2.2.2.1]; show _ = (List.replicate 384 (0 : UInt8)).length; simp))
  clear hm3 HA HP2
  go_wp2_with fail
  refine HP3.out.heap_.mono ?_
  rintro e w4 ⟨rfl, rfl⟩
  have hal := (Below.refl w3.heap.size w3).alloc (Nat.le_refl _) (.cells #[bv 8, bv 9] 5)
  have HP4 := Hidden.mk (HP3.out.below hal)
  have HW : Hidden (Calls Tryz.prog 18 #[.pointer (some ⟨h, 0, none⟩), .int .i64 1, .int .i64 0, .slice (some ⟨w3.heap.size, 0, none⟩) 2 2] (w3.alloc (.cells #[bv 8, bv 9] 5)) fun e w' => e = .returned .nilIface ∧ HpM w (w3.alloc (.cells #[bv 8, bv 9] 5)) w' GH3 GH3 h l2) := ⟨by
    obtain ⟨gk, ck, hs⟩ := HP4.out.st
    have := hwrite_any 1 0 (some ⟨w3.heap.size, 0, none⟩) 2 2 [8, 9] hs.hp HQ.out.1 rfl (by decide) (two_rd w3 8 9)
    rw [e2] at this
    rw [show ((2 : Nat) : Int) = 2 from rfl, e6, errV0] at this
    exact this⟩
  clear hal HP3
  go_wp2_with fail
  refine HW.out.mono ?_
  rintro e w5 ⟨rfl, hm5⟩
  have HP5 := Hidden.mk (HP4.out.heap1 hm5 HQ.out.2.1 (by rw [HQ.out.2.2.2.2.1]; exact HQ.out.2.2.2.1.symm))
  have HCM := Hidden.mk (HP5.out.commit (show (2 : Nat) < 4294967295 by decide))
  have HSD := Hidden.mk (HP5.out.ok.said (show (2 : Nat) < 4294967295 by decide))
  dsimp only at HCM HSD
  have hdl := dL_le l2 (beg0 60 12).K 12
  have hz := HSD.out.1.2 (by omega)
  obtain ⟨R, hR⟩ : ∃ R, cmS 12 (beg0 60 12).st (beg0 60 12).D l2 (beg0 60 12).K = R := ⟨_, rfl⟩
  rw [hR] at HCM hz
  rw [hz] at HCM
  clear hm5 HW HSD hdl hR HP4
  generalize (if (dL l2 (beg0 60 12).K 12).length ≠ 0 then (beg0 60 12).st + 1 else (beg0 60 12).st) = st6 at *
  rw [errV0] at HCM
  go_wp2_with fail
  refine HCM.out.mono ?_
  rintro e w6 ⟨rfl, -, hm6⟩
  obtain ⟨F6, hm6⟩ := hm6 trivial
  have HP6 := Hidden.mk hm6.pl
  clear hm6 HCM hz HP5
  go_wp2_with fail
  refine HP6.out.heap_.mono ?_
  rintro e w7 ⟨rfl, rfl⟩
  have hal := (Below.refl w6.heap.size w6).alloc (Nat.le_refl _) (.cells #[bv 1, bv 1] 5)
  have HP7 := Hidden.mk (HP6.out.below hal)
  have HW : Hidden (Calls Tryz.prog 18 #[.pointer (some ⟨h, 0, none⟩), .int .i64 1, .int .i64 0, .slice (some ⟨w6.heap.size, 0, none⟩) 2 2] (w6.alloc (.cells #[bv 1, bv 1] 5)) fun e w' => e = .returned .nilIface ∧ HpM w (w6.alloc (.cells #[bv 1, bv 1] 5)) w' GH3 GH3 h l3) := ⟨by
    obtain ⟨gk, ck, hs⟩ := HP7.out.st
    have := hwrite_any 1 0 (some ⟨w6.heap.size, 0, none⟩) 2 2 [1, 1] hs.hp HQ.out.2.1 rfl (by decide) (two_rd w6 1 1)
    rw [e3] at this
    rw [show ((2 : Nat) : Int) = 2 from rfl, e7, errV0] at this
    exact this⟩
  clear hal HP6
  go_wp2_with fail
  refine HW.out.mono ?_
  rintro e w8 ⟨rfl, hm8⟩
  have HP8 := Hidden.mk (HP7.out.heap1 hm8 HQ.out.2.2.1 (by rw [HQ.out.2.2.2.2.2]; exact HQ.out.2.2.2.2.1.symm))
  have HCD := Hidden.mk (HP8.out.dev.crash none 0 0 [] (-1) 0 rfl (fun j hj => by simp at hj) (fun h0 => by omega))
  have HDD := Hidden.mk (HP8.out.ok.hd.crash [] (-1) (min 32 (max 0 (0 : Int))).toNat (by decide))
  try dsimp only at HCD HDD
  have HUP : Hidden (Up (crashD R.1 [] (-1) (min 32 (max 0 (0 : Int))).toNat)) := ⟨rfl, rfl⟩
  generalize crashD R.1 [] (-1) (min 32 (max 0 (0 : Int))).toNat = DC at *
  clear hm8 HW HP7 HP8
  go_wp2_with fail
  refine HCD.out.mono ?_
  rintro e w9 ⟨rfl, hd9, hk9⟩
  have hop := HDD.out.open_
  have h0 : (openP DC).2 = 0 := by
    rcases hop.2.1 with h1 | h1
    · exact h1
    · exact absurd h1 (open_stays HUP.out).2
  obtain ⟨q1, q2, q3, q4, q5, q6, q7, q8⟩ := hop.2.2 h0
  have hn2 : 12 = nP (openP DC).1 := by obtain ⟨l, hl⟩ := q6; exact hl.hold.n0
  have HOP := Hidden.mk (sopen_ok hd9 h0 q1 q3 hn2 q2 q8 l2 q7 HDD.out.gn)
  clear hd9 hk9 hop h0 q1 q2 q3 q4 q5 q6 q7 q8 hn2 HCD HDD
  go_wp2_with fail
  refine HOP.out.mono ?_
  rintro e w10 ⟨sa, pa, ha, gka, cka, F5, GA, rfl, hsn⟩
  have HSN := Hidden.mk (And.intro hsn.st hsn.dev.bel)
  clear hsn HOP
  have HRD := Hidden.mk (hread_any 1 0 2 HSN.out.1.hp HQ.out.2.1 (by decide))
  rw [e7, e8, errV0] at HRD
  go_wp2_with fail
  refine (stheap_any HSN.out.1).mono ?_
  rintro e w11 ⟨rfl, rfl⟩
  go_wp2_with fail
  refine HRD.out.mono ?_
  rintro e w12 ⟨A', c', rfl, hc', hrd, -, hb⟩
  have HB := Hidden.mk (HSN.out.2.trans (hb.mono HSN.out.2.size))
  obtain ⟨bb, off, rfl, c0⟩ := hrd 0 (by decide)
  have c1 := hrd 1 (by decide)
  obtain ⟨bb', off', e9, c1⟩ := c1
  simp only [Option.some.injEq, Addr.mk.injEq, and_true] at e9
  obtain ⟨rfl, rfl⟩ := e9
  rw [Nat.add_zero] at c0
  have c0' : w12.cell? ⟨bb, off, none⟩ = some (.int .u8 8) := c0
  have c1' : w12.cell? ⟨bb, off + 1, none⟩ = some (.int .u8 9) := c1
  clear hrd c0 c1 hb hc' HRD HSN
  go_wp2_with fail
  go_ret
  exact ⟨rfl, HB.out⟩
end Go.Proofs.YtoieifphklodoaaGreat
/- What was kept, at hand in a row of rows, beside a store that is played with. -/
namespace Go.Proofs.YtoieifphklodoaaGreat
open Go.RowKit Go.Maps Go.ChangeMaps

def rowsV (R : List (Nat × Nat)) : List Value := R.map fun x => .slice (some ⟨x.1, 0, none⟩) 512 x.2
structure StT (w0 wr : World) (F GH : Nat → Prop) (s p : Nat) (v : Value) (T : List Bytes) (R : List (Nat × Nat)) : Prop where
  len : R.length = T.length
  own : wr.ownsRow w0.heap.size 33 1 v T.length (rowsV R)
  row : ∀ i (h : i < R.length) (h' : i < T.length), RowO w0 wr F GH R[i].1 R[i].2 T[i]
  far : ∀ q, v.ownBlock = some q → ¬ F q ∧ ¬ GH q ∧ q ≠ s ∧ q ≠ p
  l512 : ∀ x ∈ T, x.length = 512
section
variable {w0 w w' : World} {F F' GH GH' : Nat → Prop} {s p d h nn n g c : Nat} {S : Sto} {v : Value} {T : List Bytes} {R : List (Nat × Nat)} {x : Bytes}
theorem StT.below (a : StT w0 w F GH s p v T R) (hb : Below w.heap.size w w') : StT w0 w' F GH s p v T R :=
  ⟨a.len, own_below a.own hb, fun i h h' => (a.row i h h').below hb, a.far, a.l512⟩
theorem StT.turn {gk ck st : Nat} {l K : Bytes} (a : StT w0 w F GH s p v T R) (hs : StH w0 w F GH s p d h gk ck st n l K) (hk : Keep (fun q => (F q ∨ GH q) ∨ (q = s ∨ q = p)) w w') (hF : ∀ q, F' q → F q ∨ w.heap.size ≤ q) (hG : ∀ q, GH' q → GH q ∨ w.heap.size ≤ q) : StT w0 w' F' GH' s p v T R := by
  refine ⟨a.len, ownsRow_block a.own fun q hq => ?_, fun i h h' => (a.row i h h').turn hs hk hF hG, fun q hq => ?_, a.l512⟩
  · obtain ⟨f1, f2, f3, f4⟩ := a.far q hq
    exact hk.block q (a.own.lt q hq).2 (fun hf => by
      rcases hf with (hf | hf) | hf | hf
      · exact f1 hf
      · exact f2 hf
      · exact f3 hf
      · exact f4 hf)
  · obtain ⟨f1, f2, f3, f4⟩ := a.far q hq
    have hl := (a.own.lt q hq).2
    exact ⟨fun hf => by
      rcases hF q hf with h' | h'
      · exact f1 h'
      · omega, fun hf => by
      rcases hG q hf with h' | h'
      · exact f2 h'
      · omega, f3, f4⟩
/-- only the row of rows is written -/
theorem StT.keepO (a : StT w0 w F GH s p v T R) (hg : w.grownBy w' v.ownBlock) : Keep (fun q => v.ownBlock = some q) w w' :=
  ⟨hg.os, hg.tape, hg.output, hg.size, fun k hk hn => hg.block k hk (fun e => hn e.symm)⟩
theorem PlSt.written (a : PlSt w0 w F GH s p d h nn n S) (t : StT w0 w F GH s p v T R) (hg : w.grownBy w' v.ownBlock) : PlSt w0 w' F GH s p d h nn n S := by
  obtain ⟨gk, ck, hs⟩ := a.st
  have hk := t.keepO hg
  have h0 : ∀ q, v.ownBlock = some q → w0.heap.size ≤ q := fun q hq => (t.own.lt q hq).1
  refine ⟨a.dev.keep hk (fun q hq e => (t.far q e).1 hq) h0, ⟨gk, ck, hs.keep hk (fun q hq e => ?_) h0 (fun q hq => .inl hq)⟩, a.ok⟩
  obtain ⟨f1, f2, f3, f4⟩ := t.far q e
  rcases hq with hq | rfl | rfl | rfl
  · exact f2 hq
  · exact f3 rfl
  · exact f4 rfl
  · obtain ⟨cur, hcur, -⟩ := hs.kep
    exact DevIs.ne_own hcur t.own (by decide) e
theorem StT.push (t : StT w0 w F GH s p v T R) (a : PlSt w0 w F GH s p d h nn n S) (hr : RowO w0 w F GH g c x) (hx : x.length = 512) {v8 : Value} (hg : w.grownBy w' v.ownBlock) (ho : w'.ownsRow w0.heap.size 33 1 v8 (T.length + 1) (rowsV R ++ [.slice (some ⟨g, 0, none⟩) 512 c])) (hat : ∀ q, v8.ownBlock = some q → v.ownBlock = some q ∨ w.heap.size ≤ q) : StT w0 w' F GH s p v8 (T ++ [x]) (R ++ [(g, c)]) := by
  obtain ⟨gk, ck, hs⟩ := a.st
  obtain ⟨l1, l2, l3⟩ := hs.lt
  have hk := t.keepO hg
  have hrow : ∀ {g' c' : Nat} {y : Bytes}, RowO w0 w F GH g' c' y → RowO w0 w' F GH g' c' y := fun {g' c' y} hr => by
    have : v.ownBlock ≠ some g' := by
      obtain ⟨cur, hcur, -⟩ := hr.row
      exact DevIs.ne_own hcur t.own (by decide)
    exact ⟨hk.row hr.row this, hr.nf, hr.ng, hr.base⟩
  refine ⟨by simp [t.len], by rw [List.length_append]; simpa [rowsV] using ho, fun i h1 h2 => ?_, fun q hq => ?_, fun y hy => ?_⟩
  · by_cases hi : i < R.length
    · have hi' : i < T.length := by rw [← t.len]; exact hi
      rw [List.getElem_append_left hi, List.getElem_append_left hi']
      exact hrow (t.row i hi hi')
    · have hi2 : i = R.length := by simp at h1; omega
      subst hi2
      have : (T ++ [x])[R.length] = x := by
        rw [List.getElem_append_right (by rw [t.len]; exact Nat.le_refl _)]
        simp [t.len]
      rw [this, List.getElem_append_right (Nat.le_refl _)]
      simpa using hrow hr
  · rcases hat q hq with h' | h'
    · exact t.far q h'
    · exact ⟨fun hf => by have := a.dev.flt q hf; omega, fun hf => by have := hs.hp.flt q hf; omega, by omega, by omega⟩
  · rcases List.mem_append.1 hy with h' | h'
    · exact t.l512 y h'
    · obtain rfl := List.mem_singleton.1 h'
      exact hx
end
end Go.Proofs.YtoieifphklodoaaGreat
/- vaultsame.Entries and Roots of lists that are the same. -/
namespace Go.Proofs.YtoieifphklodoaaGreat
open Go.RowKit

set_option maxRecDepth 100000 in
theorem sameEnts_eq (A B : Option Addr) (ca cb : Nat) (L : List (Int × Bytes)) (w : World) (hl : L.length ≤ 1000) (hA : RdX ecells 4 w A L) (hB : RdX ecells 4 w B L) :
    Calls Tryz.prog 15 #[.slice A L.length ca, .slice B L.length cb] w fun e w' => e = .returned (.bool true) ∧ Below w.heap.size w w' := by
  have HA := Hidden.mk hA
  have HB := Hidden.mk hB
  clear hA hB
  go_enter Tryz.func15, Tryz.ntmps15
  go_wp2_with fail
  go_loopg [5] L.length (fun m i wr => ∃ j : Nat, j ≤ L.length ∧ m = L.length - j ∧ i = .int .i64 (j : Int) ∧ Below w.heap.size w wr)
  case atStart => exact ⟨0, by omega, rfl, rfl, Below.refl _ _⟩
  case round =>
    obtain ⟨j, hj, rfl, rfl, hbel⟩ := hrel
    by_cases hlt : j < L.length
    · have hp' := (HA.out.below hbel) j hlt
      obtain ⟨p, off, rfl, hp'⟩ := hp'
      have hq' := (HB.out.below hbel) j hlt
      obtain ⟨q, oq, rfl, hq'⟩ := hq'
      have x0 := hp' 0 _ rfl
      have x1 := hp' 1 _ rfl
      have x2 := hp' 2 _ rfl
      have x3 := hp' 3 _ rfl
      have y0 := hq' 0 _ rfl
      have y1 := hq' 1 _ rfl
      have y2 := hq' 2 _ rfl
      have y3 := hq' 3 _ rfl
      rw [Nat.add_zero] at x0 y0
      generalize (L[j].1 : Int) = b0 at *
      generalize (rAt L[j].2 : Int) = b1 at *
      generalize (rLen L[j].2 : Int) = b2 at *
      generalize (rTag L[j].2 : Int) = b3 at *
      have k0 : (0 : Int) ≤ j := by omega
      have k1 : (j : Int) < L.length := by omega
      have HBL := Hidden.mk hbel
      clear hp' hq' hbel
      go_wp2_with fail
      go_quiet (fail)
      clear x0 x1 x2 x3 y0 y1 y2 y3
      have hbn := below_drewN HBL.out nq
      go_wp2_with fail
      go_roundg (L.length - (j + 1))
      case measure => omega
      case rel => exact ⟨j + 1, by omega, rfl, by go_num, hbn⟩
    · obtain rfl : j = L.length := by omega
      go_wp2_with fail
      go_ret
      exact ⟨rfl, hbel⟩
set_option maxRecDepth 100000 in
theorem sameRoots_eq (A B : Option Addr) (ca cb : Nat) (L : List (Bytes × Nat)) (w : World) (hl : L.length ≤ 1000) (hA : RdX rcells 2 w A L) (hB : RdX rcells 2 w B L) :
    Calls Tryz.prog 16 #[.slice A L.length ca, .slice B L.length cb] w fun e w' => e = .returned (.bool true) ∧ Below w.heap.size w w' := by
  have HA := Hidden.mk hA
  have HB := Hidden.mk hB
  clear hA hB
  go_enter Tryz.func16, Tryz.ntmps16
  go_wp2_with fail
  go_loopg [5] L.length (fun m i wr => ∃ j : Nat, j ≤ L.length ∧ m = L.length - j ∧ i = .int .i64 (j : Int) ∧ Below w.heap.size w wr)
  case atStart => exact ⟨0, by omega, rfl, rfl, Below.refl _ _⟩
  case round =>
    obtain ⟨j, hj, rfl, rfl, hbel⟩ := hrel
    by_cases hlt : j < L.length
    · have hp' := (HA.out.below hbel) j hlt
      obtain ⟨p, off, rfl, hp'⟩ := hp'
      have hq' := (HB.out.below hbel) j hlt
      obtain ⟨q, oq, rfl, hq'⟩ := hq'
      have x0 := hp' 0 _ rfl
      have x1 := hp' 1 _ rfl
      have y0 := hq' 0 _ rfl
      have y1 := hq' 1 _ rfl
      rw [Nat.add_zero] at x0 y0
      generalize L[j].1 = b0 at *
      generalize (L[j].2 : Int) = b1 at *
      have k0 : (0 : Int) ≤ j := by omega
      have k1 : (j : Int) < L.length := by omega
      have HBL := Hidden.mk hbel
      clear hp' hq' hbel
      go_wp2_with fail
      go_quiet (fail)
      clear x0 x1 y0 y1
      have hbn := below_drewN HBL.out nq
      go_wp2_with fail
      go_roundg (L.length - (j + 1))
      case measure => omega
      case rel => exact ⟨j + 1, by omega, rfl, by go_num, hbn⟩
    · obtain rfl : j = L.length := by omega
      go_wp2_with fail
      go_ret
      exact ⟨rfl, hbel⟩
end Go.Proofs.YtoieifphklodoaaGreat
/- vaultsame.Entries and Roots of whatever lists. -/
namespace Go.Proofs.YtoieifphklodoaaGreat
open Go.RowKit

set_option maxRecDepth 100000 in
theorem sameEnts_len (A B : Option Addr) (ca cb : Nat) (L M : List (Int × Bytes)) (w : World) (hl : L.length ≤ 1000) (hlm : M.length = L.length) (hA : RdX ecells 4 w A L) (hB : RdX ecells 4 w B M) :
    Calls Tryz.prog 15 #[.slice A L.length ca, .slice B L.length cb] w fun e w' => (∃ b, e = .returned (.bool b)) ∧ Below w.heap.size w w' := by
  have HA := Hidden.mk hA
  have HB := Hidden.mk hB
  clear hA hB
  go_enter Tryz.func15, Tryz.ntmps15
  go_wp2_with fail
  go_loopg [5] L.length (fun m i wr => ∃ j : Nat, j ≤ L.length ∧ m = L.length - j ∧ i = .int .i64 (j : Int) ∧ Below w.heap.size w wr)
  case atStart => exact ⟨0, by omega, rfl, rfl, Below.refl _ _⟩
  case round =>
    obtain ⟨j, hj, rfl, rfl, hbel⟩ := hrel
    by_cases hlt : j < L.length
    · have hp' := (HA.out.below hbel) j hlt
      obtain ⟨p, off, rfl, hp'⟩ := hp'
      have hq' := (HB.out.below hbel) j (by rw [hlm]; exact hlt)
      obtain ⟨q, oq, rfl, hq'⟩ := hq'
      have x0 := hp' 0 _ rfl
      have x1 := hp' 1 _ rfl
      have x2 := hp' 2 _ rfl
      have x3 := hp' 3 _ rfl
      have y0 := hq' 0 _ rfl
      have y1 := hq' 1 _ rfl
      have y2 := hq' 2 _ rfl
      have y3 := hq' 3 _ rfl
      rw [Nat.add_zero] at x0 y0
      generalize (L[j].1 : Int) = b0 at *
      generalize (rAt L[j].2 : Int) = b1 at *
      generalize (rLen L[j].2 : Int) = b2 at *
      generalize (rTag L[j].2 : Int) = b3 at *
      have hlj : j < M.length := by rw [hlm]; exact hlt
      generalize (M[j].1 : Int) = z0 at *
      generalize (rAt M[j].2 : Int) = z1 at *
      generalize (rLen M[j].2 : Int) = z2 at *
      generalize (rTag M[j].2 : Int) = z3 at *
      have k0 : (0 : Int) ≤ j := by omega
      have k1 : (j : Int) < L.length := by omega
      have HBL := Hidden.mk hbel
      clear hp' hq' hbel
      by_cases h0 : b0 = z0
      rotate_left
      · have q0 : (b0 == z0) = false := by simpa using h0
        go_wp2_with fail
        go_quiet (fail)
        clear x0 x1 x2 x3 y0 y1 y2 y3
        have hbn := below_drewN HBL.out nq
        go_wp2_with fail
        go_ret
        exact ⟨⟨_, rfl⟩, hbn⟩
      subst h0
      by_cases h1 : b1 = z1
      rotate_left
      · have q1 : (b1 == z1) = false := by simpa using h1
        go_wp2_with fail
        go_quiet (fail)
        clear x0 x1 x2 x3 y0 y1 y2 y3
        have hbn := below_drewN HBL.out nq
        go_wp2_with fail
        go_ret
        exact ⟨⟨_, rfl⟩, hbn⟩
      subst h1
      by_cases h2 : b2 = z2
      rotate_left
      · have q2 : (b2 == z2) = false := by simpa using h2
        go_wp2_with fail
        go_quiet (fail)
        clear x0 x1 x2 x3 y0 y1 y2 y3
        have hbn := below_drewN HBL.out nq
        go_wp2_with fail
        go_ret
        exact ⟨⟨_, rfl⟩, hbn⟩
      subst h2
      by_cases h3 : b3 = z3
      rotate_left
      · have q3 : (b3 == z3) = false := by simpa using h3
        go_wp2_with fail
        go_quiet (fail)
        clear x0 x1 x2 x3 y0 y1 y2 y3
        have hbn := below_drewN HBL.out nq
        go_wp2_with fail
        go_ret
        exact ⟨⟨_, rfl⟩, hbn⟩
      subst h3
      go_wp2_with fail
      go_quiet (fail)
      clear x0 x1 x2 x3 y0 y1 y2 y3
      have hbn := below_drewN HBL.out nq
      go_wp2_with fail
      go_roundg (L.length - (j + 1))
      case measure => omega
      case rel => exact ⟨j + 1, by omega, rfl, by go_num, hbn⟩
    · obtain rfl : j = L.length := by omega
      go_wp2_with fail
      go_ret
      exact ⟨⟨_, rfl⟩, hbel⟩
set_option maxRecDepth 100000 in
theorem sameRoots_len (A B : Option Addr) (ca cb : Nat) (L M : List (Bytes × Nat)) (w : World) (hl : L.length ≤ 1000) (hlm : M.length = L.length) (hA : RdX rcells 2 w A L) (hB : RdX rcells 2 w B M) :
    Calls Tryz.prog 16 #[.slice A L.length ca, .slice B L.length cb] w fun e w' => (∃ b, e = .returned (.bool b)) ∧ Below w.heap.size w w' := by
  have HA := Hidden.mk hA
  have HB := Hidden.mk hB
  clear hA hB
  go_enter Tryz.func16, Tryz.ntmps16
  go_wp2_with fail
  go_loopg [5] L.length (fun m i wr => ∃ j : Nat, j ≤ L.length ∧ m = L.length - j ∧ i = .int .i64 (j : Int) ∧ Below w.heap.size w wr)
  case atStart => exact ⟨0, by omega, rfl, rfl, Below.refl _ _⟩
  case round =>
    obtain ⟨j, hj, rfl, rfl, hbel⟩ := hrel
    by_cases hlt : j < L.length
    · have hp' := (HA.out.below hbel) j hlt
      obtain ⟨p, off, rfl, hp'⟩ := hp'
      have hq' := (HB.out.below hbel) j (by rw [hlm]; exact hlt)
      obtain ⟨q, oq, rfl, hq'⟩ := hq'
      have x0 := hp' 0 _ rfl
      have x1 := hp' 1 _ rfl
      have y0 := hq' 0 _ rfl
      have y1 := hq' 1 _ rfl
      rw [Nat.add_zero] at x0 y0
      generalize L[j].1 = b0 at *
      generalize (L[j].2 : Int) = b1 at *
      have hlj : j < M.length := by rw [hlm]; exact hlt
      generalize M[j].1 = z0 at *
      generalize (M[j].2 : Int) = z1 at *
      have k0 : (0 : Int) ≤ j := by omega
      have k1 : (j : Int) < L.length := by omega
      have HBL := Hidden.mk hbel
      clear hp' hq' hbel
      by_cases h0 : b0 = z0
      rotate_left
      · have q0 : (b0 == z0) = false := by simpa using h0
        go_wp2_with fail
        go_quiet (fail)
        clear x0 x1 y0 y1
        have hbn := below_drewN HBL.out nq
        go_wp2_with fail
        go_ret
        exact ⟨⟨_, rfl⟩, hbn⟩
      subst h0
      by_cases h1 : b1 = z1
      rotate_left
      · have q1 : (b1 == z1) = false := by simpa using h1
        go_wp2_with fail
        go_quiet (fail)
        clear x0 x1 y0 y1
        have hbn := below_drewN HBL.out nq
        go_wp2_with fail
        go_ret
        exact ⟨⟨_, rfl⟩, hbn⟩
      subst h1
      go_wp2_with fail
      go_quiet (fail)
      clear x0 x1 y0 y1
      have hbn := below_drewN HBL.out nq
      go_wp2_with fail
      go_roundg (L.length - (j + 1))
      case measure => omega
      case rel => exact ⟨j + 1, by omega, rfl, by go_num, hbn⟩
    · obtain rfl : j = L.length := by omega
      go_wp2_with fail
      go_ret
      exact ⟨⟨_, rfl⟩, hbel⟩
theorem sameEnts_any (A B : Option Addr) (ca cb : Nat) (L M : List (Int × Bytes)) (w : World) (hl : L.length ≤ 1000) (hm : M.length ≤ 1000) (hA : RdX ecells 4 w A L) (hB : RdX ecells 4 w B M) :
    Calls Tryz.prog 15 #[.slice A L.length ca, .slice B M.length cb] w fun e w' => ∃ b, e = .returned (.bool b) ∧ (L = M → b = true) ∧ Below w.heap.size w w' := by
  by_cases he : L = M
  · subst he
    exact (sameEnts_eq A B ca cb L w hl hA hB).mono fun e w' ⟨h1, h2⟩ => ⟨true, h1, fun _ => rfl, h2⟩
  by_cases hlen : M.length = L.length
  · rw [hlen]
    exact (sameEnts_len A B ca cb L M w hl hlen hA hB).mono fun e w' ⟨⟨b, h1⟩, h2⟩ => ⟨b, h1, fun h => absurd h he, h2⟩
  · have q1 : ((L.length : Int) != (M.length : Int)) = true := by simp; omega
    have q2 : ((L.length : Int) == (M.length : Int)) = false := by simp; omega
    have HE := Hidden.mk he
    generalize L.length = n1 at *
    generalize M.length = n2 at *
    clear hA hB he hlen
    go_enter Tryz.func15, Tryz.ntmps15
    go_wp2_with fail
    go_ret
    exact ⟨_, rfl, fun h => absurd h HE.out, Below.refl _ _⟩
theorem sameRoots_any (A B : Option Addr) (ca cb : Nat) (L M : List (Bytes × Nat)) (w : World) (hl : L.length ≤ 1000) (hm : M.length ≤ 1000) (hA : RdX rcells 2 w A L) (hB : RdX rcells 2 w B M) :
    Calls Tryz.prog 16 #[.slice A L.length ca, .slice B M.length cb] w fun e w' => ∃ b, e = .returned (.bool b) ∧ (L = M → b = true) ∧ Below w.heap.size w w' := by
  by_cases he : L = M
  · subst he
    exact (sameRoots_eq A B ca cb L w hl hA hB).mono fun e w' ⟨h1, h2⟩ => ⟨true, h1, fun _ => rfl, h2⟩
  by_cases hlen : M.length = L.length
  · rw [hlen]
    exact (sameRoots_len A B ca cb L M w hl hlen hA hB).mono fun e w' ⟨⟨b, h1⟩, h2⟩ => ⟨b, h1, fun h => absurd h he, h2⟩
  · have q1 : ((L.length : Int) != (M.length : Int)) = true := by simp; omega
    have q2 : ((L.length : Int) == (M.length : Int)) = false := by simp; omega
    have HE := Hidden.mk he
    generalize L.length = n1 at *
    generalize M.length = n2 at *
    clear hA hB he hlen
    go_enter Tryz.func16, Tryz.ntmps16
    go_wp2_with fail
    go_ret
    exact ⟨_, rfl, fun h => absurd h HE.out, Below.refl _ _⟩
end Go.Proofs.YtoieifphklodoaaGreat
/- PlaySteps: the walk. -/
namespace Go.Proofs.YtoieifphklodoaaGreat
open Go.RowKit Go.Maps Go.ChangeMaps

theorem np64' : 16 = nP (newD 64) := by unfold nP; rw [newD_len]; decide
end Go.Proofs.YtoieifphklodoaaGreat
