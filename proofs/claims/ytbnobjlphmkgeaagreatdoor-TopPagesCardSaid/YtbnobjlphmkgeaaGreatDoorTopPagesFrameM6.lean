/- Contracts and plain laws, put together: Store4, Store5, Play2, PagesLost, StoreSafeP, StoreSafe0, SimP, PlayP, PlayT, Play3, Play4, PlayU, Play5, Top1, StepP, RefPO, RefS2, RefXP, RefX1, RefX2, RefX3, RefA1, RefA2, RefH0, RefRe1, RefH1, RefH2, RefH3, RefS3, RefWy1, Reach5, RefWy2, RefWy3, Told, Told2, Told3, PlayDoes0, SameP, SameR, HeapPlays0, Store6, TopPagesP, TopPages1. -/
import Derived.Test.YtbnobjlphmkgeaaGreatDoorTopPagesFrameM5
import Derived.Test.YtbnobjlphmkgeaaGreatDoorTopPagesFrameM3
import Derived.Test.YtbnobjlphmkgeaaGreatDoorTopPagesFrameM2
import Derived.Deep.DeepCutAuto
import Derived.Deep.CutBlock
import Derived.Deep.RegionHeld3
import Derived.Test.YtbnobjlphmkgeaaGreatDoorTopPagesFrameM4
import Derived.Test.YtbnobjlphmkgeaaGreatDoorTopPagesFrameM1
import Derived.Deep.LoopGhost
import Derived.BigQuiet
import Derived.Deep.AppendLies
import Derived.LaidEql
import Derived.Stop.Asserts
import Derived.RowKitTokens
/- Package store: of, Open, Create. -/
namespace Go.Proofs.YtbnobjlphmkgeaaGreatDoor
open Go.RowKit Go.Maps Go.ChangeMaps

/-- a store that a call has made -/
structure SnM (w0 w w' : World) (F F' GH : Nat → Prop) (s p d h gk ck st n : Nat) (D : Dv) (N : Bytes) : Prop where
  dev : DevB w0 w' F' d D
  st : StH w0 w' F' GH s p d h gk ck st n N N
  kp : Keep F w w'
  sub : ∀ q, F' q → F q ∨ w.heap.size ≤ q
  ns : w.heap.size ≤ s ∧ w.heap.size ≤ p ∧ w.heap.size ≤ gk
  ng : ∀ q, GH q → w.heap.size ≤ q
section
variable {w0 w w' : World} {F F' GH GH' G : Nat → Prop} {s p d h gk ck st n : Nat} {D : Dv} {l l' K : Bytes}
set_option maxRecDepth 100000 in
theorem sof_ok (hd : DevB w0 w F d D) (hp : PgH w F p d st n) (hn : n = nP D) (hdn : D.down = false) (hl : ∀ i, i < n → (readD D (48 + i)).length = 32) (N : Bytes) (hN : allB D n = N) (hg : Good N) (h0 : w0.heap.size ≤ p) :
    Calls Tryz.prog 103 #[.pointer (some ⟨p, 0, none⟩)] w fun e w' => ∃ s h gk ck GH, e = .returned (.tuple #[.pointer (some ⟨s, 0, none⟩), .nilIface]) ∧ StH w0 w' F GH s p d h gk ck st n N N ∧ Below w.heap.size w w' ∧ w.heap.size ≤ s ∧ w.heap.size ≤ gk ∧ ∀ q, GH q → w.heap.size ≤ q := by
  have hlen : (allB D n).length = 32 * n := allB_len n hl
  rw [hN] at hlen
  have hb := hg.bd
  have HV := Hidden.mk (vall_ok hd (by rw [← hn]; exact hp) hdn (by rw [← hn]; exact hl) n hn)
  rw [hN] at HV
  have HP := Hidden.mk (And.intro hp (And.intro hd (And.intro hlen (And.intro hg h0))))
  have hn9 : 0 < 32 * n := by omega
  clear hd hp hn hdn hl hN hg h0 hlen hb
  go_enter Tryz.func103, Tryz.ntmps103
  go_wp2_with fail
  refine HV.out.mono ?_
  rintro e w1 ⟨v, rfl, hown, hb1⟩
  obtain ⟨g, cap, rfl, hbg, hrow⟩ := row_of_owns hown HP.out.2.2.1 hn9
  have HR := Hidden.mk (And.intro hbg (And.intro hrow hb1))
  have HLD := Hidden.mk (hload_ok (some ⟨g, 0, none⟩) (32 * n) cap N w0 w1 HP.out.2.2.1 HP.out.2.2.2.1 (by rw [← HP.out.2.2.1]; exact hrow.le.1) hrow.rd (HP.out.2.1.below hb1).bel)
  clear hown hbg hrow hb1 HV
  go_wp2_with fail
  refine HLD.out.mono ?_
  rintro e w2 ⟨h, GH, rfl, hp2, hb2, hg2⟩
  have hal := (Below.refl w2.heap.size w2).alloc (Nat.le_refl _) (.cells #[.pointer (some ⟨p, 0, none⟩), .pointer (some ⟨h, 0, none⟩), .slice (some ⟨g, 0, none⟩) (32 * n) cap] 162)
  have HF : Hidden (StH w0 (w2.alloc (.cells #[.pointer (some ⟨p, 0, none⟩), .pointer (some ⟨h, 0, none⟩), .slice (some ⟨g, 0, none⟩) (32 * n) cap] 162)) F GH w2.heap.size p d h g cap st n N N ∧ Below w.heap.size w (w2.alloc (.cells #[.pointer (some ⟨p, 0, none⟩), .pointer (some ⟨h, 0, none⟩), .slice (some ⟨g, 0, none⟩) (32 * n) cap] 162)) ∧ w.heap.size ≤ w2.heap.size ∧ w.heap.size ≤ g ∧ ∀ q, GH q → w.heap.size ≤ q) := ⟨by
    obtain ⟨a1, a2, a3⟩ := HR.out
    obtain ⟨b1, b2, b3, b4, b5⟩ := HP.out
    have hB2 : Below w.heap.size w w2 := a3.trans (hb2.mono a3.size)
    have hB3 := hB2.trans (hal.mono hB2.size)
    have s1 := a3.size
    have s2 := hb2.size
    have s0 := b2.bel.size
    have hnF : ∀ q, w.heap.size ≤ q → ¬ F q := fun q hq hf => by have := b2.flt q hf; omega
    have hr2 : Row w2 5 g cap N := a2.below hb2 a2.lt
    have hglt := a2.lt
    have hplt := b1.lt
    refine ⟨⟨by rw [b3]; exact heap_alloc_new w2 _, b1.below hB3, hp2.below hal, hr2.below hal hr2.lt, hnF _ (by omega), hnF _ a1, fun q hq => hnF q (Nat.le_trans s1 (hg2 q hq)), fun hq => by have := hp2.flt _ hq; omega, fun hq => by have := hg2 _ hq; omega, fun hq => by have := hg2 _ hq; omega, by omega, b5, Nat.le_trans s0 a1⟩, hB3, by omega, a1, fun q hq => Nat.le_trans s1 (hg2 q hq)⟩⟩
  clear hp2 hb2 hg2 hal HLD
  go_wp2_with fail
  go_ret2
  exact ⟨_, h, g, cap, GH, rfl, HF.out.1, HF.out.2.1, HF.out.2.2.1, HF.out.2.2.2.1, HF.out.2.2.2.2⟩
theorem sopen_ok (hd : DevB w0 w F d D) (h0 : (openP D).2 = 0) (hst : (openMk D).1 = st) (hn : n = nP D) (hn2 : n = nP (openP D).1) (hdn : (openP D).1.down = false) (hl : ∀ i, i < n → (readD (openP D).1 (48 + i)).length = 32) (N : Bytes) (hN : allB (openP D).1 n = N) (hg : Good N) :
    Calls Tryz.prog 43 #[.pointer (some ⟨d, 0, none⟩)] w fun e w' => ∃ s p h gk ck F' GH, e = .returned (.tuple #[.pointer (some ⟨s, 0, none⟩), .nilIface]) ∧ SnM w0 w w' F F' GH s p d h gk ck st n (openP D).1 N := by
  have HO := Hidden.mk (popen_any hd)
  have HZ := Hidden.mk (And.intro hd.bel hst)
  have HNP := Hidden.mk hn
  have HQ := Hidden.mk (And.intro h0 (And.intro hn (And.intro hn2 (And.intro hdn (And.intro hl (And.intro hN hg))))))
  rw [hst] at HO
  generalize openP D = r at *
  clear hd h0 hn hn2 hdn hl hN hg hst
  go_enter Tryz.func43, Tryz.ntmps43
  go_wp2_with fail
  refine HO.out.mono ?_
  rintro e w1 hop
  obtain ⟨v, F', rfl, hm, hpp⟩ := hop.uni
  obtain ⟨q1, q2, q3, q4, q5, q6, q7⟩ := HQ.out
  obtain ⟨p, rfl, hp, hpn⟩ := hpp q1
  have hw := HZ.out.1.size
  have HOF := Hidden.mk (sof_ok hm.dev (by rw [← HNP.out] at hp; exact hp) q3 q4 q5 N q6 q7 (by omega))
  have HM := Hidden.mk (And.intro hm hpn)
  rw [q1, errV0]
  clear hm hop hpp hp hpn q1 q2 q3 q4 q5 q6 q7 HO
  go_wp2_with fail
  refine HOF.out.mono ?_
  rintro e w2 ⟨s, h, gk, ck, GH, rfl, hs, hb, h1, h2, h3⟩
  have HF : Hidden (SnM w0 w w2 F F' GH s p d h gk ck st n r.1 N) := ⟨by
    obtain ⟨a1, a2⟩ := HM.out
    have a3 := a1.below hb
    have hz := a1.kp.size
    exact ⟨a3.dev, hs, a3.kp, a3.sub, ⟨by omega, a2, by omega⟩, fun q hq => Nat.le_trans hz (h3 q hq)⟩⟩
  clear hs hb h1 h2 h3 HOF
  go_wp2_with fail
  go_ret2
  exact ⟨s, p, h, gk, ck, F', GH, rfl, HF.out⟩
end
end Go.Proofs.YtbnobjlphmkgeaaGreatDoor
/- Package store: Create. -/
namespace Go.Proofs.YtbnobjlphmkgeaaGreatDoor
open Go.RowKit Go.Maps Go.ChangeMaps

section
variable {w0 w w' : World} {F F' : Nat → Prop} {d : Nat}
theorem newD_len (nn : Nat) : (newD nn).S.length = nn := by simp [newD]
set_option maxRecDepth 100000 in
set_option maxHeartbeats 1000000 in
theorem screate_ok (nn n : Nat) (hd : DevB w0 w F d (newD nn)) (h57 : 57 ≤ nn) (h3 : nn ≤ 300) (hn : n = nP (newD nn)) :
    Calls Tryz.prog 35 #[.pointer (some ⟨d, 0, none⟩)] w fun e w' => ∃ s p h gk ck F' GH, e = .returned (.tuple #[.pointer (some ⟨s, 0, none⟩), .nilIface]) ∧ SnM w0 w w' F F' GH s p d h gk ck 2 n (madeD nn) (List.replicate (32 * n) 0) := by
  have HL := Hidden.mk hd.len
  rw [newD_len] at HL
  obtain ⟨mk0, mkn, mkp, mkd, mko⟩ := made_ok nn h57 h3 n hn
  have HMD := Hidden.mk (And.intro mk0 (And.intro mkp (And.intro mkd mko)))
  have HME : Hidden (madeD nn = (flD (zsD nn n)).1) := ⟨by unfold madeD; rw [hn]⟩
  have HZS : Hidden (∀ k, k ≤ n → MdS nn n (zsD nn k)) := ⟨fun k hk => by have := zs_ok nn (by omega) h3 k (by rw [← hn]; exact hk); rwa [← hn] at this⟩
  have HPF := Hidden.mk (pformat_ok hd (⟨rfl, rfl⟩ : Up (newD nn)) (by rw [newD_len]; omega))
  rw [← hn] at HPF
  have s1 : IntKind.i64.wrap ((nn : Int) - 48) = (nn : Int) - 48 := IntWalk.i64_in _ (by omega)
  have HB0 := Hidden.mk hd.bel
  have HZ0 : Hidden (zsD nn 0 = formatD (newD nn)) := ⟨rfl⟩
  have HZK : Hidden (∀ k, zsD nn (k + 1) = (wrD (zsD nn k) (48 + (k : Int)) (List.replicate 32 0)).1) := ⟨fun _ => rfl⟩
  have hn9 : 9 ≤ n ∧ n ≤ 200 := by omega
  have hnz : min ((nn : Int) - 48) 200 = (n : Int) := by omega
  generalize madeD nn = Dm at *
  generalize formatD (newD nn) = Df at *
  clear hd mk0 mkp mkd mko mkn hn
  go_enter Tryz.func35, Tryz.ntmps35
  go_upto_region 1 with (fail)
  go_cut [4] (fun v wx => v = .int .i64 (n : Int) ∧ w = wx)
  case first =>
    go_wp2_with fail
    refine HL.out.mono ?_
    rintro e w1 ⟨rfl, rfl⟩
    go_wp2_with fail
    all_goals
      go_meet
      refine ⟨?_, rfl⟩
      first
        | (congr 1; omega)
  case rest =>
  obtain ⟨rfl, rfl⟩ := hcut
  clear s1 hnz HL
  have s2 : IntKind.i64.wrap ((n : Int) * 32) = (n : Int) * 32 := IntWalk.i64_in _ (by omega)
  have d1 : decide ((n : Int) < 1) = false := by simp; omega
  have HR := Hidden.mk (right_any ((n : Int) * 32) w)
  rw [rightB_true.2 (by omega)] at HR
  go_wp2_with fail
  refine HR.out.mono ?_
  rintro e w1 ⟨rfl, rfl⟩
  clear d1 s2 HR
  go_wp2_with fail
  refine HPF.out.mono ?_
  rintro e w1 ⟨p, F1, rfl, hm1, hp1, hpn⟩
  have HP1 := Hidden.mk hp1
  have HPN := Hidden.mk hpn
  have HST : Hidden (PdM w0 w w1 F F1 d (zsD nn 0) ∧ PgH w1 F1 p d 2 n) := ⟨by rw [HZ0.out]; exact ⟨hm1, hp1⟩⟩
  clear hm1 hp1 hpn HPF HZ0
  go_wp2_with fail
  refine (plen_any HP1.out).mono ?_
  rintro e w2 ⟨rfl, rfl⟩
  go_wp2_with fail
  clear HP1
  go_loopg [33] n (fun r i wr => ∃ (k : Nat) (Fk : Nat → Prop), k ≤ n ∧ r = n - k ∧ i = .int .i64 (k : Int) ∧ Hidden (PdM w0 w wr F Fk d (zsD nn k) ∧ PgH wr Fk p d 2 n))
  case atStart => exact ⟨0, F1, by omega, rfl, rfl, HST⟩
  case round =>
    obtain ⟨k, Fk, hk, rfl, rfl, hst⟩ := hrel
    by_cases hlt : k < n
    · have i0 : (0 : Int) ≤ k := by omega
      have i1 : (k : Int) < n := by omega
      have s1 : IntKind.i64.wrap ((k : Int) + 1) = (k : Int) + 1 := IntWalk.i64_in _ (by omega)
      have s2 : IntKind.i64.wrap (48 + (k : Int)) = 48 + (k : Int) := IntWalk.i64_in _ (by omega)
      have hmz := fun W => mk_bytes 32 32 rfl (by omega) W
      have hal := (Below.refl wr.heap.size wr).alloc (Nat.le_refl _) (.cells (zeroRow 32) 5)
      have HM4 := Hidden.mk (hst.out.1.below hal)
      have HP4 := Hidden.mk (hst.out.2.below hal)
      have hgF : ¬ Fk wr.heap.size := fun hf => by have := hst.out.1.dev.flt _ hf; omega
      have HW2 := Hidden.mk (HM4.out.dev.write_all (48 + (k : Int)) (some ⟨wr.heap.size, 0, none⟩) 32 32 (List.replicate 32 0) (by simp) (row_zeros wr 32 (by simp [maxLen])).rd (fun _ ad e hf => hgF (by obtain rfl := Option.some.inj e; exact hf)))
      have hz := ((HZS.out k hk).zero k hlt).1
      rw [hz, errV0, ← HZK.out k] at HW2
      clear hst hal hgF hz HST
      go_wp2_with fail
      refine HW2.out.mono ?_
      rintro e w5 ⟨rfl, hh⟩
      obtain ⟨F5, hm5⟩ := pdm_write _ hh
      have HN : Hidden (PdM w0 w w5 F F5 d (zsD nn (k + 1)) ∧ PgH w5 F5 p d 2 n) := ⟨HM4.out.next hm5, HP4.out.mod hm5⟩
      clear hh hm5 HW2 HM4 HP4 hmz
      go_wp2_with fail
      go_roundg (n - (k + 1))
      case measure => omega
      case rel => exact ⟨k + 1, F5, by omega, rfl, by go_num, HN⟩
    · obtain rfl : k = n := by omega
      have t4 : decide ((k : Int) < k) = false := by simp
      have HFL := Hidden.mk hst.out.1.dev.flush_all
      rw [HMD.out.1, errV0, ← HME.out] at HFL
      clear HST
      go_wp2_with fail
      refine HFL.out.mono ?_
      rintro e w6 ⟨rfl, hd6, hk6⟩
      have hm6 : PdM w0 wr w6 Fk Fk d Dm := ⟨hd6, hk6, fun _ hq => .inl hq⟩
      have HM7 := Hidden.mk (And.intro (hst.out.1.next hm6) (hst.out.2.mod hm6))
      obtain ⟨a1, a2, a3⟩ := HMD.out.2
      have hsz := HB0.out.size
      have hpg := a3.sf
      obtain ⟨pg, hsf⟩ := hpg
      have HOF := Hidden.mk (sof_ok HM7.out.1.dev HM7.out.2 a1 a2 (fun i hi => by rw [(hsf.page i hi).1]; exact (hsf.page i hi).2) _ a3.kb.symm a3.gl (by have := HPN.out; omega))
      dsimp only at HOF
      clear hd6 hk6 hm6 HFL a1 a2 a3 hsf hst
      go_wp2_with fail
      refine HOF.out.mono ?_
      rintro e w8 ⟨s, h, gk, ck, GH, rfl, hs, hb, h1, h2, h3⟩
      have HF : Hidden (SnM w0 w w8 F Fk GH s p d h gk ck 2 k Dm (List.replicate (32 * k) 0)) := ⟨by
        have a3 := HM7.out.1.below hb
        have hz := HM7.out.1.kp.size
        exact ⟨a3.dev, hs, a3.kp, a3.sub, ⟨by omega, HPN.out, by omega⟩, fun q hq => Nat.le_trans hz (h3 q hq)⟩⟩
      clear hs hb h1 h2 h3 HOF
      go_wp2_with fail
      go_ret2
      exact ⟨s, p, h, gk, ck, Fk, GH, rfl, HF.out⟩
end
end Go.Proofs.YtbnobjlphmkgeaaGreatDoor
/- A store that is played with, the power there: what is kept; a second store beside it; a region's condition made stronger on the way. -/
namespace Go.Proofs.YtbnobjlphmkgeaaGreatDoor
open Go.RowKit Go.Maps Go.ChangeMaps

section
variable {P : Program} {ops : Array Oper} {Q : Exit → Act → World → Prop} {md : Region.Mode} {S S' : World → Prop}
/-- a stronger condition does -/
theorem wpAnyH_strong (h : ∀ w, S' w → S w) : ∀ (fuel : Nat) (listed : Array Bool) (a : Act) (w : World), wpAnyH P md ops Q S' fuel listed a w → wpAnyH P md ops Q S fuel listed a w
  | 0, _, _, _, k => k
  | fuel + 1, _, _, _, k => ⟨k.1, fun i hi => wpOp_mono (fun a' w' k' => ⟨h w' k'.1, wpAnyH_strong h fuel _ a' w' k'.2⟩) (k.2 i hi)⟩
end
/-- a store, its device, the power there -/
structure PlSt (w0 w : World) (F GH : Nat → Prop) (s p d h nn n : Nat) (S : Sto) : Prop where
  dev : DevB w0 w F d S.D
  st : ∃ gk ck, StH w0 w F GH s p d h gk ck S.st n S.l S.K
  ok : StOk nn n S
/-- what an op leaves -/
structure PlM (w0 w w' : World) (F F' GH GH' : Nat → Prop) (s p d h nn n : Nat) (S : Sto) : Prop where
  pl : PlSt w0 w' F' GH' s p d h nn n S
  kp : Keep (fun q => (F q ∨ GH q) ∨ (q = s ∨ q = p)) w w'
  sub : ∀ q, F' q → F q ∨ w.heap.size ≤ q
  nw : ∀ q, GH' q → GH q ∨ w.heap.size ≤ q
section
variable {w0 w w' w1 : World} {F F' GH GH' GA : Nat → Prop} {s p d h nn n sa pa ha gka cka sta : Nat} {S : Sto} {la Ka : Bytes}
theorem PlSt.below (a : PlSt w0 w F GH s p d h nn n S) (hb : Below w.heap.size w w') : PlSt w0 w' F GH s p d h nn n S := by
  obtain ⟨gk, ck, hs⟩ := a.st
  exact ⟨a.dev.below hb, ⟨gk, ck, hs.below hb⟩, a.ok⟩
theorem PlSt.do_ (a : PlSt w0 w F GH s p d h nn n S) (hst : S.st < 4294967295) (o : OpX) (ho : OpOk w0 o) :
    Calls Tryz.prog 36 #[.pointer (some ⟨s, 0, none⟩), opV o] w fun e w' => e = .returned (errV (doS n S o).2) ∧ ∃ F' GH', PlM w0 w w' F F' GH GH' s p d h nn n (doS n S o).1 := by
  obtain ⟨gk, ck, hs⟩ := a.st
  obtain ⟨D, st, l, K⟩ := S
  refine (sdo_any o hs a.dev a.ok.gl a.ok.gk a.ok.ll a.ok.lk a.ok.n2 (Nat.le_of_lt hst) (ho.below a.dev.bel)).mono ?_
  rintro e w1 ⟨he, F', GH', gk', ck', hm⟩
  exact ⟨he, F', GH', ⟨hm.dev, ⟨gk', ck', hm.st⟩, (a.ok.do hst o).1⟩, hm.kp, hm.sub, hm.nw⟩
/-- Commit by itself -/
theorem PlSt.commit (a : PlSt w0 w F GH s p d h nn n S) (hst : S.st < 4294967295) :
    Calls Tryz.prog 96 #[.pointer (some ⟨s, 0, none⟩)] w fun e w' => e = .returned (errV (cmS n S.st S.D S.l S.K).2) ∧ Below w0.heap.size w0 w' ∧ ((cmS n S.st S.D S.l S.K).2 = 0 → ∃ F', PlM w0 w w' F F' GH GH s p d h nn n ⟨(cmS n S.st S.D S.l S.K).1, if (dL S.l S.K n).length ≠ 0 then S.st + 1 else S.st, S.l, S.l⟩) := by
  obtain ⟨gk, ck, hs⟩ := a.st
  obtain ⟨D, st, l, K⟩ := S
  refine (scommit_any hs a.dev a.ok.ll a.ok.lk a.ok.n2 (Nat.le_of_lt hst)).mono ?_
  rintro e w1 ⟨he, F', gk', ck', hn, hm⟩
  refine ⟨he, ?_, fun h0 => ⟨F', ⟨(hm h0).dev, ⟨gk', ck', (hm h0).st⟩, ?_⟩, (hm h0).kp, (hm h0).sub, (hm h0).nw⟩⟩
  · by_cases h0 : (cmS n st D l K).2 = 0
    · exact (hm h0).dev.bel
    · exact (hn h0).dev.bel
  have hd := (a.ok.do hst ⟨6, 0, 0, 0, [], none, 0, []⟩).1
  unfold doS at hd
  rw [if_pos rfl, if_pos h0] at hd
  exact hd
/-- another store, of which no block is one of these -/
structure Beside (w0 w : World) (F GH GA : Nat → Prop) (s p sa pa d ha gka cka sta n : Nat) (la Ka : Bytes) : Prop where
  st : StH w0 w F GA sa pa d ha gka cka sta n la Ka
  ap : ∀ q, (GA q ∨ q = sa ∨ q = pa ∨ q = gka) → ¬ GH q ∧ q ≠ s ∧ q ≠ p
theorem Beside.below (a : Beside w0 w F GH GA s p sa pa d ha gka cka sta n la Ka) (hb : Below w.heap.size w w') : Beside w0 w' F GH GA s p sa pa d ha gka cka sta n la Ka := ⟨a.st.below hb, a.ap⟩
theorem Beside.dev (a : Beside w0 w F GH GA s p sa pa d ha gka cka sta n la Ka) (hk : Keep F w w') (hn : ∀ q, F q → w0.heap.size ≤ q) (hF : ∀ q, F' q → F q ∨ w.heap.size ≤ q) : Beside w0 w' F' GH GA s p sa pa d ha gka cka sta n la Ka := ⟨a.st.dev hk hn hF, a.ap⟩
/-- the store is played with, a device of its own is opened -/
theorem PlSt.opened (a : PlSt w0 w F GH s p d h nn n S) {D' : Dv} (hd : DevB w0 w' F' d D') (hk : Keep F w w') (hF : ∀ q, F' q → F q ∨ w.heap.size ≤ q) (ho : StOk nn n ⟨D', S.st, S.l, S.K⟩) : PlSt w0 w' F' GH s p d h nn n ⟨D', S.st, S.l, S.K⟩ := by
  obtain ⟨gk, ck, hs⟩ := a.st
  exact ⟨hd, ⟨gk, ck, hs.dev hk a.dev.new hF⟩, ho⟩
theorem PlSt.open_ (a : PlSt w0 w F GH s p d h nn n S) :
    Calls Tryz.prog 43 #[.pointer (some ⟨d, 0, none⟩)] w fun e w' => ∃ sa pa ha gka cka F' GA, e = .returned (.tuple #[.pointer (some ⟨sa, 0, none⟩), .nilIface]) ∧ SnM w0 w w' F F' GA sa pa d ha gka cka S.st n (openP S.D).1 S.K ∧ PlSt w0 w' F' GH s p d h nn n ⟨(openP S.D).1, S.st, S.l, S.K⟩ ∧ Beside w0 w' F' GH GA s p sa pa d ha gka cka S.st n S.K S.K := by
  obtain ⟨o1, o2, o3, o4, o5, o6, o7, o8⟩ := a.ok.opened
  refine (sopen_ok a.dev o1 o4 o7 o8 o5 o6 S.K o2.kb.symm a.ok.gk).mono ?_
  rintro e w1 ⟨sa, pa, ha, gka, cka, F', GA, he, hm⟩
  obtain ⟨gk, ck, hs⟩ := id a.st
  refine ⟨sa, pa, ha, gka, cka, F', GA, he, hm, a.opened hm.dev hm.kp hm.sub o3, hm.st, fun q hq => ?_⟩
  have hq : w.heap.size ≤ q := by
    rcases hq with hq | rfl | rfl | rfl
    · exact hm.ng q hq
    · exact hm.ns.1
    · exact hm.ns.2.1
    · exact hm.ns.2.2
  obtain ⟨l1, l2, l3⟩ := hs.lt
  exact ⟨fun hg => by have := hs.hp.flt q hg; omega, by omega, by omega⟩
end
/-- the store's dirty pages -/
theorem PlSt.dirty {w0 w : World} {F GH : Nat → Prop} {s p d h nn n : Nat} {S : Sto} (a : PlSt w0 w F GH s p d h nn n S) :
    Calls Tryz.prog 162 #[.pointer (some ⟨s, 0, none⟩)] w fun e w' => ∃ A c, e = .returned (.slice A (dL S.l S.K n).length c) ∧ RdX ncell 1 w' A (dL S.l S.K n) ∧ Below w.heap.size w w' := by
  obtain ⟨gk, ck, hs⟩ := a.st
  refine (sdirty_any hs a.ok.ll a.ok.lk a.ok.n2).mono ?_
  rintro e w1 ⟨v, he, ho, hb⟩
  obtain ⟨A, c, rfl, -, -⟩ := own_split ho
  exact ⟨A, c, he, own_rdX3 (f := ncell) (fun _ => rfl) rfl ho, hb⟩
theorem PlSt.heap_ {w0 w : World} {F GH : Nat → Prop} {s p d h nn n : Nat} {S : Sto} (a : PlSt w0 w F GH s p d h nn n S) :
    Calls Tryz.prog 41 #[.pointer (some ⟨s, 0, none⟩)] w fun e w' => e = .returned (.pointer (some ⟨h, 0, none⟩)) ∧ w = w' := by
  obtain ⟨gk, ck, hs⟩ := a.st
  exact stheap_any hs
end Go.Proofs.YtbnobjlphmkgeaaGreatDoor
/- Pages: who says that the power is gone is without it. No program in sight. -/
namespace Go.Proofs.YtbnobjlphmkgeaaGreatDoor
open Go.RowKit

/-- who says that the power is gone is without it -/
def Lost (r : Dv × Nat) : Prop := r.2 = 9 → r.1.down = true
theorem wrD_lost (D : Dv) (i : Int) (b : Bytes) : Lost (wrD D i b) := by
  unfold Lost wrD
  split
  · intro h; cases h
  split
  · intro h; cases h
  split
  · rename_i h; intro _; exact h
  · intro h
    have h0 : D.left = 0 := by
      by_cases hl : D.left = 0
      · exact hl
      · rw [if_neg hl] at h; cases h
    show ((putD D i.toNat b).left == 0) = true
    have : (putD D i.toNat b).left = 0 := h0
    rw [this]; rfl
theorem flD_lost (D : Dv) : Lost (flD D) := by
  unfold Lost flD
  split
  · rename_i h; intro _; exact h
  split
  · rename_i hl
    intro _
    show (D.left == 0) = true
    rw [hl]; rfl
  · intro h; cases h
theorem runE_lost {X : Type} {f : Nat → X → Dv → Dv × Nat} (hf : ∀ k x D, Lost (f k x D)) : ∀ (l : List X) (k : Nat) (D : Dv), Lost (runE f k l D)
  | [], _, _ => fun h => by cases h
  | x :: l, k, D => by
    rw [runE_cons]
    split
    · exact runE_lost hf l (k + 1) _
    · exact hf k x D
theorem andThen_lost {a : Dv × Nat} {g : Dv → Dv × Nat} (ha : Lost a) (hg : ∀ D, Lost (g D)) : Lost (andThen a g) := by
  unfold andThen
  split
  · exact hg _
  · exact ha
theorem commit_lost (st n : Nat) (m : List (Int × Bytes)) (D : Dv) : (commitP st n m D).2 = 9 → (commitP st n m D).1.down = true := by
  have h9 : chkP n m ≠ 9 := by
    unfold chkP
    split
    · decide
    · have : ∀ (l : List (Int × Bytes)) (s : List Int), chkL n s l ≠ 9 := by
        intro l
        induction l with
        | nil => intro s; show (0 : Nat) ≠ 9; decide
        | cons x r ih =>
          intro s
          unfold chkL
          split
          · decide
          split
          · decide
          split
          · decide
          · exact ih _
      exact this _ _
  show Lost _
  unfold commitP
  split
  · exact fun h => absurd h h9
  split
  · rename_i h; exact fun _ => h
  split
  · intro h; cases h
  split
  · intro h; cases h
  · exact andThen_lost (andThen_lost (andThen_lost (andThen_lost (andThen_lost (runE_lost (fun _ _ _ => wrD_lost _ _ _) _ _ _) flD_lost) (fun _ => wrD_lost _ _ _)) flD_lost) (fun _ => runE_lost (fun _ _ _ => wrD_lost _ _ _) _ _ _)) flD_lost
theorem commit_dn {st n : Nat} {m : List (Int × Bytes)} {D : Dv} (hd : D.down = true) : (commitP st n m D).1 = D ∧ (commitP st n m D).2 ≠ 0 := by
  unfold commitP
  split
  · rename_i h; exact ⟨rfl, h⟩
  · first
    | exact ⟨rfl, show (9 : Nat) ≠ 0 by decide⟩
    | (rw [if_pos hd]; exact ⟨rfl, show (9 : Nat) ≠ 0 by decide⟩)
theorem crashS_left (D : Dv) (x : Int) (keep : List Bool) (torn : Int) (c : Nat) : ∀ k, crashS { D with left := x } keep torn c k = crashS D keep torn c k
  | 0 => rfl
  | k + 1 => by
    have ih := crashS_left D x keep torn c k
    unfold crashS
    rw [ih]
    rfl
theorem crashD_left (D : Dv) (x : Int) (keep : List Bool) (torn : Int) (c : Nat) : crashD { D with left := x } keep torn c = crashD D keep torn c := by
  unfold crashD
  rw [crashS_left]
end Go.Proofs.YtbnobjlphmkgeaaGreatDoor
/- StoreSafe: the plain law: what is kept of a store, wherever the power goes. No program in sight. -/
namespace Go.Proofs.YtbnobjlphmkgeaaGreatDoor
open Go.RowKit Go.Maps Go.ChangeMaps

/-- only the pages that are there count -/
theorem Hold.ext {n st : Nat} {D : Dv} {l : Bytes} {pg pg' : Nat → Bytes} (h : Hold n D st l pg) (e : ∀ i, i < n → pg' i = pg i) : Hold n D st l pg' :=
  { n0 := h.n0, ln := h.ln, mrk := h.mrk, pos := h.pos, l23 := h.l23, inl := h.inl, ar := fun k hk => by rw [e _ (h.inl _ (List.getElem_mem hk))]; exact h.ar k hk, rest := fun i hi hn => by rw [e i hi]; exact h.rest i hi hn, oth := h.oth }
theorem Full.ext {n st : Nat} {D : Dv} {l : Bytes} {pg pg' : Nat → Bytes} (h : Full n D st l pg) (e : ∀ i, i < n → pg' i = pg i) : Full n D st l pg' :=
  ⟨h.hold.ext e, fun i hi => by rw [e i hi]; exact h.all i hi⟩
/-- a store, and what may be there behind a crash: what it kept, or what was being committed -/
structure LvS (nn n : Nat) (s : Sto) (nx : Bytes) : Prop where
  wf : WfD s.D
  len : s.D.S.length = nn
  gl : Good s.l
  gk : Good s.K
  gx : Good nx
  ll : s.l.length = 32 * n
  lk : s.K.length = 32 * n
  lx : nx.length = 32 * n
  n1 : 1 ≤ n
  n2 : n ≤ 200
  on : s.D.down = false → nx = s.K ∧ ∃ l, Full n s.D s.st l (pgB s.K)
  off : s.D.down = true → ∀ keep torn c, c ≤ 32 → ∃ st l N, Hold n (crashD s.D keep torn c) st l (pgB N) ∧ st ≤ s.st + 1 ∧ (N = s.K ∨ N = nx)
theorem upd_dL {l K : Bytes} {n : Nat} (i : Nat) (hi : i < n) : updPg (pgB K) (cutL l (dL l K n)) i = pgB l i := by
  rw [updPg_cut]
  by_cases h : i ∈ dL l K n
  · rw [if_pos h]
  · rw [if_neg h]
    rw [dL_mem] at h
    have : difB l K i = false := by
      cases hd : difB l K i with
      | false => rfl
      | true => exact absurd ⟨hi, hd⟩ h
    unfold difB at this
    exact (bne_eq_false_iff_eq.1 this).symm
section
variable {nn n : Nat} {s : Sto} {nx : Bytes}
theorem LvS.hop (h : LvS nn n s nx) (o : OpX) : LvS nn n ⟨s.D, s.st, hopL s.l o, s.K⟩ nx :=
  { h with gl := (hop_step h.gl o).good, ll := (hop_step h.gl o).len.trans h.ll }
theorem LvS.abort (h : LvS nn n s nx) : LvS nn n ⟨s.D, s.st, s.K, s.K⟩ nx := { h with gl := h.gk, ll := h.lk }
/-- other steps till the power goes -/
theorem LvS.left (h : LvS nn n s nx) (x : Int) : LvS nn n ⟨{ s.D with left := x }, s.st, s.l, s.K⟩ nx :=
  { h with
    wf := ⟨h.wf.nd, h.wf.lt, h.wf.sl, h.wf.ml⟩
    on := fun hd => ⟨(h.on hd).1, by
      obtain ⟨l, hl⟩ := (h.on hd).2
      exact ⟨l, hl.left x s.D.down⟩⟩
    off := fun hd keep torn c hc => by
      show ∃ st l N, Hold n (crashD { s.D with left := x } keep torn c) st l (pgB N) ∧ st ≤ s.st + 1 ∧ (N = s.K ∨ N = nx)
      rw [crashD_left]
      exact h.off hd keep torn c hc }
/-- a commit -/
theorem LvS.commit (h : LvS nn n s nx) : 
    ((cmS n s.st s.D s.l s.K).2 = 0 → LvS nn n ⟨(cmS n s.st s.D s.l s.K).1, if (dL s.l s.K n).length ≠ 0 then s.st + 1 else s.st, s.l, s.l⟩ s.l) ∧
    ((cmS n s.st s.D s.l s.K).2 ≠ 0 → LvS nn n ⟨(cmS n s.st s.D s.l s.K).1, s.st, s.l, s.K⟩ (if s.D.down = false ∧ (cmS n s.st s.D s.l s.K).1.down = true then s.l else nx)) := by
  cases hd : s.D.down with
  | true =>
    obtain ⟨a, b⟩ := commit_dn (st := s.st) (n := n) (m := cutL s.l (dL s.l s.K n)) hd
    refine ⟨fun h0 => absurd h0 b, fun _ => ?_⟩
    rw [if_neg (fun x => by cases x.1)]
    unfold cmS
    rw [a]
    exact h
  | false =>
    obtain ⟨hx, l, hl⟩ := h.on hd
    have H := commit_safe (cutL s.l (dL s.l s.K n)) hl h.wf
    have H9 := commit_lost s.st n (cutL s.l (dL s.l s.K n)) s.D
    have hlen := H.len.trans h.len
    unfold cmS
    generalize hm : cutL s.l (dL s.l s.K n) = m at *
    have hml : m.length = (dL s.l s.K n).length := by rw [← hm, cutL_len]
    have hup : ∀ i, i < n → pgB s.l i = updPg (pgB s.K) m i := fun i hi => by rw [← hm]; exact (upd_dL i hi).symm
    generalize commitP s.st n m s.D = r at *
    refine ⟨fun h0 => ?_, fun h0 => ?_⟩
    · by_cases hm0 : m.length = 0
      · have hD := H.none_ h0 hm0
        have hnil : dL s.l s.K n = [] := List.eq_nil_of_length_eq_zero (by omega)
        have hlK : s.l = s.K := dL_none h.ll h.lk hnil
        rw [hnil, if_neg (by simp), hD]
        refine { h with gk := h.gl, gx := h.gl, lk := h.ll, lx := h.ll, on := fun _ => ⟨rfl, l, ?_⟩, off := fun hd' => ?_ }
        · show Full n s.D s.st l (pgB s.l)
          rw [hlK]; exact hl
        · rw [hd] at hd'; cases hd'
      · obtain ⟨a, b, c, d⟩ := H.done h0 hm0
        rw [if_pos (by omega)]
        refine { h with wf := H.wf, len := hlen, gk := h.gl, gx := h.gl, lk := h.ll, lx := h.ll, on := fun _ => ⟨rfl, _, a.ext hup⟩, off := fun hd' => ?_ }
        have hd2 : r.1.down = true := hd'
        rw [c] at hd2; cases hd2
    · by_cases h9 : r.2 = 9
      · have hdn := H9 h9
        rw [if_pos ⟨rfl, hdn⟩]
        refine { h with wf := H.wf, len := hlen, gx := h.gl, lx := h.ll, on := fun hd' => ?_, off := fun _ keep torn c hc => ?_ }
        · have hd2 : r.1.down = false := hd'
          rw [hdn] at hd2; cases hd2
        · rcases H.lost h9 keep torn c hc with h' | h'
          · exact ⟨_, _, _, h', by dsimp only; omega, .inl rfl⟩
          · exact ⟨_, _, _, h'.ext hup, Nat.le_refl _, .inr rfl⟩
      · have hD := H.bad h0 h9
        rw [hD, hd, if_neg (fun x => by cases x.2)]
        exact h
/-- behind a crash -/
theorem LvS.crash (h : LvS nn n s nx) (keep : List Bool) (torn : Int) (c : Nat) (hc : c ≤ 32) : ∃ st l N, Hold n (crashD s.D keep torn c) st l (pgB N) ∧ st ≤ s.st + 1 ∧ (N = s.K ∨ N = nx) := by
  cases hd : s.D.down with
  | true => exact h.off hd keep torn c hc
  | false =>
    obtain ⟨hx, l, hl⟩ := h.on hd
    exact ⟨s.st, l, s.K, hl.hold.crash h.wf keep torn c hc, by omega, .inl rfl⟩
end
/-- what is there behind a crash: the device, its stamp, and what its pages are -/
structure HdS (nn n : Nat) (D : Dv) (st : Nat) (N : Bytes) : Prop where
  hold : ∃ l, Hold n D st l (pgB N)
  wf : WfD D
  len : D.S.length = nn
  gn : Good N
  ln : N.length = 32 * n
section
variable {nn n st : Nat} {D : Dv} {N : Bytes}
theorem HdS.crash (h : HdS nn n D st N) (keep : List Bool) (torn : Int) (c : Nat) (hc : c ≤ 32) : HdS nn n (crashD D keep torn c) st N := by
  obtain ⟨l, hl⟩ := h.hold
  exact ⟨⟨l, hl.crash h.wf keep torn c hc⟩, crash_wf h.wf keep torn c hc, (crash_len _ _ _ _).trans h.len, h.gn, h.ln⟩
theorem HdS.left (h : HdS nn n D st N) (x : Int) : HdS nn n { D with left := x } st N := by
  obtain ⟨l, hl⟩ := h.hold
  exact ⟨⟨l, hl.left x D.down⟩, ⟨h.wf.nd, h.wf.lt, h.wf.sl, h.wf.ml⟩, h.len, h.gn, h.ln⟩
/-- opened, with so many steps left -/
theorem HdS.open_ (h : HdS nn n D st N) : HdS nn n (openP D).1 st N ∧ ((openP D).2 = 0 ∨ (openP D).2 = 9) ∧ ((openP D).2 = 0 → (openMk D).1 = st ∧ (openP D).1.down = false ∧ n = nP D ∧ n ≤ 200 ∧ 1 ≤ n ∧ (∃ l, Full n (openP D).1 st l (pgB N)) ∧ allB (openP D).1 n = N ∧ ∀ i, i < n → (readD (openP D).1 (48 + i)).length = 32) := by
  obtain ⟨l, hl⟩ := h.hold
  obtain ⟨a, b⟩ := open_safe hl h.wf
  have hle := hl.lens
  rcases a with ⟨a1, a2, a3, a4, a5⟩ | ⟨a1, a2, a3⟩
  · refine ⟨⟨⟨l, a2.hold⟩, a5, b.trans h.len, h.gn, h.ln⟩, .inl a1, fun _ => ?_⟩
    have hp : ∀ i, i < n → (readD (openP D).1 (48 + i)).length = 32 := fun i hi => by
      rw [(a2.all i hi).2]
      exact pgB_len h.ln hi
    refine ⟨by rw [hl.opened], a4, hl.n0, hle.1, hle.2.2, ⟨l, a2⟩, ?_, hp⟩
    exact eq_of_pages (allB_len n hp) h.ln fun k hk => by rw [allB_page n k hp hk, (a2.all k hk).2]
  · exact ⟨⟨⟨l, a2⟩, a3, b.trans h.len, h.gn, h.ln⟩, .inr a1, fun h0 => by rw [a1] at h0; cases h0⟩
/-- a store that is opened so -/
theorem HdS.lv (h : HdS nn n D st N) (h0 : (openP D).2 = 0) : LvS nn n ⟨(openP D).1, st, N, N⟩ N := by
  obtain ⟨a, b, c⟩ := h.open_
  obtain ⟨c1, c2, c3, c4, c5, c6, c7, c8⟩ := c h0
  exact ⟨a.wf, a.len, h.gn, h.gn, h.gn, h.ln, h.ln, h.ln, c5, c4, fun _ => ⟨rfl, c6⟩, fun hd => by rw [c2] at hd; cases hd⟩
end
end Go.Proofs.YtbnobjlphmkgeaaGreatDoor
/- StoreSafe: what the law keeps. -/
namespace Go.Proofs.YtbnobjlphmkgeaaGreatDoor
open Go.RowKit Go.Maps Go.ChangeMaps

/-- a row of the law's own, beside the device and a heap -/
structure RowO (w0 w : World) (F GH : Nat → Prop) (g c : Nat) (x : Bytes) : Prop where
  row : Row w 5 g c x
  nf : ¬ F g
  ng : ¬ GH g
  base : w0.heap.size ≤ g
section
variable {w0 w w' : World} {F F' GH GH' : Nat → Prop} {s p d h nn n g c g1 c1 g2 c2 gw cw : Nat} {S : Sto} {nx x : Bytes}
theorem RowO.below (a : RowO w0 w F GH g c x) (hb : Below w.heap.size w w') : RowO w0 w' F GH g c x := ⟨a.row.below hb a.row.lt, a.nf, a.ng, a.base⟩
theorem RowO.dev (a : RowO w0 w F GH g c x) (hk : Keep F w w') (hF : ∀ q, F' q → F q ∨ w.heap.size ≤ q) : RowO w0 w' F' GH g c x :=
  ⟨hk.row a.row a.nf, fun hf => by
    rcases hF _ hf with h' | h'
    · exact a.nf h'
    · have := a.row.lt; omega, a.ng, a.base⟩
/-- another heap's blocks -/
theorem RowO.other (a : RowO w0 w F GH g c x) (hG : ¬ GH' g) : RowO w0 w F GH' g c x := ⟨a.row, a.nf, hG, a.base⟩
end
section
variable {w0 w w' : World} {F F' GH GH' : Nat → Prop} {s p d h nn n st b g c g1 c1 g2 c2 gw cw : Nat} {S : Sto} {D D' : Dv} {K nx N x : Bytes}
end
theorem PlSt.fresh {w0 w w' : World} {F GH : Nat → Prop} {s p d h nn n g c : Nat} {S : Sto} {x : Bytes} (a : PlSt w0 w F GH s p d h nn n S) (hg : w.heap.size ≤ g) (hr : Row w' 5 g c x) : RowO w0 w' F GH g c x := by
  obtain ⟨gk, ck, hs⟩ := a.st
  exact ⟨hr, fun hf => by have := a.dev.flt g hf; omega, fun hf => by have := hs.hp.flt g hf; omega, Nat.le_trans a.dev.bel.size hg⟩
end Go.Proofs.YtbnobjlphmkgeaaGreatDoor
/- A device whose power goes in so many steps, beside the same one whose power stays: how many steps a commit takes. No program in sight. -/
namespace Go.Proofs.YtbnobjlphmkgeaaGreatDoor
open Go.RowKit

section
variable {x : Int} {D D' : Dv}
end
end Go.Proofs.YtbnobjlphmkgeaaGreatDoor
/- A script, plainly: what it comes to, how many steps it takes, and that it comes to the same while so many steps are left. No program in sight. -/
namespace Go.Proofs.YtbnobjlphmkgeaaGreatDoor
open Go.RowKit Go.Maps Go.ChangeMaps

/-- the steps of an op -/
def stepsO (n : Nat) (s : Sto) (o : OpX) : Nat := if (doS n s o).2 = 0 ∧ o.what = 6 ∧ 0 < (dL s.l s.K n).length then 2 * (dL s.l s.K n).length + 4 else 0
/-- the first k ops: the store, and the steps -/
def runK (n : Nat) (s : Sto) (L : List OpX) : Nat → Sto × Nat
  | 0 => (s, 0)
  | k + 1 => match L[k]? with
    | some o => ((doS n (runK n s L k).1 o).1, (runK n s L k).2 + stepsO n (runK n s L k).1 o)
    | none => runK n s L k
theorem runK_succ (n : Nat) (s : Sto) (L : List OpX) (k : Nat) (hk : k < L.length) : runK n s L (k + 1) = ((doS n (runK n s L k).1 L[k]).1, (runK n s L k).2 + stepsO n (runK n s L k).1 L[k]) := by
  rw [runK, List.getElem?_eq_getElem hk]
/-- the store, the power there, behind k ops -/
theorem StOk.run {nn n : Nat} {s : Sto} (h : StOk nn n s) (L : List OpX) (b : Nat) (hb : s.st ≤ b) : ∀ k, k ≤ L.length → b + k < 4294967295 → StOk nn n (runK n s L k).1 ∧ (runK n s L k).1.st ≤ b + k
  | 0, _, _ => ⟨h, hb⟩
  | k + 1, hk, hx => by
    obtain ⟨h1, h2⟩ := h.run L b hb k (by omega) (by omega)
    rw [runK_succ n s L k (by omega)]
    obtain ⟨h3, h4⟩ := h1.do (by omega) L[k]
    exact ⟨h3, by dsimp only; omega⟩
end Go.Proofs.YtbnobjlphmkgeaaGreatDoor
/- A played script, plainly: the power there, with as many steps as the script has, with none; what the steps of scripts add up to. No program in sight. -/
namespace Go.Proofs.YtbnobjlphmkgeaaGreatDoor
open Go.RowKit Go.Maps Go.ChangeMaps

/-- a new store, the power there; with so many steps left -/
def beg0 (nn n : Nat) : Sto := ⟨madeD nn, 2, List.replicate (32 * n) 0, List.replicate (32 * n) 0⟩
section
variable {nn n : Nat} {s : Sto} {nx : Bytes}
theorem StOk.full (h : StOk nn n s) : ∃ l, Full n s.D s.st l (pgB s.K) := by
  obtain ⟨pg, hsf⟩ := h.sf
  obtain ⟨l, hl⟩ := hsf.full
  have hle := hl.hold.lens
  have hp : ∀ i, i < n → (readD s.D (48 + i)).length = 32 := fun i hi => hsf.wf.rd (by omega)
  refine ⟨l, hl.ext fun i hi => ?_⟩
  rw [h.kb, allB_page n i hp hi]
  exact (hl.all i hi).2
theorem StOk.lv (h : StOk nn n s) : LvS nn n s s.K := by
  obtain ⟨l, hl⟩ := h.full
  obtain ⟨pg, hsf⟩ := h.sf
  exact ⟨hsf.wf, hsf.len, h.gl, h.gk, h.gk, h.ll, h.lk, h.lk, h.n1, h.n2, fun _ => ⟨rfl, l, hl⟩, fun hd => by rw [hsf.up.2] at hd; cases hd⟩
theorem StOk.hd (h : StOk nn n s) : HdS nn n s.D s.st s.K := by
  obtain ⟨l, hl⟩ := h.full
  obtain ⟨pg, hsf⟩ := h.sf
  exact ⟨⟨l, hl.hold⟩, hsf.wf, hsf.len, h.gk, h.lk⟩
theorem LvS.do_ (h : LvS nn n s nx) (o : OpX) : ∃ nx', LvS nn n (doS n s o).1 nx' := by
  obtain ⟨c1, c2⟩ := h.commit
  unfold doS
  by_cases h6 : o.what = 6
  · rw [if_pos h6]
    by_cases h0 : (cmS n s.st s.D s.l s.K).2 = 0
    · rw [if_pos h0]; exact ⟨_, c1 h0⟩
    · rw [if_neg h0]; exact ⟨_, c2 h0⟩
  · rw [if_neg h6]
    by_cases h7 : o.what = 7
    · rw [if_pos h7]; exact ⟨_, h.abort⟩
    · rw [if_neg h7]; exact ⟨_, h.hop o⟩
theorem LvS.run (h : LvS nn n s nx) (L : List OpX) : ∀ k, ∃ nx', LvS nn n (runK n s L k).1 nx'
  | 0 => ⟨nx, h⟩
  | k + 1 => by
    obtain ⟨nx', h'⟩ := h.run L k
    unfold runK
    split
    · exact h'.do_ _
    · exact ⟨nx', h'⟩
end
section
variable {nn n st st' : Nat} {D D' : Dv} {N N' : Bytes}
/-- the same sectors, nothing pending -/
theorem HdS.as (h : HdS nn n D st N) (hs : D'.S = D.S) (ho : D'.O = []) : HdS nn n D' st N := by
  obtain ⟨l, hl⟩ := h.hold
  refine ⟨⟨l, hl.same (by rw [hs]) fun j v _ _ hv => ?_⟩, ⟨by rw [ho]; simp, fun i hi => by rw [ho] at hi; simp at hi, fun i hi => by rw [hs] at hi ⊢; exact h.wf.sl i hi, fun i hi => by rw [ho] at hi; simp at hi⟩, by rw [hs]; exact h.len, h.gn, h.ln⟩
  refine ⟨by rw [hs]; exact hv.1, ?_⟩
  unfold readD
  rw [ho, if_neg (by simp), hs]
  exact hv.1
end
/-- the new store -/
theorem beg0_ok (nn : Nat) (h1 : 57 ≤ nn) (h3 : nn ≤ 300) (n : Nat) (hn : n = nP (newD nn)) : StOk nn n (beg0 nn n) := (made_ok nn h1 h3 n hn).2.2.2.2
section
variable {S : List Bytes}
end
end Go.Proofs.YtbnobjlphmkgeaaGreatDoor
/- A store that is played with, whether the power stays or goes. -/
namespace Go.Proofs.YtbnobjlphmkgeaaGreatDoor
open Go.RowKit Go.Maps Go.ChangeMaps

/-- a store and its device, the power there or not -/
structure PlAny (w0 w : World) (F GH : Nat → Prop) (s p d h nn n : Nat) (S : Sto) : Prop where
  dev : DevB w0 w F d S.D
  st : ∃ gk ck, StH w0 w F GH s p d h gk ck S.st n S.l S.K
  lv : ∃ nx, LvS nn n S nx
section
variable {w0 w w' w1 : World} {F F' GH GH' : Nat → Prop} {s p d h nn n : Nat} {S : Sto}
theorem PlSt.any (a : PlSt w0 w F GH s p d h nn n S) : PlAny w0 w F GH s p d h nn n S := ⟨a.dev, a.st, _, a.ok.lv⟩
theorem PlAny.below (a : PlAny w0 w F GH s p d h nn n S) (hb : Below w.heap.size w w') : PlAny w0 w' F GH s p d h nn n S := by
  obtain ⟨gk, ck, hs⟩ := a.st
  exact ⟨a.dev.below hb, ⟨gk, ck, hs.below hb⟩, a.lv⟩
theorem PlAny.do_ (a : PlAny w0 w F GH s p d h nn n S) (hst : S.st < 4294967295) (o : OpX) (ho : OpOk w0 o) :
    Calls Tryz.prog 36 #[.pointer (some ⟨s, 0, none⟩), opV o] w fun e w' => e = .returned (errV (doS n S o).2) ∧ ∃ F' GH', PlAny w0 w' F' GH' s p d h nn n (doS n S o).1 := by
  obtain ⟨gk, ck, hs⟩ := a.st
  obtain ⟨nx, hlv⟩ := a.lv
  have hnx := hlv.do_ o
  obtain ⟨D, st, l, K⟩ := S
  refine (sdo_any o hs a.dev hlv.gl hlv.gk hlv.ll hlv.lk hlv.n2 (Nat.le_of_lt hst) (ho.below a.dev.bel)).mono ?_
  rintro e w1 ⟨he, F', GH', gk', ck', hm⟩
  exact ⟨he, F', GH', hm.dev, ⟨gk', ck', hm.st⟩, hnx⟩
/-- so many steps from now on -/
theorem PlSt.fail (a : PlSt w0 w F GH s p d h nn n S) (x : Int) (hd : DevB w0 w' F d { S.D with left := max (-1) x }) (hk : Keep F w w') : PlAny w0 w' F GH s p d h nn n ⟨{ S.D with left := max (-1) x }, S.st, S.l, S.K⟩ := by
  obtain ⟨gk, ck, hs⟩ := a.st
  exact ⟨hd, ⟨gk, ck, hs.dev hk a.dev.new (fun _ hq => .inl hq)⟩, _, a.ok.lv.left (max (-1) x)⟩
end
end Go.Proofs.YtbnobjlphmkgeaaGreatDoor
/- Package play: begin, Steps. -/
namespace Go.Proofs.YtbnobjlphmkgeaaGreatDoor
open Go.RowKit Go.Maps Go.ChangeMaps

/-- where a script's k-th op lies -/
theorem ops_at {w : World} {OA : Option Addr} {L : List OpX} (h : RdX ocells 6 w OA L) (k : Nat) (hk : k < L.length) : ∃ pb off, OA = some ⟨pb, off, none⟩ ∧ (w.cell? ⟨pb, off + k * 6, none⟩ = some (.int .i64 L[k].what) ∧ w.cell? ⟨pb, off + k * 6 + 1, none⟩ = some (.int .i64 L[k].handle) ∧ w.cell? ⟨pb, off + k * 6 + 2, none⟩ = some (.int .i64 L[k].at_) ∧ w.cell? ⟨pb, off + k * 6 + 3, none⟩ = some (.int .i64 L[k].len) ∧ w.cell? ⟨pb, off + k * 6 + 4, none⟩ = some (sv L[k].name) ∧ w.cell? ⟨pb, off + k * 6 + 5, none⟩ = some (.slice L[k].A L[k].body.length L[k].cap)) := by
  obtain ⟨pb, off, e, hc⟩ := h k hk
  have x0 := hc 0 _ rfl
  rw [Nat.add_zero] at x0
  exact ⟨pb, off, e, x0, hc 1 _ rfl, hc 2 _ rfl, hc 3 _ rfl, hc 4 _ rfl, hc 5 _ rfl⟩
theorem Six6.below {w w' : World} {b : Nat} {v0 v1 v2 v3 v4 v5 : Value} (h : Six6 w b v0 v1 v2 v3 v4 v5) (hb : Below w.heap.size w w') (hl : b < w.heap.size) : Six6 w' b v0 v1 v2 v3 v4 v5 := by
  unfold Six6 at *
  simp only [World.cell?] at *
  rw [hb.block b hl]
  exact h
end Go.Proofs.YtbnobjlphmkgeaaGreatDoor
/- A played script, plainly: whenever the power goes, what is there is what some Commit of the script kept. No program in sight. -/
namespace Go.Proofs.YtbnobjlphmkgeaaGreatDoor
open Go.RowKit Go.Maps Go.ChangeMaps

end Go.Proofs.YtbnobjlphmkgeaaGreatDoor
/- Package play: Play. -/
namespace Go.Proofs.YtbnobjlphmkgeaaGreatDoor
open Go.RowKit Go.Maps Go.ChangeMaps

end Go.Proofs.YtbnobjlphmkgeaaGreatDoor
/- The closed fact of package vaulttop: one. -/
namespace Go.Proofs.YtbnobjlphmkgeaaGreatDoor
open Go.RowKit Go.Maps Go.ChangeMaps

theorem PlSt.heap1 {w0 w w' : World} {F GH GH' : Nat → Prop} {s p d h nn n : Nat} {S : Sto} {l' : Bytes} (a : PlSt w0 w F GH s p d h nn n S) (hm : HpM w0 w w' GH GH' h l') (hg : Good l') (hl : l'.length = S.l.length) : PlSt w0 w' F GH' s p d h nn n ⟨S.D, S.st, l', S.K⟩ := by
  obtain ⟨gk, ck, hs⟩ := a.st
  exact ⟨a.dev.keep hm.kp (fun q hq hg => hs.gf q hg hq) hs.hp.new, ⟨gk, ck, hs.heap hm a.dev.flt⟩, a.ok.sf, a.ok.kb, hg, a.ok.gk, hl.trans a.ok.ll, a.ok.lk, a.ok.n1, a.ok.n2⟩
/-- the images that it comes by -/
theorem one_is : ∃ l1 l2 l3 : Bytes, allocL (List.replicate 384 0) 2 3 = l1 ∧ writeL l1 1 0 [8, 9] = l2 ∧ writeL l2 1 0 [1, 1] = l3 ∧ allocE (List.replicate 384 0) 2 3 = 0 ∧ allocH (List.replicate 384 0) 2 3 = 1 ∧ someE l1 1 0 2 = 0 ∧ someE l2 1 0 2 = 0 ∧ Good l1 ∧ Good l2 ∧ Good l3 ∧ l1.length = 384 ∧ l2.length = 384 ∧ l3.length = 384 ∧ readL l2 1 0 2 = [8, 9] := by
  have hr : rightB (384 : Int) = true := rfl
  have hg : Good (List.replicate 384 0) := good_zero' rfl
  have hz : ∀ j, j < 40 → hasE (rawE (List.replicate 384 0) j) = false := fun j hj => by
    rw [show rawE (List.replicate 384 0) j = List.replicate 5 0 from zeros_cut' 384 (5 * j) 5 (by omega)]; exact zeros_has
  have hfh : fH (List.replicate 384 0) 40 = 1 := by
    rcases fH_spec (List.replicate 384 0) 40 (Nat.le_refl _) with ⟨_, hall⟩ | ⟨q, _, k2, k3, k4, k5⟩
    · have := hall 0 (by omega) (by omega)
      rw [hz 0 (by omega)] at this; cases this
    · rw [k3]
      by_cases hq : q = 0
      · rw [hq]
      · have := k5 0 (by omega) (by omega)
        rw [hz 0 (by omega)] at this; cases this
  have hc := good_chk hg
  have hlen : (List.replicate 384 (0 : UInt8)).length = 384 := List.length_replicate
  generalize List.replicate 384 (0 : UInt8) = l at *
  rw [hlen] at hc
  have hf : fitE ((384 : Nat) - 288 : Int) (takenL l) 2 = 0 := fit_exists hc (p := 0) (by omega) (by omega) (by omega) (fun e he => by
    obtain ⟨j, hj, hh, _⟩ := takenL_mem.1 he
    rw [hz j hj] at hh; cases hh)
  have hE : allocE l 2 3 = 0 := by
    unfold allocE
    rw [if_neg (by rw [lenB_true.2 ⟨by omega, by omega⟩, tagB_true.2 ⟨by omega, by omega⟩]; simp), hlen, if_neg (by rw [hfh, hf]; decide)]
  have hH : allocH l 2 3 = 1 := by unfold allocH; rw [if_pos hE, hfh]; rfl
  have hga : Good (allocL l 2 3) ∧ (allocL l 2 3).length = 384 := by
    obtain ⟨k, a, n', t', _, _, _, _, hi⟩ := alloc_is hg hE
    exact ⟨hi.good hg, hi.len.trans hlen⟩
  obtain ⟨-, -, -, -, h5, -⟩ := alloc_read hg hE
  rw [hH] at h5
  generalize allocL l 2 3 = l1 at *
  obtain ⟨w1, w2⟩ := write_read hga.1 (x := 1) (c := 0) (b := [8, 9]) h5
  have hg2 := write_good hga.1 1 0 [8, 9]
  have hl2 : (writeL l1 1 0 [8, 9]).length = 384 := by
    obtain ⟨k, o, _, _, hw⟩ := write_is hga.1 (x := 1) (c := 0) (b := [8, 9]) h5
    exact hw.len.trans hga.2
  generalize hq2 : writeL l1 1 0 [8, 9] = l2 at *
  have hg3 := write_good hg2 1 0 [1, 1]
  have hl3 : (writeL l2 1 0 [1, 1]).length = 384 := by
    obtain ⟨k, o, _, _, hw⟩ := write_is hg2 (x := 1) (c := 0) (b := [1, 1]) w1
    exact hw.len.trans hl2
  exact ⟨l1, l2, _, rfl, hq2, rfl, hE, hH, h5, w1, hga.1, hg2, hg3, hga.2, hl2, hl3, w2⟩
theorem two_rd (w : World) (a b : UInt8) : Rd (w.alloc (.cells #[bv a, bv b] 5)) (some ⟨w.heap.size, 0, none⟩) [a, b] := by
  have hh := heap_alloc_new w (.cells #[bv a, bv b] 5)
  intro j hj
  refine ⟨w.heap.size, 0, rfl, ?_⟩
  simp only [World.cell?]
  rw [hh]
  match j, hj with
  | 0, _ => rfl
  | 1, _ => rfl
theorem np60' : 12 = nP (newD 60) := by unfold nP; rw [newD_len]; decide
set_option maxRecDepth 100000 in
set_option maxHeartbeats 2000000 in
theorem one_ok (w : World) : Calls Tryz.prog 33 #[] w fun e w' => e = .returned (.bool true) ∧ Below w.heap.size w w' := by
  obtain ⟨l1, l2, l3, e1, e2, e3, e4, e5, e6, e7, g1, g2, g3, n1, n2, n3, e8⟩ := one_is
  have HQ := Hidden.mk (And.intro g1 (And.intro g2 (And.intro g3 (And.intro n1 (And.intro n2 n3)))))
  have HN := Hidden.mk (dnewB 60 w (by decide) (by decide))
  have HOK := Hidden.mk (beg0_ok 60 (by decide) (by decide) 12 np60')
  go_enter Tryz.func33, Tryz.ntmps33
  go_wp2_with fail
  refine HN.out.mono ?_
  rintro e w1 ⟨d, F0, rfl, hd⟩
  have HC := Hidden.mk (screate_ok 60 12 hd (by decide) (by decide) np60')
  clear hd HN
  go_wp2_with fail
  refine HC.out.mono ?_
  rintro e w2 ⟨s, p, h, gk, ck, F1, GH1, rfl, hmk⟩
  have HP2 : Hidden (PlSt w w2 F1 GH1 s p d h 60 12 (beg0 60 12)) := ⟨⟨hmk.dev, ⟨gk, ck, hmk.st⟩, HOK.out⟩⟩
  clear hmk HC HOK
  have HA : Hidden (Calls Tryz.prog 13 #[.pointer (some ⟨h, 0, none⟩), .int .i64 2, .int .i64 3] w2 fun e w' => e = .returned (.tuple #[.int .i64 1, .nilIface]) ∧ ∃ F', HpM w w2 w' GH1 F' h l1) := ⟨by
    obtain ⟨gk, ck, hs⟩ := HP2.out.st
    have := halloc_any 2 3 hs.hp
    rw [show (beg0 60 12).l = List.replicate 384 0 from rfl, e4, e5, e1, errV0] at this
    exact this⟩
  go_wp2_with fail
  refine HP2.out.heap_.mono ?_
  rintro e w3 ⟨rfl, rfl⟩
  go_wp2_with fail
  refine HA.out.mono ?_
  rintro e w3 ⟨rfl, GH3, hm3⟩
  have HP3 := Hidden.mk (HP2.out.heap1 hm3 HQ.out.1 (by rw [HQ.out.2.2.2.1]; show _ = (List.replicate 384 (0 : UInt8)).length; simp))
  clear hm3 HA HP2
  go_wp2_with fail
  refine HP3.out.heap_.mono ?_
  rintro e w4 ⟨rfl, rfl⟩
  have hal := (Below.refl w3.heap.size w3).alloc (Nat.le_refl _) (.cells #[bv 8, bv 9] 5)
  have HP4 := Hidden.mk (HP3.out.below hal)
  have HW : Hidden (Calls Tryz.prog 17 #[.pointer (some ⟨h, 0, none⟩), .int .i64 1, .int .i64 0, .slice (some ⟨w3.heap.size, 0, none⟩) 2 2] (w3.alloc (.cells #[bv 8, bv 9] 5)) fun e w' => e = .returned .nilIface ∧ HpM w (w3.alloc (.cells #[bv 8, bv 9] 5)) w' GH3 GH3 h l2) := ⟨by
    obtain ⟨gk, ck, hs⟩ := HP4.out.st
    have := hwrite_any 1 0 (some ⟨w3.heap.size, 0, none⟩) 2 2 [8, 9] hs.hp HQ.out.1 rfl (by decide) (two_rd w3 8 9)
    rw [e2] at this
    rw [show ((2 : Nat) : Int) = 2 from rfl, e6, errV0] at this
    exact this⟩
  clear hal HP3
  go_wp2_with fail
  refine HW.out.mono ?_
  rintro e w5 ⟨rfl, hm5⟩
  have HP5 := Hidden.mk (HP4.out.heap1 hm5 HQ.out.2.1 (by rw [HQ.out.2.2.2.2.1]; exact HQ.out.2.2.2.1.symm))
  have HCM := Hidden.mk (HP5.out.commit (show (2 : Nat) < 4294967295 by decide))
  have HSD := Hidden.mk (HP5.out.ok.said (show (2 : Nat) < 4294967295 by decide))
  dsimp only at HCM HSD
  have hdl := dL_le l2 (beg0 60 12).K 12
  have hz := HSD.out.1.2 (by omega)
  obtain ⟨R, hR⟩ : ∃ R, cmS 12 (beg0 60 12).st (beg0 60 12).D l2 (beg0 60 12).K = R := ⟨_, rfl⟩
  rw [hR] at HCM hz
  rw [hz] at HCM
  clear hm5 HW HSD hdl hR HP4
  generalize (if (dL l2 (beg0 60 12).K 12).length ≠ 0 then (beg0 60 12).st + 1 else (beg0 60 12).st) = st6 at *
  rw [errV0] at HCM
  go_wp2_with fail
  refine HCM.out.mono ?_
  rintro e w6 ⟨rfl, -, hm6⟩
  obtain ⟨F6, hm6⟩ := hm6 trivial
  have HP6 := Hidden.mk hm6.pl
  clear hm6 HCM hz HP5
  go_wp2_with fail
  refine HP6.out.heap_.mono ?_
  rintro e w7 ⟨rfl, rfl⟩
  have hal := (Below.refl w6.heap.size w6).alloc (Nat.le_refl _) (.cells #[bv 1, bv 1] 5)
  have HP7 := Hidden.mk (HP6.out.below hal)
  have HW : Hidden (Calls Tryz.prog 17 #[.pointer (some ⟨h, 0, none⟩), .int .i64 1, .int .i64 0, .slice (some ⟨w6.heap.size, 0, none⟩) 2 2] (w6.alloc (.cells #[bv 1, bv 1] 5)) fun e w' => e = .returned .nilIface ∧ HpM w (w6.alloc (.cells #[bv 1, bv 1] 5)) w' GH3 GH3 h l3) := ⟨by
    obtain ⟨gk, ck, hs⟩ := HP7.out.st
    have := hwrite_any 1 0 (some ⟨w6.heap.size, 0, none⟩) 2 2 [1, 1] hs.hp HQ.out.2.1 rfl (by decide) (two_rd w6 1 1)
    rw [e3] at this
    rw [show ((2 : Nat) : Int) = 2 from rfl, e7, errV0] at this
    exact this⟩
  clear hal HP6
  go_wp2_with fail
  refine HW.out.mono ?_
  rintro e w8 ⟨rfl, hm8⟩
  have HP8 := Hidden.mk (HP7.out.heap1 hm8 HQ.out.2.2.1 (by rw [HQ.out.2.2.2.2.2]; exact HQ.out.2.2.2.2.1.symm))
  have HCD := Hidden.mk (HP8.out.dev.crash none 0 0 [] (-1) 0 rfl (fun j hj => by simp at hj) (fun h0 => by omega))
  have HDD := Hidden.mk (HP8.out.ok.hd.crash [] (-1) (min 32 (max 0 (0 : Int))).toNat (by decide))
  try dsimp only at HCD HDD
  have HUP : Hidden (Up (crashD R.1 [] (-1) (min 32 (max 0 (0 : Int))).toNat)) := ⟨rfl, rfl⟩
  generalize crashD R.1 [] (-1) (min 32 (max 0 (0 : Int))).toNat = DC at *
  clear hm8 HW HP7 HP8
  go_wp2_with fail
  refine HCD.out.mono ?_
  rintro e w9 ⟨rfl, hd9, hk9⟩
  have hop := HDD.out.open_
  have h0 : (openP DC).2 = 0 := by
    rcases hop.2.1 with h1 | h1
    · exact h1
    · exact absurd h1 (open_stays HUP.out).2
  obtain ⟨q1, q2, q3, q4, q5, q6, q7, q8⟩ := hop.2.2 h0
  have hn2 : 12 = nP (openP DC).1 := by obtain ⟨l, hl⟩ := q6; exact hl.hold.n0
  have HOP := Hidden.mk (sopen_ok hd9 h0 q1 q3 hn2 q2 q8 l2 q7 HDD.out.gn)
  clear hd9 hk9 hop h0 q1 q2 q3 q4 q5 q6 q7 q8 hn2 HCD HDD
  go_wp2_with fail
  refine HOP.out.mono ?_
  rintro e w10 ⟨sa, pa, ha, gka, cka, F5, GA, rfl, hsn⟩
  have HSN := Hidden.mk (And.intro hsn.st hsn.dev.bel)
  clear hsn HOP
  have HRD := Hidden.mk (hread_any 1 0 2 HSN.out.1.hp HQ.out.2.1 (by decide))
  rw [e7, e8, errV0] at HRD
  go_wp2_with fail
  refine (stheap_any HSN.out.1).mono ?_
  rintro e w11 ⟨rfl, rfl⟩
  go_wp2_with fail
  refine HRD.out.mono ?_
  rintro e w12 ⟨A', c', rfl, hc', hrd, -, hb⟩
  have HB := Hidden.mk (HSN.out.2.trans (hb.mono HSN.out.2.size))
  obtain ⟨bb, off, rfl, c0⟩ := hrd 0 (by decide)
  have c1 := hrd 1 (by decide)
  obtain ⟨bb', off', e9, c1⟩ := c1
  simp only [Option.some.injEq, Addr.mk.injEq, and_true] at e9
  obtain ⟨rfl, rfl⟩ := e9
  rw [Nat.add_zero] at c0
  have c0' : w12.cell? ⟨bb, off, none⟩ = some (.int .u8 8) := c0
  have c1' : w12.cell? ⟨bb, off + 1, none⟩ = some (.int .u8 9) := c1
  clear hrd c0 c1 hb hc' HRD HSN
  go_wp2_with fail
  go_ret
  exact ⟨rfl, HB.out⟩
end Go.Proofs.YtbnobjlphmkgeaaGreatDoor
/- The reference's step of moving, plainly. No walk here. -/
namespace Go.Proofs.YtbnobjlphmkgeaaGreatDoor
open Go.RowKit

end Go.Proofs.YtbnobjlphmkgeaaGreatDoor
/- The reference's Put and PutEntry: the row that they give is a new one. -/
namespace Go.Proofs.YtbnobjlphmkgeaaGreatDoor
open Go.RowKit

end Go.Proofs.YtbnobjlphmkgeaaGreatDoor
/- The reference on heaps: Taken, Step. -/
namespace Go.Proofs.YtbnobjlphmkgeaaGreatDoor
open Go.RowKit

end Go.Proofs.YtbnobjlphmkgeaaGreatDoor
/- The reference's extents, plainly: its holes are the program's. No walk here. -/
namespace Go.Proofs.YtbnobjlphmkgeaaGreatDoor
open Go.RowKit

/-- a place that is free, behind runs -/
def addR (out : List Ext) (i : Int) : List Ext := match out.getLast? with
  | some h => if h.1 + h.2 = i then out.dropLast ++ [(h.1, h.2 + 1)] else out ++ [(i, 1)]
  | none => out ++ [(i, 1)]
end Go.Proofs.YtbnobjlphmkgeaaGreatDoor
/- The reference's extents: Extents, Holes. -/
namespace Go.Proofs.YtbnobjlphmkgeaaGreatDoor
open Go.RowKit

end Go.Proofs.YtbnobjlphmkgeaaGreatDoor
/- The reference's extents: Holes. -/
namespace Go.Proofs.YtbnobjlphmkgeaaGreatDoor
open Go.RowKit

end Go.Proofs.YtbnobjlphmkgeaaGreatDoor
/- The reference's extents: Fit, Stat; extents that are the same. -/
namespace Go.Proofs.YtbnobjlphmkgeaaGreatDoor
open Go.RowKit

section
variable (n : Nat) (A : Option Addr) (m c : Nat) (l : List Ext) (w : World) (hl : l.length = m) (hr : RdX tcells 2 w A l) (hc : chkX (n : Int) l = 0)
include hl hr hc
end
end Go.Proofs.YtbnobjlphmkgeaaGreatDoor
/- The reference's Alloc. -/
namespace Go.Proofs.YtbnobjlphmkgeaaGreatDoor
open Go.RowKit

end Go.Proofs.YtbnobjlphmkgeaaGreatDoor
/- The reference's Alloc, of whatever. -/
namespace Go.Proofs.YtbnobjlphmkgeaaGreatDoor
open Go.RowKit

end Go.Proofs.YtbnobjlphmkgeaaGreatDoor
/- The reference's PutRoot where all is right: the row that it gives is a new one. -/
namespace Go.Proofs.YtbnobjlphmkgeaaGreatDoor
open Go.RowKit

end Go.Proofs.YtbnobjlphmkgeaaGreatDoor
/- The reference on who names whom: Handle, Refs. -/
namespace Go.Proofs.YtbnobjlphmkgeaaGreatDoor
open Go.RowKit

end Go.Proofs.YtbnobjlphmkgeaaGreatDoor
/- The reference's Free, Part, Write. -/
namespace Go.Proofs.YtbnobjlphmkgeaaGreatDoor
open Go.RowKit

end Go.Proofs.YtbnobjlphmkgeaaGreatDoor
/- The reference's place, Set, Unset. -/
namespace Go.Proofs.YtbnobjlphmkgeaaGreatDoor
open Go.RowKit

end Go.Proofs.YtbnobjlphmkgeaaGreatDoor
/- The reference's Set. -/
namespace Go.Proofs.YtbnobjlphmkgeaaGreatDoor
open Go.RowKit

end Go.Proofs.YtbnobjlphmkgeaaGreatDoor
/- The reference's Step of moving. -/
namespace Go.Proofs.YtbnobjlphmkgeaaGreatDoor
open Go.RowKit

def bA : Option Ent → Nat
  | none => 0
  | some x => rAt x.2
end Go.Proofs.YtbnobjlphmkgeaaGreatDoor
/- The reference on ways: less; rows of rows of numbers. -/
namespace Go.Proofs.YtbnobjlphmkgeaaGreatDoor
open Go.RowKit

section
variable {w0 w w' : World} {gw : Nat} {V : WV}
end
end Go.Proofs.YtbnobjlphmkgeaaGreatDoor
/- Package reach: Path. -/
namespace Go.Proofs.YtbnobjlphmkgeaaGreatDoor
open Go.RowKit Go.Maps Go.ChangeMaps

/-- each beginning of a way is the way to its last one -/
theorem WOk.pre {l : Bytes} {W : Ways} {D : List Nat} (h : WOk l W D) : ∀ (n : Nat) (y : Nat) (p : List Nat), p.length ≤ n → W y = some p → ∀ i (hi : i < p.length), W p[i] = some (p.take (i + 1))
  | 0, _, p, hn, _, i, hi => by omega
  | n + 1, y, p, hn, hp, i, hi => by
    obtain ⟨q, e, h1⟩ := h.ways y p hp
    subst e
    by_cases hl : i = q.length
    · subst hl
      rw [List.getElem_append_right (Nat.le_refl _)]
      simp only [Nat.sub_self, List.getElem_singleton]
      rw [hp, List.take_of_length_le (by simp)]
    · have hiq : i < q.length := by simp at hi; omega
      rcases h1 with ⟨rfl, -⟩ | ⟨x, h2, -⟩
      · simp at hiq
      · rw [List.getElem_append_left hiq, List.take_append_of_le_length (by omega)]
        exact WOk.pre h n x q (by simp at hn; omega) h2 i hiq
theorem WOk.ne {l : Bytes} {W : Ways} {D : List Nat} (h : WOk l W D) {y : Nat} {p : List Nat} (hp : W y = some p) {i : Nat} (hi : i + 1 < p.length) : p[i] ≠ p[i + 1] := fun e => by
  have h1 := h.pre _ y p (Nat.le_refl _) hp i (by omega)
  have h2 := h.pre _ y p (Nat.le_refl _) hp (i + 1) hi
  rw [e, h2] at h1
  have := congrArg List.length (Option.some.inj h1)
  simp at this; omega
section
variable {w0 w : World} {F : Nat → Prop} {h : Nat} {l : Bytes}
end
end Go.Proofs.YtbnobjlphmkgeaaGreatDoor
/- The reference on ways: Ways, the walk. -/
namespace Go.Proofs.YtbnobjlphmkgeaaGreatDoor
open Go.RowKit

end Go.Proofs.YtbnobjlphmkgeaaGreatDoor
/- The reference: Live. -/
namespace Go.Proofs.YtbnobjlphmkgeaaGreatDoor
open Go.RowKit

end Go.Proofs.YtbnobjlphmkgeaaGreatDoor
/- The contracts of errors.As at a target that points to an api.Errno, of plain.Told and of vaultsame.Error. After the guide's worked example on errors.As at a concrete target. -/
namespace Go.Proofs.YtbnobjlphmkgeaaGreatDoor
open Go.RowKit Go.Extern.Stop Go.Stop Go.Extern

theorem rl_valueOfP (t : Addr) (w : World) : (ReflectliteValue.unpack (.iface 202 (.pointer (some t)))).run Tryz.prog w
    = .ok (.agg #[.pointer (some ⟨1, 202, none⟩), .pointer (some ⟨w.heap.size, 0, none⟩), .int .u64 150]) (w.alloc (.cells #[.pointer (some t)] 202)) := by kernel_rfl
theorem rl_typeP (a : Addr) (w : World) : (ReflectliteValue.methodAny (ReflectliteValue.valueError "reflectlite.Value.Type" 0) (fun t _ _ _ => ReflectliteType.toType t) #[.agg #[.pointer (some ⟨1, 202, none⟩), .pointer (some a), .int .u64 150]]).run Tryz.prog w
    = .ok (.iface 282 (.agg #[.pointer (some ⟨1, 202, none⟩)])) w := by kernel_rfl
theorem rl_kindP (w : World) : ((ReflectliteType.abiMethod fun t => (fun a : Nat => Value.int IntKind.u8 (a : Int)) <$> Rtype.kind t) #[.pointer (some ⟨1, 202, none⟩)]).run Tryz.prog w = .ok (.int .u8 22) w := by kernel_rfl
theorem rl_kindE (w : World) : ((ReflectliteType.abiMethod fun t => (fun a : Nat => Value.int IntKind.u8 (a : Int)) <$> Rtype.kind t) #[.pointer (some ⟨1, 111, none⟩)]).run Tryz.prog w = .ok (.int .u8 2) w := by kernel_rfl
theorem rl_m (z : Sem Value) (f : TypeId → Addr → Nat → Nat → Sem Value) (v : Value) :
    ReflectliteValue.method z f #[v] = (do match ← ReflectliteValue.parts v with | none => z | some (t, a, fl) => f t a fl (fl % 32)) := rfl
theorem rl_partsP (a : Addr) (w : World) : (ReflectliteValue.parts (.agg #[.pointer (some ⟨1, 202, none⟩), .pointer (some a), .int .u64 150])).run Tryz.prog w = .ok (some (202, a, 150)) w := by kernel_rfl
theorem rl_isNilP (a p : Addr) (W : World) (ha : W.cell? a = some (.pointer (some p))) :
    (ReflectliteValue.method (ReflectliteValue.valueError "reflectlite.Value.IsNil" 0) ReflectliteValue.isNil #[.agg #[.pointer (some ⟨1, 202, none⟩), .pointer (some a), .int .u64 150]]).run Tryz.prog W = .ok (.bool false) W := by
  rw [rl_m]
  simp only [Sem.run_bind, rl_partsP, Result.andThen]
  simp [ReflectliteValue.isNil, loadVar, isAgg, underlying, Tryz.underlying202, ha, Result.andThen]
theorem rl_elemP (w : World) : (ReflectliteType.method ReflectliteType.elem #[.agg #[.pointer (some ⟨1, 202, none⟩)]]).run Tryz.prog w = .ok (.iface 282 (.agg #[.pointer (some ⟨1, 111, none⟩)])) w := by kernel_rfl
theorem rl_implE (w : World) : (ReflectliteType.relation "Implements" ReflectliteType.implements_ #[.agg #[.pointer (some ⟨1, 111, none⟩)], .iface 282 (.agg #[.pointer (some ⟨1, 28, none⟩)])]).run Tryz.prog w = .ok (.bool true) w := by kernel_rfl
theorem rl_typeOfE (v : Value) (w : World) : (ReflectliteType.typeOf #[.iface 111 v]).run Tryz.prog w = .ok (.iface 282 (.agg #[.pointer (some ⟨1, 111, none⟩)])) w := by kernel_rfl
theorem rl_assignE (w : World) : (ReflectliteType.relation "AssignableTo" ReflectliteType.assignableTo #[.agg #[.pointer (some ⟨1, 111, none⟩)], .iface 282 (.agg #[.pointer (some ⟨1, 111, none⟩)])]).run Tryz.prog w = .ok (.bool true) w := by kernel_rfl
theorem rl_valueOfE (k : Int) (w : World) : (ReflectliteValue.unpack (.iface 111 (.int .i64 k))).run Tryz.prog w
    = .ok (.agg #[.pointer (some ⟨1, 111, none⟩), .pointer (some ⟨w.heap.size, 0, none⟩), .int .u64 130]) (w.alloc (.cells #[.int .i64 k] 111)) := by kernel_rfl
theorem rl_elemOfP (w : World) : (Rtype.elem? 202).run Tryz.prog w = .ok (some 111) w := by kernel_rfl
theorem rl_mkE (p : Addr) (w : World) : (ReflectliteValue.mk 111 p ReflectliteValue.flagAddr).run Tryz.prog w = .ok (.agg #[.pointer (some ⟨1, 111, none⟩), .pointer (some p), .int .u64 386]) w := by kernel_rfl
theorem rl_elemVP (a p : Addr) (W : World) (ha : W.cell? a = some (.pointer (some p))) :
    (ReflectliteValue.method (ReflectliteValue.valueError "reflectlite.Value.Elem" 0) ReflectliteValue.elem #[.agg #[.pointer (some ⟨1, 202, none⟩), .pointer (some a), .int .u64 150]]).run Tryz.prog W
      = .ok (.agg #[.pointer (some ⟨1, 111, none⟩), .pointer (some p), .int .u64 386]) W := by
  rw [rl_m]
  simp only [Sem.run_bind, rl_partsP, Result.andThen]
  simp [ReflectliteValue.elem, loadVar, isAgg, underlying, Tryz.underlying202, ha, Result.andThen, rl_elemOfP, rl_mkE]
theorem rl_s (v x : Value) : ReflectliteValue.set #[v, x] = (do
    let (some (dst, a, fl), some (src, b, _)) := (← ReflectliteValue.parts v, ← ReflectliteValue.parts x)
      | unsupported (.noEntry "extern/(internal/reflectlite.Value).Set.zeroValue")
    if fl / ReflectliteValue.flagAddr % 2 == 0 then unsupported (.noEntry "extern/(internal/reflectlite.Value).Set.unaddressable")
    let val ← loadVar src b
    if ← Rtype.directlyAssignable dst src then storeVar dst a val
    else if ← Rtype.implements dst src then
      if (← Rtype.kind src) == 20 then
        match val with
        | .nilIface => unsupported (.noEntry "extern/reflectlite: a nil value of one interface type handed on as a value of another")
        | _ => storeVar dst a val
      else storeVar dst a (.iface src val)
    else panicString ("reflectlite.Set: value of type " ++ (← Rtype.spelt src) ++ " is not assignable to type " ++ (← Rtype.spelt dst))
    pure (.tuple #[])) := rfl
theorem rl_partsEa (a : Addr) (w : World) : (ReflectliteValue.parts (.agg #[.pointer (some ⟨1, 111, none⟩), .pointer (some a), .int .u64 386])).run Tryz.prog w = .ok (some (111, a, 386)) w := by kernel_rfl
theorem rl_partsE (a : Addr) (w : World) : (ReflectliteValue.parts (.agg #[.pointer (some ⟨1, 111, none⟩), .pointer (some a), .int .u64 130])).run Tryz.prog w = .ok (some (111, a, 130)) w := by kernel_rfl
theorem rl_directE (w : World) : (Rtype.directlyAssignable 111 111).run Tryz.prog w = .ok true w := by kernel_rfl
theorem rl_setE (ta b : Addr) (k : Int) (old : Value) (W : World) (hb : W.cell? b = some (.int .i64 k)) (ht : W.cell? ta = some old) (hf : W.frozen? ta = false) :
    (ReflectliteValue.set #[.agg #[.pointer (some ⟨1, 111, none⟩), .pointer (some ta), .int .u64 386], .agg #[.pointer (some ⟨1, 111, none⟩), .pointer (some b), .int .u64 130]]).run Tryz.prog W
      = .ok (.tuple #[]) (W.setCell ta (.int .i64 k)) := by
  rw [rl_s]
  simp only [Sem.run_bind, rl_partsEa, rl_partsE, Result.andThen]
  simp [ReflectliteValue.flagAddr, loadVar, isAgg, underlying, Tryz.underlying111, hb, Result.andThen, rl_directE, storeVar, Value.cells, storeCells, Addr.add]
  rw [run_store Tryz.prog W ta _ _ (by rfl)]
  simp [ht, hf]

/-- what the row's condition gives: the variable errors.errorType -/
def HasType (w : World) : Prop := w.cell? ⟨0, 0, none⟩ = some (.iface 282 (.agg #[.pointer (some ⟨1, 28, none⟩)]))
theorem HasType.below {B : Nat} {w w' : World} (h : HasType w) (hB : 0 < B) (hb : Below B w w') : HasType w' := (hb.cell (p := ⟨0, 0, none⟩) hB).trans h
theorem HasType.lt {w : World} (h : HasType w) : 0 < w.heap.size := block_lt_of_cell h
end Go.Proofs.YtbnobjlphmkgeaaGreatDoor
/- The contracts of errors.As at a target that points to an api.Errno, of plain.Told and of vaultsame.Error. -/
namespace Go.Proofs.YtbnobjlphmkgeaaGreatDoor
open Go.RowKit Go.Extern.Stop Go.Stop Go.Extern

theorem rl_methKind (n : Nat) (h : Value) (w : World) : (Go.method (n + 1) 282 (.agg #[h]) "Kind").run Tryz.prog w = .ok (285, h) w := by kernel_rfl
theorem rl_methElem (n : Nat) (h : Value) (w : World) : (Go.method (n + 1) 282 (.agg #[h]) "Elem").run Tryz.prog w = .ok (297, .agg #[h]) w := by kernel_rfl
theorem rl_methImpl (n : Nat) (h : Value) (w : World) : (Go.method (n + 1) 282 (.agg #[h]) "Implements").run Tryz.prog w = .ok (298, .agg #[h]) w := by kernel_rfl
theorem rl_methAssign (n : Nat) (h : Value) (w : World) : (Go.method (n + 1) 282 (.agg #[h]) "AssignableTo").run Tryz.prog w = .ok (295, .agg #[h]) w := by kernel_rfl

set_option maxRecDepth 100000 in
set_option maxHeartbeats 4000000 in
theorem as_errno (k : Int) (t : Addr) (old : Value) (w : World) (hg : HasType w) (ht0 : w.cell? t = some old) (hf0 : w.frozen? t = false) :
    Calls Tryz.prog 140 #[.iface 111 (.int .i64 k), .iface 202 (.pointer (some t))] w fun ev w' => ev = .returned (.bool true) ∧ w' = ((((w.alloc (.cells #[.pointer (some t)] 202)).alloc (.cells #[.pointer (some ⟨1, 202, none⟩), .pointer (some ⟨w.heap.size, 0, none⟩), .int .u64 150] 246)).alloc (.cells #[.pointer (some ⟨1, 202, none⟩), .pointer (some ⟨w.heap.size, 0, none⟩), .int .u64 150] 246)).alloc (.cells #[.int .i64 k] 111)).setCell t (.int .i64 k) := by
  have h6 := @run_callFunc_extern Tryz.prog 182 _ (fun args => ReflectliteValue.unpack (args.getD 0 (.tuple #[]))) Tryz.func182 (by kernel_rfl) (by kernel_rfl) (by kernel_rfl) (by kernel_rfl)
  have h7 := @run_callFunc_extern Tryz.prog 183 _ (ReflectliteValue.methodAny (ReflectliteValue.valueError "reflectlite.Value.Type" 0) (fun t _ _ _ => ReflectliteType.toType t)) Tryz.func183 (by kernel_rfl) (by kernel_rfl) (by kernel_rfl) (by kernel_rfl)
  have h8 := @run_callFunc_extern Tryz.prog 184 _ (ReflectliteValue.method (ReflectliteValue.valueError "reflectlite.Value.IsNil" 0) ReflectliteValue.isNil) Tryz.func184 (by kernel_rfl) (by kernel_rfl) (by kernel_rfl) (by kernel_rfl)
  have h27 := @run_callFunc_extern Tryz.prog 285 _ (ReflectliteType.abiMethod fun t => do pure (.int .u8 (← Rtype.kind t))) Tryz.func285 (by kernel_rfl) (by kernel_rfl) (by kernel_rfl) (by kernel_rfl)
  have h37 := @run_callFunc_extern Tryz.prog 297 _ (ReflectliteType.method ReflectliteType.elem) Tryz.func297 (by kernel_rfl) (by kernel_rfl) (by kernel_rfl) (by kernel_rfl)
  have h38 := @run_callFunc_extern Tryz.prog 298 _ (ReflectliteType.relation "Implements" ReflectliteType.implements_) Tryz.func298 (by kernel_rfl) (by kernel_rfl) (by kernel_rfl) (by kernel_rfl)
  have h10 := @run_callFunc_extern Tryz.prog 215 _ ReflectliteType.typeOf Tryz.func215 (by kernel_rfl) (by kernel_rfl) (by kernel_rfl) (by kernel_rfl)
  have h35 := @run_callFunc_extern Tryz.prog 295 _ (ReflectliteType.relation "AssignableTo" ReflectliteType.assignableTo) Tryz.func295 (by kernel_rfl) (by kernel_rfl) (by kernel_rfl) (by kernel_rfl)
  have h11 := @run_callFunc_extern Tryz.prog 216 _ (ReflectliteValue.method (ReflectliteValue.valueError "reflectlite.Value.Elem" 0) ReflectliteValue.elem) Tryz.func216 (by kernel_rfl) (by kernel_rfl) (by kernel_rfl) (by kernel_rfl)
  have h12 := @run_callFunc_extern Tryz.prog 217 _ ReflectliteValue.set Tryz.func217 (by kernel_rfl) (by kernel_rfl) (by kernel_rfl) (by kernel_rfl)
  have tO := rl_typeOfE
  have aE := rl_assignE
  have vE := rl_valueOfE
  have f6 := rl_valueOfP
  have f7 := rl_typeP
  have mK := rl_methKind
  have mE := rl_methElem
  have mI := rl_methImpl
  have mA := rl_methAssign
  have kP := rl_kindP
  have kE := rl_kindE
  have eP := rl_elemP
  have iE := rl_implE
  have n8 := rl_isNilP ⟨w.heap.size, 0, none⟩ t ((w.alloc (.cells #[.pointer (some t)] 202)).alloc (.cells #[.pointer (some ⟨1, 202, none⟩), .pointer (some ⟨w.heap.size, 0, none⟩), .int .u64 150] 246)) (by simp)
  have hlt : 0 < w.heap.size := hg.lt
  unfold HasType at hg
  have hg2 : ((w.alloc (.cells #[.pointer (some t)] 202)).alloc (.cells #[.pointer (some ⟨1, 202, none⟩), .pointer (some ⟨w.heap.size, 0, none⟩), .int .u64 150] 246)).cell? ⟨0, 0, none⟩ = some (.iface 282 (.agg #[.pointer (some ⟨1, 28, none⟩)])) := by
    rw [World.cell?_alloc_lt _ _ ⟨0, 0, none⟩ (by simp), World.cell?_alloc_lt _ _ ⟨0, 0, none⟩ hlt]; exact hg
  have htl : t.block < w.heap.size := by
    rcases Nat.lt_or_ge t.block w.heap.size with h | h
    · exact h
    · simp [World.cell?, Array.getElem?_eq_none h] at ht0
  have el := rl_elemVP ⟨w.heap.size, 0, none⟩ t (((w.alloc (.cells #[.pointer (some t)] 202)).alloc (.cells #[.pointer (some ⟨1, 202, none⟩), .pointer (some ⟨w.heap.size, 0, none⟩), .int .u64 150] 246)).alloc (.cells #[.pointer (some ⟨1, 202, none⟩), .pointer (some ⟨w.heap.size, 0, none⟩), .int .u64 150] 246)) (by rw [World.cell?_alloc_lt _ _ ⟨w.heap.size, 0, none⟩ (by simp; omega)]; simp)
  have st := rl_setE t ⟨w.heap.size + 1 + 1 + 1, 0, none⟩ k old ((((w.alloc (.cells #[.pointer (some t)] 202)).alloc (.cells #[.pointer (some ⟨1, 202, none⟩), .pointer (some ⟨w.heap.size, 0, none⟩), .int .u64 150] 246)).alloc (.cells #[.pointer (some ⟨1, 202, none⟩), .pointer (some ⟨w.heap.size, 0, none⟩), .int .u64 150] 246)).alloc (.cells #[.int .i64 k] 111))
    (by rw [World.cell?_alloc_at _ _ _ _ (by simp)]; rfl)
    (by rw [World.cell?_alloc_lt _ _ t (by simp; omega), World.cell?_alloc_lt _ _ t (by simp; omega), World.cell?_alloc_lt _ _ t (by simp; omega), World.cell?_alloc_lt _ _ t htl]; exact ht0)
    (by rw [World.frozen?_alloc_old _ _ t (by simp; omega), World.frozen?_alloc_old _ _ t (by simp; omega), World.frozen?_alloc_old _ _ t (by simp; omega), World.frozen?_alloc_old _ _ t (Nat.ne_of_lt htl)]; exact hf0)
  go_enter Tryz.func140, Tryz.ntmps140
  go_wp2
  refine wp_loop_rounds 1 ?_
  rw [rounds_succ]
  go_wp2
  go_ret
  exact ⟨rfl, rfl⟩
end Go.Proofs.YtbnobjlphmkgeaaGreatDoor
/- The contracts of plain.Told and of vaultsame.Error. -/
namespace Go.Proofs.YtbnobjlphmkgeaaGreatDoor
open Go.RowKit

theorem told_errno (k : Int) (w : World) (hg : HasType w) : Calls Tryz.prog 58 #[.iface 111 (.int .i64 k)] w fun e w' => e = .returned (.int .i64 k) ∧ Below w.heap.size w w' := by
  have hW : Below w.heap.size w (w.alloc (.cells #[.int .i64 0] 111)) := (Below.refl _ _).alloc (Nat.le_refl _) _
  have hg1 := hg.below hg.lt hW
  have HC := Hidden.mk (as_errno k ⟨w.heap.size, 0, none⟩ (.int .i64 0) _ hg1 (by simp) (by simp))
  clear hg1
  go_enter Tryz.func58, Tryz.ntmps58
  go_wp2_with fail
  refine HC.out.mono ?_
  rintro e w' ⟨rfl, hw'⟩
  have hB : Below w.heap.size w w' := by
    rw [hw']
    exact ((((hW.alloc hW.size _).alloc (by simp; omega) _).alloc (by simp; omega) _).alloc (by simp; omega) _).setCell (p := ⟨w.heap.size, 0, none⟩) (Nat.le_refl _) _
  have hc : w'.cell? ⟨w.heap.size, 0, none⟩ = some (.int .i64 k) := by
    rw [hw']
    refine World.cell?_setCell_same' _ _ _ ?_
    rw [(((((Below.refl _ (w.alloc (.cells #[.int .i64 0] 111))).alloc (Nat.le_refl _) _).alloc (by simp) _).alloc (by simp) _).alloc (by simp) _).cell (p := ⟨w.heap.size, 0, none⟩) (by simp)]
    simp
  clear hw' HC hW
  go_wp2_with fail
  go_ret
  exact ⟨rfl, hB⟩
theorem err_some (k x : Int) (w : World) (hg : HasType w) : Calls Tryz.prog 10 #[.iface 111 (.int .i64 k), .int .i64 x] w fun e w' => e = .returned (.bool (k == x)) ∧ Below w.heap.size w w' := by
  go_enter Tryz.func10, Tryz.ntmps10
  go_wp2_with fail
  refine (told_errno k _ hg).mono ?_
  rintro e w' ⟨rfl, hb⟩
  go_wp2_with fail
  go_ret
  exact ⟨rfl, hb⟩
end Go.Proofs.YtbnobjlphmkgeaaGreatDoor
/- PlayDoes: what the law has at hand. -/
namespace Go.Proofs.YtbnobjlphmkgeaaGreatDoor
open Go.RowKit Go.Maps Go.ChangeMaps

section
variable {w w' w0 : World} {X X' F GH F' GH' : Nat → Prop} {g o s p d h nn n : Nat} {x y : Bytes} {S : Sto}
end
section
variable {W wx : World} {X : Nat → Prop} {n gk ok ck : Nat} {K Lx : Bytes}
end
end Go.Proofs.YtbnobjlphmkgeaaGreatDoor
/- Plain words: what two images have alike. No walk here. -/
namespace Go.Proofs.YtbnobjlphmkgeaaGreatDoor
open Go.RowKit Go.Maps Go.ChangeMaps

end Go.Proofs.YtbnobjlphmkgeaaGreatDoor
/- When the reference calls two images the same: the plain law, and its contract. -/
namespace Go.Proofs.YtbnobjlphmkgeaaGreatDoor
open Go.RowKit

/-- names that differ -/
def NamesD (L : List (Bytes × Nat)) : Prop := L.Pairwise fun a b => a.1 ≠ b.1
theorem NamesD.inj {L : List (Bytes × Nat)} (h : NamesD L) {x y : Bytes × Nat} (hx : x ∈ L) (hy : y ∈ L) (e : x.1 = y.1) : x = y := by
  obtain ⟨i, hi, rfl⟩ := List.getElem_of_mem hx
  obtain ⟨j, hj, rfl⟩ := List.getElem_of_mem hy
  have hp := List.pairwise_iff_getElem.1 h
  rcases Nat.lt_trichotomy i j with hij | rfl | hij
  · exact absurd e (hp i j hi hj hij)
  · rfl
  · exact absurd e.symm (hp j i hj hi hij)
theorem Good.names {l : Bytes} (h : Good l) : NamesD (rootsL l) := by
  unfold NamesD rootsL rootsF
  rw [List.pairwise_map]
  have hp : (List.range 8).Pairwise (fun a b => a < b) := List.pairwise_lt_range
  refine (hp.filter (fun i => !zeroE (rawR l i))).imp_of_mem ?_
  intro a b ha hb hab
  have ha := List.mem_filter.1 ha
  have hb := List.mem_filter.1 hb
  have z1 : zeroE (rawR l a) = false := by simpa using ha.2
  have z2 : zeroE (rawR l b) = false := by simpa using hb.2
  have a8 := List.mem_range.1 ha.1
  have b8 := List.mem_range.1 hb.1
  have g : ∀ i, i < 8 → zeroE (rawR l i) = false → gotName ((rawR l i).take 8) = true := fun i hi hz => by
    have := h.s.root i hi hz
    unfold badR at this
    simp only [Bool.or_eq_false_iff] at this
    simpa using this.1.1.1
  unfold rootP
  rw [if_pos (g a a8 z1), if_pos (g b b8 z2)]
  exact fun e => h.s.name b b8 a hab z2 z1 e.symm
end Go.Proofs.YtbnobjlphmkgeaaGreatDoor
/- HeapPlays: what the law has at hand; heap.Load of an image that is not right. -/
namespace Go.Proofs.YtbnobjlphmkgeaaGreatDoor
open Go.RowKit Go.Maps Go.ChangeMaps

theorem hload_err (A : Option Addr) (n c : Nat) (l : Bytes) (w : World) (hn : l.length = n) (hnc : n ≤ c) (hrd : Rd w A l) (he : fineE l ≠ 0) :
    Calls Tryz.prog 9 #[.slice A n c] w fun e w' => e = .returned (.tuple #[.pointer none, .iface 111 (.int .i64 (fineE l : Int))]) ∧ Below w.heap.size w w' := by
  have HF : Hidden (Calls Tryz.prog 56 #[.slice A n c] w fun e w' => e = .returned (.iface 111 (.int .i64 (fineE l : Int))) ∧ Below w.heap.size w w') := ⟨by
    cases hr : rightB n with
    | false =>
      have : fineE l = 3 := by unfold fineE; rw [hn, if_pos hr]
      rw [this]
      exact (fine_no A n c w hr).mono fun e w' ⟨h1, h2⟩ => ⟨h1, by subst h2; exact Below.refl _ _⟩
    | true =>
      have h6 : checkL l ≠ [] := fun h => he (by unfold fineE; rw [hn, hr, if_neg (by decide), if_pos h])
      have : fineE l = 6 := by unfold fineE; rw [hn, hr, if_neg (by decide), if_neg h6]
      rw [this]
      exact fine_f A n c l w hn hr hnc hrd h6⟩
  generalize fineE l = fe at *
  clear hn hnc hrd he
  go_enter Tryz.func9, Tryz.ntmps9
  go_wp2_with fail
  refine HF.out.mono ?_
  rintro e w1 ⟨rfl, hb1⟩
  have HB1 := Hidden.mk hb1
  clear hb1 HF
  go_wp2_with fail
  go_ret2
  exact ⟨rfl, HB1.out⟩
theorem good_fine {l : Bytes} (h : fineE l = 0) : Good l := by
  unfold fineE at h
  cases hr : rightB l.length with
  | false => rw [hr] at h; cases h
  | true =>
    rw [hr, if_neg (by decide)] at h
    by_cases hc : checkL l = []
    · exact ⟨hr, hc⟩
    · rw [if_neg hc] at h; cases h
section
variable {w0 w w5 w6 wx : World} {F F2 : Nat → Prop} {h gb ob NL E g5 o5 c5 : Nat} {l l2 : Bytes} {nv : Value}
end
end Go.Proofs.YtbnobjlphmkgeaaGreatDoor
/- Package store: Open where what the pages have is no heap that is right. -/
namespace Go.Proofs.YtbnobjlphmkgeaaGreatDoor
open Go.RowKit Go.Maps Go.ChangeMaps

section
variable {w0 w w' : World} {F F' GH GH' G : Nat → Prop} {s p d h gk ck st n : Nat} {D : Dv} {l l' K : Bytes}
set_option maxRecDepth 100000 in
theorem sof_bad (hd : DevB w0 w F d D) (hp : PgH w F p d st n) (hn : n = nP D) (hdn : D.down = false) (hl : ∀ i, i < n → (readD D (48 + i)).length = 32) (N : Bytes) (hN : allB D n = N) (he : fineE N ≠ 0) (hn1 : 1 ≤ n) :
    Calls Tryz.prog 103 #[.pointer (some ⟨p, 0, none⟩)] w fun e w' => e = .returned (.tuple #[.pointer none, .iface 111 (.int .i64 6)]) ∧ Below w.heap.size w w' := by
  have hlen : (allB D n).length = 32 * n := allB_len n hl
  rw [hN] at hlen
  have HV := Hidden.mk (vall_ok hd (by rw [← hn]; exact hp) hdn (by rw [← hn]; exact hl) n hn)
  rw [hN] at HV
  have HP := Hidden.mk (And.intro hp (And.intro hd (And.intro hlen he)))
  have hn9 : 0 < 32 * n := by omega
  clear hd hp hn hdn hl hN he hlen
  go_enter Tryz.func103, Tryz.ntmps103
  go_wp2_with fail
  refine HV.out.mono ?_
  rintro e w1 ⟨v, rfl, hown, hb1⟩
  obtain ⟨g, cap, rfl, hbg, hrow⟩ := row_of_owns hown HP.out.2.2.1 hn9
  have HLD := Hidden.mk (hload_err (some ⟨g, 0, none⟩) (32 * n) cap N w1 HP.out.2.2.1 (by rw [← HP.out.2.2.1]; exact hrow.le.1) hrow.rd HP.out.2.2.2)
  have HB1 := Hidden.mk hb1
  clear hown hbg hrow hb1 HV
  go_wp2_with fail
  refine HLD.out.mono ?_
  rintro e w2 ⟨rfl, hb2⟩
  have HB2 := Hidden.mk (HB1.out.trans (hb2.mono HB1.out.size))
  clear hb2 HLD
  go_wp2_with fail
  go_ret2
  exact ⟨rfl, HB2.out⟩
theorem sopen_f (hd : DevB w0 w F d D) (h0 : (openP D).2 = 0) (hst : (openMk D).1 = st) (hn : n = nP D) (hn2 : n = nP (openP D).1) (hdn : (openP D).1.down = false) (hl : ∀ i, i < n → (readD (openP D).1 (48 + i)).length = 32) (N : Bytes) (hN : allB (openP D).1 n = N) (he : fineE N ≠ 0) (hn1 : 1 ≤ n) :
    Calls Tryz.prog 43 #[.pointer (some ⟨d, 0, none⟩)] w fun e w' => e = .returned (.tuple #[.pointer none, .iface 111 (.int .i64 6)]) ∧ ∃ F', PdM w0 w w' F F' d (openP D).1 := by
  have HO := Hidden.mk (popen_any hd)
  have HNP := Hidden.mk hn
  have HQ := Hidden.mk (And.intro h0 (And.intro hn2 (And.intro hdn (And.intro hl (And.intro hN (And.intro he hn1))))))
  rw [hst] at HO
  generalize openP D = r at *
  clear hd h0 hn hn2 hdn hl hN he hn1 hst
  go_enter Tryz.func43, Tryz.ntmps43
  go_wp2_with fail
  refine HO.out.mono ?_
  rintro e w1 hop
  obtain ⟨v, F', rfl, hm, hpp⟩ := hop.uni
  obtain ⟨q1, q3, q4, q5, q6, q7, q8⟩ := HQ.out
  obtain ⟨p, rfl, hp, -⟩ := hpp q1
  have HOF := Hidden.mk (sof_bad hm.dev (by rw [← HNP.out] at hp; exact hp) q3 q4 q5 N q6 q7 q8)
  have HM := Hidden.mk hm
  rw [q1, errV0]
  clear hm hop hpp hp q1 q3 q4 q5 q6 q7 q8 HO
  go_wp2_with fail
  refine HOF.out.mono ?_
  rintro e w2 ⟨rfl, hb⟩
  have HF := Hidden.mk (HM.out.below hb)
  clear hb HOF
  go_wp2_with fail
  go_ret2
  exact ⟨rfl, F', HF.out⟩
end
end Go.Proofs.YtbnobjlphmkgeaaGreatDoor
/- TopPages: the plain law: what is written page by page. No program in sight. -/
namespace Go.Proofs.YtbnobjlphmkgeaaGreatDoor
open Go.RowKit Go.Maps Go.ChangeMaps

/-- page by page, as the law lays them -/
def pgW (N : Bytes) (m : List (Int × Bytes)) : Bytes := m.foldl (fun b x => splice b (32 * x.1.toNat) x.2) N
theorem pgW_snoc (N : Bytes) (m : List (Int × Bytes)) (x : Int × Bytes) : pgW N (m ++ [x]) = splice (pgW N m) (32 * x.1.toNat) x.2 := by simp [pgW]
theorem pgB_splice {N b : Bytes} {n k j : Nat} (hN : N.length = 32 * n) (hk : k < n) (hb : b.length = 32) : pgB (splice N (32 * k) b) j = if j = k then b else pgB N j := by
  by_cases e : j = k
  · subst e
    rw [if_pos rfl]
    refine List.ext_getElem? fun i => ?_
    by_cases hi : i < 32
    · rw [pgB_at hi, splice_rd _ _ _ _ (by omega), if_pos (by omega)]
      congr 1; omega
    · rw [List.getElem?_eq_none (by unfold pgB; rw [List.length_take]; omega), List.getElem?_eq_none (by omega)]
  · rw [if_neg e]
    refine pgB_ext fun i hi => ?_
    rw [splice_rd _ _ _ _ (by omega), if_neg (by omega)]
theorem pgW_len {n : Nat} : ∀ (m : List (Int × Bytes)) (N : Bytes), N.length = 32 * n → (∀ x ∈ m, 0 ≤ x.1 ∧ x.1 < n ∧ x.2.length = 32) → (pgW N m).length = 32 * n
  | [], N, h, _ => h
  | x :: r, N, h, hm => by
    obtain ⟨a, b, c⟩ := hm x (by simp)
    show (pgW (splice N (32 * x.1.toNat) x.2) r).length = _
    exact pgW_len r _ ((length_splice _ _ _ (by omega)).trans h) (fun y hy => hm y (by simp [hy]))
theorem pgW_page {n : Nat} : ∀ (m : List (Int × Bytes)) (N : Bytes), N.length = 32 * n → (∀ x ∈ m, 0 ≤ x.1 ∧ x.1 < n ∧ x.2.length = 32) → ∀ k, k < n → pgB (pgW N m) k = m.foldl (fun d x => if x.1 = (k : Int) then x.2 else d) (pgB N k)
  | [], N, _, _, k, _ => rfl
  | x :: r, N, h, hm, k, hk => by
    obtain ⟨a, b, c⟩ := hm x (by simp)
    show pgB (pgW (splice N (32 * x.1.toNat) x.2) r) k = _
    rw [pgW_page r _ ((length_splice _ _ _ (by omega)).trans h) (fun y hy => hm y (by simp [hy])) k hk, pgB_splice h (by omega) c, List.foldl_cons]
    congr 1
    by_cases e : k = x.1.toNat
    · rw [if_pos e, if_pos (by omega)]
    · rw [if_neg e, if_neg (by omega)]
/-- what is committed is what is laid -/
theorem pgW_all {nn n st st' : Nat} {D D' : Dv} {pg : Nat → Bytes} {m : List (Int × Bytes)} (h : SfP nn n D st pg) (h' : SfP nn n D' st' (updPg pg m)) (hm : ChkOk n m) : pgW (allB D n) m = allB D' n := by
  have hl : ∀ i, i < n → (readD D (48 + i)).length = 32 := fun i hi => by rw [(h.page i hi).1]; exact (h.page i hi).2
  have hl' : ∀ i, i < n → (readD D' (48 + i)).length = 32 := fun i hi => by rw [(h'.page i hi).1]; exact (h'.page i hi).2
  have hN := allB_len n hl
  refine eq_of_pages (n := n) (pgW_len m _ hN hm.each) (allB_len n hl') fun k hk => ?_
  rw [pgW_page m _ hN hm.each k hk, allB_page n k hl hk, allB_page n k hl' hk, (h.page k hk).1, (h'.page k hk).1]
  rfl
end Go.Proofs.YtbnobjlphmkgeaaGreatDoor
/- TopPages: the walk. -/
namespace Go.Proofs.YtbnobjlphmkgeaaGreatDoor
open Go.RowKit Go.Maps Go.ChangeMaps

theorem pages_at {w : World} {A : Option Addr} {L : List PgX} (h : RdX pcells 2 w A L) (k : Nat) (hk : k < L.length) : ∃ pb off, A = some ⟨pb, off, none⟩ ∧ w.cell? ⟨pb, off + k * 2, none⟩ = some (.int .i64 L[k].num) ∧ w.cell? ⟨pb, off + k * 2 + 1, none⟩ = some (.slice L[k].A L[k].body.length L[k].cap) := by
  obtain ⟨b, off, hA, hc⟩ := h k hk
  exact ⟨b, off, hA, hc 0 _ rfl, hc 1 _ rfl⟩
theorem pgs_get (L : List PgX) (k : Nat) (hk : k < L.length) (hk' : k < (pgs L).length) : (pgs L)[k] = (L[k].num, L[k].body) := by simp [pgs]
theorem fine_check {l : Bytes} (hr : rightB l.length = true) : fineE l = 0 ↔ checkL l = [] := by
  unfold fineE
  rw [hr, if_neg (by decide)]
  by_cases h : checkL l = []
  · rw [if_pos h]; simp [h]
  · rw [if_neg h]; simp [h]
/-- the law's row of bytes -/
structure TpB (w : World) (F : Nat → Prop) (v : Value) (N : Bytes) : Prop where
  ex : ∃ g c, v = .slice (some ⟨g, 0, none⟩) 384 c ∧ Row w 5 g c N ∧ ¬ F g
  len : N.length = 384
theorem TpB.below {w w' : World} {F : Nat → Prop} {v : Value} {N : Bytes} (h : TpB w F v N) (hb : Below w.heap.size w w') : TpB w' F v N := by
  obtain ⟨⟨g, c, e, hr, hf⟩, hl⟩ := h
  exact ⟨⟨g, c, e, hr.below hb hr.lt, hf⟩, hl⟩
set_option maxRecDepth 100000 in
set_option maxHeartbeats 8000000 in
theorem topPages_walk (OA : Option Addr) (oc : Nat) (L : List OpX) (PA : Option Addr) (pc : Nat) (P : List PgX) (w : World) (hg : HasType w) (hL : RdX ocells 6 w OA L) (hLo : ∀ x ∈ L, OpOk w x) (hpc : P.length ≤ pc) (hpm : pc ≤ 140737488351232) (hP : RdX pcells 2 w PA P) (hPo : ∀ x ∈ P, PgOk w x) :
    Calls Tryz.prog 4 #[.slice OA L.length oc, .slice PA P.length pc] w fun e w' => e = .returned (.bool true) ∧ Below w.heap.size w w' := by
  obtain ⟨m, hm⟩ : ∃ m, L.length = m := ⟨_, rfl⟩
  obtain ⟨mp, hmp⟩ : ∃ m, P.length = m := ⟨_, rfl⟩
  have HL := Hidden.mk (And.intro hL (And.intro hLo (And.intro hm hg)))
  rw [hmp] at hpc
  have HPP := Hidden.mk (And.intro hP (And.intro hPo (And.intro hmp hpc)))
  have hmp2 : mp ≤ 140737488351232 := by omega
  rw [hm, hmp]
  clear hL hLo hm hg hP hPo hmp hpc hpm
  obtain ⟨ib, hi0, hz0, hz1, hz2⟩ := info_parts byte_info
  go_enter Tryz.func4, Tryz.ntmps4
  go_wp2_with fail
  refine (one_ok w).mono ?_
  rintro e w1 ⟨rfl, hb1⟩
  have HB1 := Hidden.mk hb1
  clear hb1
  have HDN := Hidden.mk (dnewB 60 w1 (by decide) (by decide))
  have HOK := Hidden.mk (beg0_ok 60 (by decide) (by decide) 12 np60')
  go_wp2_with fail
  refine HDN.out.mono ?_
  rintro e w2 ⟨d, F0, rfl, hd⟩
  have HC := Hidden.mk (screate_ok 60 12 hd (by decide) (by decide) np60')
  clear hd HDN
  go_wp2_with fail
  refine HC.out.mono ?_
  rintro e w3 ⟨s, p, h, gk, ck, F1, GH1, rfl, hmk⟩
  have HP3 : Hidden (PlSt w1 w3 F1 GH1 s p d h 60 12 (beg0 60 12) ∧ (beg0 60 12).st ≤ 2 + 0) := ⟨⟨hmk.dev, ⟨gk, ck, hmk.st⟩, HOK.out⟩, Nat.le_refl _⟩
  clear hmk HC HOK
  go_wp2_with fail
  go_loopg [9] 20 (fun r iv wr => ∃ (k : Nat) (F GH : Nat → Prop) (S : Sto), k ≤ 20 ∧ r = 20 - k ∧ iv = .int .i64 (k : Int) ∧ Hidden (PlSt w1 wr F GH s p d h 60 12 S ∧ S.st ≤ 2 + k))
  case atStart => exact ⟨0, F1, GH1, _, by omega, rfl, rfl, HP3⟩
  case round =>
    obtain ⟨k, F, GH, S, hk, rfl, rfl, hst⟩ := hrel
    have HS := Hidden.mk hst.out
    clear hst HP3
    generalize wr = wB at *
    obtain ⟨cb, hcb⟩ : ∃ b, decide (k < m ∧ k < 20) = b := ⟨_, rfl⟩
    have HCB := Hidden.mk hcb
    clear hcb
    go_upto_region 11 with (fail)
    go_cut [45] (fun bv wx => bv = .bool cb ∧ wB = wx)
    case first =>
      by_cases h1 : k < m
      · have d1 : decide ((k : Int) < m) = true := by simp; omega
        have d1' : decide (k < m) = true := by simpa using h1
        by_cases h2 : k < 20
        · have d2 : decide ((k : Int) < 20) = true := by simp; omega
          have d2' : decide (k < 20) = true := by simpa using h2
          obtain rfl : cb = true := by rw [← HCB.out]; simp only [decide_eq_true_eq]; exact ⟨h1, h2⟩
          clear h1 h2 HS
          go_wp2_with fail
          go_meet
          exact ⟨rfl, rfl⟩
        · have d2 : decide ((k : Int) < 20) = false := by simp; omega
          have d2' : decide (k < 20) = false := by simpa using h2
          obtain rfl : cb = false := by rw [← HCB.out]; simp only [decide_eq_false_iff_not]; exact fun h => h2 h.2
          clear h1 h2 HS
          go_wp2_with fail
          go_meet
          exact ⟨rfl, rfl⟩
      · have d1 : decide ((k : Int) < m) = false := by simp; omega
        have d1' : decide (k < m) = false := by simpa using h1
        obtain rfl : cb = false := by rw [← HCB.out]; simp only [decide_eq_false_iff_not]; exact fun h => h1 h.1
        clear h1 HS
        go_wp2_with fail
        go_meet
        exact ⟨rfl, rfl⟩
    case rest =>
    obtain ⟨rfl, rfl⟩ := hcut
    cases cb with
    | true =>
      as_aux_lemma =>
        obtain ⟨hlt, h20⟩ := of_decide_eq_true HCB.out
        have i0 : (0 : Int) ≤ k := by omega
        have i1 : (k : Int) < m := by omega
        have s1 : IntKind.i64.wrap ((k : Int) + 1) = (k : Int) + 1 := IntWalk.i64_in _ (by omega)
        have hkl : k < L.length := by rw [HL.out.2.2.1]; exact hlt
        have hBw := HB1.out.trans (HS.out.1.dev.bel.mono HB1.out.size)
        obtain ⟨pb, off, rfl, x0, x1, x2, x3, x4, x5⟩ := ops_at (HL.out.1.below hBw) k hkl
        have HDO := Hidden.mk (HS.out.1.do_ (by have := HS.out.2; omega) L[k] ((HL.out.2.1 _ (List.getElem_mem hkl)).below HB1.out))
        have HLE : Hidden ((doS 12 S L[k]).1.st ≤ 2 + (k + 1)) := ⟨by have := (HS.out.1.ok.do (by have := HS.out.2; omega) L[k]).2; have := HS.out.2; omega⟩
        unfold opV at HDO
        generalize doS 12 S L[k] = R at *
        generalize L[k] = o at *
        obtain ⟨what, handle, at_, len, name, bA, bc, body⟩ := o
        dsimp only at *
        have HLT := Hidden.mk h20
        clear hBw hlt h20 HCB
        go_wp2_with fail
        refine HDO.out.mono ?_
        rintro e w8 ⟨rfl, F8, GH8, hm8⟩
        have HN := Hidden.mk (And.intro hm8.pl HLE.out)
        clear hm8 HDO HS x0 x1 x2 x3 x4 x5
        go_wp2_with fail
        have hltz := HLT.out
        go_roundg (20 - (k + 1))
        case measure => omega
        case rel => exact ⟨k + 1, F8, GH8, _, by omega, rfl, by go_num, HN⟩
    | false =>
      obtain ⟨D0, st, l0, K⟩ := S
      obtain ⟨gk1, ck1, hst1⟩ := HS.out.1.st
      have HAB := Hidden.mk (sabort_any hst1 (HS.out.1.ok.gk).1 HS.out.1.dev.flt)
      have HST1 := Hidden.mk hst1
      clear hst1 HCB
      go_wp2_with fail
      refine HAB.out.mono ?_
      rintro e w5 ⟨rfl, GH5, hm5, hst5⟩
      have HP5 : Hidden (PlSt w1 w5 F GH5 s p d h 60 12 ⟨D0, st, K, K⟩) := ⟨⟨HS.out.1.dev.keep hm5.kp (fun q hq hg => HST1.out.gf q hg hq) HST1.out.hp.new, ⟨gk1, ck1, hst5⟩, ⟨HS.out.1.ok.sf, HS.out.1.ok.kb, HS.out.1.ok.gk, HS.out.1.ok.gk, HS.out.1.ok.lk, HS.out.1.ok.lk, HS.out.1.ok.n1, HS.out.1.ok.n2⟩⟩⟩
      have HSTB : Hidden (st ≤ 2 + k) := ⟨HS.out.2⟩
      have HOPD := Hidden.mk HP5.out.ok.opened
      have HOP := Hidden.mk (popen_any HP5.out.dev)
      clear hm5 hst5 HAB HST1 HS
      dsimp only at HOPD HOP
      obtain ⟨r, hr⟩ : ∃ r, openP D0 = r := ⟨_, rfl⟩
      rw [hr] at HOP HOPD
      rw [HOPD.out.2.2.2.1] at HOP
      have H0 : Hidden (r.2 = 0) := ⟨HOPD.out.1⟩
      have HR := Hidden.mk hr
      clear hr
      go_wp2_with fail
      refine HOP.out.mono ?_
      rintro e w6 hop
      obtain ⟨v, F6, rfl, hm6, hpp⟩ := hop.uni
      obtain ⟨p2, rfl, hp2, hpn2⟩ := hpp H0.out
      rw [← HOPD.out.2.2.2.2.2.2.1] at hp2
      have HP6 : Hidden (PlSt w1 w6 F6 GH5 s p d h 60 12 ⟨r.1, st, K, K⟩) := ⟨HP5.out.opened hm6.dev hm6.kp hm6.sub HOPD.out.2.2.1⟩
      have HPG := Hidden.mk (And.intro hp2 hpn2)
      have HKB : Hidden (allB r.1 12 = K) := ⟨HP6.out.ok.kb.symm⟩
      have HKL : Hidden (K.length = 384) := ⟨HP6.out.ok.lk⟩
      have HN6 : Hidden (12 = nP r.1 ∧ r.1.down = false) := ⟨HOPD.out.2.2.2.2.2.2.2, HOPD.out.2.2.2.2.1⟩
      have HL6 : Hidden (∀ i, i < 12 → (readD r.1 (48 + i)).length = 32) := ⟨HOPD.out.2.2.2.2.2.1⟩
      have HZ5 : Hidden (w1.heap.size ≤ w5.heap.size) := ⟨HP5.out.dev.bel.size⟩
      rw [H0.out, errV0]
      clear hop hm6 hpp hp2 hpn2 HOP HOPD HP5
      go_wp2_with fail
      go_loopg [11, 12] 12 (fun r_ sv iv wr => ∃ i : Nat, i ≤ 12 ∧ r_ = 12 - i ∧ iv = .int .i64 (i : Int) ∧ Hidden (Below w6.heap.size w6 wr ∧ wr.ownsRow w6.heap.size 5 1 sv (32 * i) ((allB r.1 i).map bv)))
      case atStart => exact ⟨0, by omega, rfl, rfl, ⟨Below.refl _ _, World.ownsRow_nil _ _ _ _⟩⟩
      case round =>
        obtain ⟨i, hi, rfl, rfl, hs⟩ := hrel
        have HY := Hidden.mk hs.out
        clear hs
        generalize wr = wC at *
        have HPN := Hidden.mk (plen_any (HPG.out.1.below HY.out.1))
        by_cases hlt : i < 12
        · --{{
          have e1 : decide ((i : Int) < 12) = true := by simp; omega
          have e1' : decide (i < 12) = true := by simpa using hlt
          have i0 : (0 : Int) ≤ i := by omega
          have s1 : IntKind.i64.wrap ((i : Int) + 1) = (i : Int) + 1 := IntWalk.i64_in _ (by omega)
          have hlen := HL6.out i hlt
          have HRA := Hidden.mk (pread_ok (HP6.out.dev.below HY.out.1) (by rw [← HN6.out.1]; exact HPG.out.1.below HY.out.1) i (by rw [← HN6.out.1]; exact hlt) HN6.out.2)
          have HLT := Hidden.mk hlt
          clear hlt
          go_wp2_with fail
          refine HPN.out.mono ?_
          rintro e w7 ⟨rfl, rfl⟩
          go_wp2_with fail
          refine HRA.out.mono ?_
          rintro e w8 ⟨g, cap, rfl, hg8, hr8, hb8⟩
          have hsrc := Src.of_rd hr8.rd
          rw [hlen] at hsrc
          have hown := own_below HY.out.2 hb8
          have hbw := HY.out.1.trans (hb8.mono HY.out.1.size)
          have HSZ := Hidden.mk hbw.size
          go_wp2_with (at_builtin; (refine wpList_append_src _ rfl (.tmp 77) (.tmp 78) _ rfl w6.heap.size 5 ib _ 1 1 Tryz.underlying22 hi0 hz0 hz1 hz2 rfl (by decide) _ (32 * i) _ rfl hown _ 32 cap _ rfl hsrc (by simp [Value.oneCell']) (by simp only [maxLen]; omega) (by omega) HSZ.out ?_); intro v1 w9 hown1 hg1 hnn)
          have hB := hbw.grown hg1 hbw.size (fun q hq => (hown.lt q hq).1)
          have hown2 : w9.ownsRow w6.heap.size 5 1 v1 (32 * (i + 1)) ((allB r.1 (i + 1)).map bv) := by
            rw [allB_succ, List.map_append, Nat.mul_add]
            exact hown1
          have HO := Hidden.mk (And.intro hB hown2)
          clear hown1 hown2 hB hg1 hnn hown hbw hsrc hg8 hr8 hb8 HY HPN HRA
          go_wp2_with fail
          have hltz := HLT.out
          go_roundg (12 - (i + 1))
          case measure => omega
          case rel => exact ⟨i + 1, by omega, rfl, by go_num, HO⟩
          --}}
        obtain rfl : i = 12 := by omega
        have t4 : decide ((12 : Int) < 12) = false := by decide
        have hown := HY.out.2
        rw [HKB.out, show 32 * 12 = 384 from rfl] at hown
        obtain ⟨gb, cb, rfl, hbg, hrow⟩ := row_of_owns hown HKL.out (by decide)
        have HRB := Hidden.mk (And.intro hbg hrow)
        have HBC := Hidden.mk HY.out.1
        have HP7 := Hidden.mk (HP6.out.below HY.out.1)
        obtain ⟨gk7, ck7, hss⟩ := HP7.out.st
        have HSS := Hidden.mk hss
        have eK : (K != K) = false := bne_self_eq_false K
        have eK' : (K == K) = true := beq_self_eq_true K
        clear hown hbg hrow hss HY hlt
        go_wp2_with fail
        refine HPN.out.mono ?_
        rintro e w7 ⟨rfl, rfl⟩
        go_upto_region 26 with (fail)
        have hB0 : Below wC.heap.size wC wC.drew := (Below.refl _ _).drew
        refine wp_region_held_drew (S := fun W => Rd W (some ⟨gb, 0, none⟩) K) (by kernel_rfl) (HRB.out.2.rd.below hB0) (fun hHeld => ?_)
        refine wpAnyH_take (i := 0) (oi := { dst := some 80, op := Op.move (Operand.tmp 11), type := 22, pos := "top.go:205", after := #[], guard := none }) (v := ?_) rfl (by kernel_rfl) (by kernel_rfl) (by kernel_rfl) (fun _ _ _ h => h) (Or.inl ⟨by rfl, ?_⟩) hHeld ?_
        rotate_left
        · intro w_ hSw
          go_simp
          try with_reducible rfl
        try simp only [Act.put, List.setIfInBounds_toArray, List.set_cons_zero, List.set_cons_succ]
        refine wpAnyH_take (i := 1) (oi := { dst := some 81, op := Op.convert 22 9 (Operand.tmp 80), type := 9, pos := "top.go:205", after := #[{ on := 0, ground := Ground.data }], guard := none }) (v := ?_) rfl (by kernel_rfl) (by kernel_rfl) (by kernel_rfl) (fun _ _ _ h => h) (Or.inl ⟨by rfl, ?_⟩) hHeld ?_
        rotate_left
        · intro w_ hSw
          have hcv_ := conv_text w_ (some ⟨gb, 0, none⟩) 384 cb K HKL.out hSw
          go_simp
          try with_reducible rfl
        try simp only [Act.put, List.setIfInBounds_toArray, List.set_cons_zero, List.set_cons_succ]
        refine wpAnyH_take (i := 2) (oi := { dst := some 82, op := Op.move (Operand.tmp 8), type := 77, pos := "top.go:205", after := #[], guard := none }) (v := ?_) rfl (by kernel_rfl) (by kernel_rfl) (by kernel_rfl) (fun _ _ _ h => h) (Or.inl ⟨by rfl, ?_⟩) hHeld ?_
        rotate_left
        · intro w_ hSw
          go_simp
          try with_reducible rfl
        try simp only [Act.put, List.setIfInBounds_toArray, List.set_cons_zero, List.set_cons_succ]
        refine wpAnyH_ready (rs := [3]) (by kernel_rfl) (by simp) ?_
        refine AllReadyH.cons (o := { dst := some 83, op := Op.call { callee := Callee.value (Operand.func 41), args := #[Operand.tmp 82], argTypes := #[77] }, type := 26, pos := "top.go:205", after := #[{ on := 2, ground := Ground.data }], guard := none }) rfl (fun K hK => ?_) (AllReadyH.nil)
        rw [if_pos (by rfl)]
        go_simp
        go_at_call 41
        refine (stheap_any (HSS.out.below hB0)).mono ?_
        rintro e w_9 ⟨rfl, rfl⟩
        dsimp only
        refine hK.out _ _ (hHeld) (fun hHeld => ?_)
        clear hK K
        try simp only [Act.put, List.setIfInBounds_toArray, List.set_cons_zero, List.set_cons_succ]
        refine wpAnyH_ready (rs := [4]) (by kernel_rfl) (by simp) ?_
        refine AllReadyH.cons (o := { dst := some 84, op := Op.call { callee := Callee.value (Operand.func 32), args := #[Operand.tmp 83], argTypes := #[26] }, type := 22, pos := "top.go:205", after := #[{ on := 3, ground := Ground.data }, { on := 3, ground := Ground.chain }], guard := none }) rfl (fun K hK => ?_) (AllReadyH.nil)
        rw [if_pos (by rfl)]
        go_simp
        go_at_call 32
        refine (hbytes_ok _ _ _ _ _ (HSS.out.below hB0).hp).mono ?_
        rintro e w8 ⟨g8, c8, rfl, -, hr_g8, hb_g8⟩
        dsimp only
        refine hK.out _ _ (hHeld.below hb_g8) (fun hHeld => ?_)
        clear hK K
        try simp only [Act.put, List.setIfInBounds_toArray, List.set_cons_zero, List.set_cons_succ]
        refine wpAnyH_strong (S' := fun W => Row W 5 g8 c8 K ∧ Rd W (some ⟨gb, 0, none⟩) K) (fun _ h => h.2) _ _ _ _ ?_
        replace hHeld := And.intro hr_g8 hHeld
        refine wpAnyH_take (i := 5) (oi := { dst := some 85, op := Op.convert 22 9 (Operand.tmp 84), type := 9, pos := "top.go:205", after := #[{ on := 4, ground := Ground.data }], guard := none }) (v := ?_) rfl (by kernel_rfl) (by kernel_rfl) (by kernel_rfl) (fun _ _ _ h => h) (Or.inl ⟨by rfl, ?_⟩) hHeld ?_
        rotate_left
        · intro w_ hSw
          have hcv_ := conv_text w_ (some ⟨g8, 0, none⟩) K.length c8 K rfl hSw.1.rd
          go_simp
          try with_reducible rfl
        try simp only [Act.put, List.setIfInBounds_toArray, List.set_cons_zero, List.set_cons_succ]
        refine wpAnyH_take (i := 6) (oi := { dst := some 86, op := Op.binOp BinOp.neq 9 (Operand.tmp 81) (Operand.tmp 85) 9, type := 4, pos := "top.go:205", after := #[{ on := 1, ground := Ground.data }, { on := 5, ground := Ground.data }], guard := none }) (v := ?_) rfl (by kernel_rfl) (by kernel_rfl) (by kernel_rfl) (fun _ _ _ h => h) (Or.inl ⟨by rfl, ?_⟩) hHeld ?_
        rotate_left
        · intro w_ hSw
          go_simp
          try with_reducible rfl
        try simp only [Act.put, List.setIfInBounds_toArray, List.set_cons_zero, List.set_cons_succ]
        refine wpAnyH_done (by kernel_rfl) ?_ _
        clear hHeld
        have HB8 : Hidden (Below wC.heap.size wC w8) := ⟨hB0.trans hb_g8⟩
        have HD8 := Hidden.mk (HP7.out.dev.below HB8.out)
        have HG8 := Hidden.mk ((HPG.out.1.below HBC.out).below HB8.out)
        have HR8 : Hidden (Row w8 5 gb cb K ∧ ¬ F6 gb ∧ gb ≠ p2 ∧ gb < w8.heap.size) := ⟨HRB.out.2.below HB8.out HRB.out.2.lt, fun hf => by have := HP6.out.dev.flt _ hf; have := HRB.out.1; omega, fun e => by have := HPG.out.1.lt; have := HRB.out.1; omega, Nat.lt_of_lt_of_le HRB.out.2.lt HB8.out.size⟩
        have HPC := Hidden.mk (pcommit_any HD8.out HG8.out (by decide) (by have := HSTB.out; omega) (by have := HPG.out.2; have := HZ5.out; omega) PA mp pc P HPP.out.2.2.1 HPP.out.2.2.2 (pgsR_of HPP.out.1 HPP.out.2.1 (fun q hq => Nat.le_trans HB1.out.size (HD8.out.new q hq)) (HB1.out.trans (HD8.out.bel.mono HB1.out.size))))
        obtain ⟨pg, hsf⟩ := HP7.out.ok.sf
        have HSF := Hidden.mk (hsf.commit2 (pgs P))
        have HSF0 := Hidden.mk hsf
        dsimp only at HSF HSF0
        obtain ⟨rc, hrc⟩ : ∃ x, commitP st 12 (pgs P) r.1 = x := ⟨_, rfl⟩
        rw [hrc] at HPC HSF
        obtain ⟨st2, hst2⟩ : ∃ x, (if rc.2 = 0 ∧ P.length ≠ 0 then st + 1 else st) = x := ⟨_, rfl⟩
        have HS2 := Hidden.mk hst2
        rw [show (pgs P).length = P.length by simp [pgs], hst2] at HSF
        clear hrc hst2 hsf hr_g8 hb_g8 hB0
        go_wp2_with fail
        refine HPC.out.mono ?_
        rintro e w9 ⟨rfl, F9, hm9⟩
        rw [HS2.out] at hm9
        by_cases hk0 : rc.2 = 0
        rotate_left
        · --{{
          rw [errV_pos hk0]
          have HBE := Hidden.mk (HB1.out.trans (hm9.dev.bel.mono HB1.out.size))
          clear hm9 HPC
          go_wp2_with fail
          go_ret
          exact ⟨rfl, HBE.out⟩
          --}}
        rw [hk0, errV0]
        have HV9 := Hidden.mk hm9.dev
        have HSG := HSF.out.1
        rw [if_pos hk0] at HSG
        have HSG2 := Hidden.mk (And.intro HSG (HSF.out.2 hk0))
        have HWB : Hidden (pgW K (pgs P) = allB rc.1 12) := ⟨by
          rw [← HKB.out]
          exact pgW_all HSF0.out HSG2.out.1 HSG2.out.2⟩
        have HT9 : Hidden (TpB w9 F9 (.slice (some ⟨gb, 0, none⟩) 384 cb) (pgW K ((pgs P).take 0))) := ⟨⟨⟨gb, cb, rfl, hm9.kp.row HR8.out.1 (fun hf => by
          rcases hf with hf | hf
          · exact HR8.out.2.1 hf
          · exact HR8.out.2.2.1 hf), fun hf => by
          rcases hm9.sub _ hf with h' | h'
          · exact HR8.out.2.1 h'
          · have := HR8.out.2.2.2; omega⟩, HKL.out⟩⟩
        clear hm9 HPC HSF HSG hk0 HR8 HD8 HG8 HP7 HSS HRB HBC
        go_wp2_with fail
        go_loopg [11, 15] mp (fun r_ bv_ iv wr => ∃ i : Nat, i ≤ mp ∧ r_ = mp - i ∧ iv = .int .i64 (i : Int) ∧ Hidden (Below w9.heap.size w9 wr ∧ TpB wr F9 bv_ (pgW K ((pgs P).take i))))
        case atStart => exact ⟨0, by omega, rfl, rfl, ⟨Below.refl _ _, HT9.out⟩⟩
        case round =>
          obtain ⟨i, hi, rfl, rfl, hs⟩ := hrel
          have HY := Hidden.mk hs.out
          clear hs HT9
          generalize wr = wE at *
          obtain ⟨⟨gb2, cb2, rfl, hrow2, hnf2⟩, hNl⟩ := id HY.out.2
          have HRW := Hidden.mk (And.intro hrow2 hnf2)
          have hcb2 : 384 ≤ cb2 := by have := hrow2.le.1; omega
          clear hrow2 hnf2
          by_cases hlt : i < mp
          · --{{
            have e1 : decide ((i : Int) < mp) = true := by simp; omega
            have e1' : decide (i < mp) = true := by simpa using hlt
            have i0 : (0 : Int) ≤ i := by omega
            have i1 : (i : Int) < mp := by omega
            have s1 : IntKind.i64.wrap ((i : Int) + 1) = (i : Int) + 1 := IntWalk.i64_in _ (by omega)
            have hkl : i < P.length := by rw [HPP.out.2.2.1]; exact hlt
            have hBw := HB1.out.trans ((HV9.out.bel.trans (HY.out.1.mono HV9.out.bel.size)).mono HB1.out.size)
            obtain ⟨pb, off, rfl, x0, x1⟩ := pages_at (HPP.out.1.below hBw) i hkl
            have hok := HPP.out.2.1 P[i] (List.getElem_mem hkl)
            have hpl : i < (pgs P).length := by simpa [pgs] using hkl
            have hch := HSG2.out.2.each _ (List.getElem_mem hpl)
            have hsn : pgW K ((pgs P).take (i + 1)) = splice (pgW K ((pgs P).take i)) (32 * P[i].num.toNat) P[i].body := by
              rw [List.take_succ_eq_append_getElem hpl, pgW_snoc, pgs_get P i hkl hpl]
            rw [pgs_get P i hkl hpl] at hch
            have HOK2 := Hidden.mk (hok.rd.below hBw)
            generalize P[i] = pgx at *
            obtain ⟨num, bA, bc, body⟩ := pgx
            dsimp only at x0 x1 hch hsn HOK2
            obtain ⟨q0, q1, q2⟩ := hch
            obtain ⟨u, rfl⟩ : ∃ u : Nat, num = u := ⟨num.toNat, by omega⟩
            rw [Int.toNat_natCast] at hsn
            have hu : u < 12 := by omega
            rw [q2] at x1
            have HSN := Hidden.mk hsn
            generalize pgW K ((pgs P).take i) = N at *
            have s2 : IntKind.i64.wrap (32 * (u : Int)) = ((32 * u : Nat) : Int) := by rw [IntWalk.i64_in _ (by omega)]; omega
            obtain ⟨k0, hk0⟩ : ∃ q, 32 * u = q := ⟨_, rfl⟩
            obtain ⟨k2, hk2⟩ : ∃ q, k0 + 32 = q := ⟨_, rfl⟩
            have s3 : IntKind.i64.wrap ((k0 : Int) + 32) = (k2 : Int) := by rw [IntWalk.i64_in _ (by omega)]; omega
            rw [hk0] at s2 HSN
            have hk1 : k2 ≤ 384 := by omega
            have hk3 : k0 + 32 ≤ 384 := by omega
            have HK2 := Hidden.mk hk2
            have hc1 := run_headA (some ⟨gb2, 0, none⟩) 384 cb2 k0 (by omega)
            have hc2 := run_tailA (some ⟨gb2, 0, none⟩) 384 cb2 k2 (by omega)
            obtain ⟨A8, hA8⟩ : ∃ A8, (if cb2 = k2 then (some ⟨gb2, 0, none⟩ : Option Addr) else (some (⟨gb2, 0, none⟩ : Addr)).map (·.add k2)) = A8 := ⟨_, rfl⟩
            rw [hA8] at hc2
            have hr1 : Rd wE (some ⟨gb2, 0, none⟩) (N.take k0) := HRW.out.1.rd.take k0 (by omega)
            have hr3 : Rd wE A8 (N.drop k2) := by
              rw [← hA8]; exact HRW.out.1.rd.tail k2 cb2 (by omega) (by omega)
            have n1 : (N.take k0).length = k0 := by rw [List.length_take]; omega
            have n3 : (N.drop k2).length = 384 - k2 := by rw [List.length_drop]; omega
            have hsrc1 := Src.of_rd hr1
            rw [n1] at hsrc1
            have HR3 := Hidden.mk (And.intro hr3 n3)
            have HQ2 := Hidden.mk q2
            clear hk0 hk2 hA8 hr1 hr3 n1 n3 q0 q1 hu hok hpl hkl hBw hlt hsn q2
            go_wp2_with (first
              | (at_builtin; (refine wpList_append_src _ rfl (.tmp 103) (.tmp 106) _ rfl wE.heap.size 5 ib _ 1 1 Tryz.underlying22 hi0 hz0 hz1 hz2 rfl (by decide) (.slice none 0 0) 0 [] rfl (World.ownsRow_nil _ _ _ _) _ k0 cb2 _ rfl hsrc1 one_bv (by simp only [maxLen]; omega) (by omega) (Nat.le_refl _) ?_); intro v1 wa hown1 hg1 hnn1; (have hba : Below wE.heap.size wE wa := (Below.refl _ _).grown hg1 (Nat.le_refl _) (fun q hq => by simp [Value.ownBlock] at hq)); (rw [Nat.zero_add, List.nil_append] at hown1); (have hsrc2 := Src.of_rd (HOK2.out.below hba)); (rw [HQ2.out] at hsrc2); (have x1' := (hba.cell (p := ⟨pb, off + i * 2 + 1, none⟩) (block_lt_of_cell x1)).trans x1); (have HBA := Hidden.mk hba))
              | (at_builtin; (refine wpList_append_src _ rfl (.tmp 108) (.tmp 113) _ rfl wE.heap.size 5 ib _ 1 1 Tryz.underlying22 hi0 hz0 hz1 hz2 rfl (by decide) v1 k0 _ rfl hown1 _ 32 bc _ rfl hsrc2 one_bv (by simp only [maxLen]; omega) (by omega) HBA.out.size ?_); intro v2 wb hown2 hg2 hnn2; (have hbb : Below wE.heap.size wE wb := HBA.out.grown hg2 HBA.out.size (fun q hq => (hown1.lt q hq).1)); (have hsrc3 := Src.of_rd (HR3.out.1.below hbb)); (rw [HR3.out.2] at hsrc3); (have HBB := Hidden.mk hbb))
              | (at_builtin; (refine wpList_append_src _ rfl (.tmp 115) (.tmp 119) _ rfl wE.heap.size 5 ib _ 1 1 Tryz.underlying22 hi0 hz0 hz1 hz2 rfl (by decide) v2 k2 _ rfl (by rw [← HK2.out]; exact hown2) _ (384 - k2) (cb2 - k2) _ rfl hsrc3 one_bv (by simp only [maxLen]; omega) (by omega) HBB.out.size ?_); intro v3 wc hown3 hg3 hnn3))
            have HN3 : Hidden (Below w9.heap.size w9 wc ∧ TpB wc F9 v3 (pgW K ((pgs P).take (i + 1)))) := ⟨by
              have hbc : Below wE.heap.size wE wc := HBB.out.grown hg3 HBB.out.size (fun q hq => (hown2.lt q hq).1)
              have hcat : (N.take k0).map bv ++ body.map bv ++ (N.drop k2).map bv = (splice N k0 body).map bv := by
                unfold splice
                rw [List.map_append, List.map_append, HQ2.out, HK2.out, List.append_assoc]
              have hl3 : (splice N k0 body).length = 384 := by rw [length_splice _ _ _ (by rw [HQ2.out, hNl]; have := HK2.out; omega)]; exact hNl
              rw [hcat, show k2 + (384 - k2) = 384 by omega] at hown3
              obtain ⟨g3, c3, rfl, hb3, hr3⟩ := row_of_owns hown3 hl3 (by decide)
              rw [HSN.out]
              exact ⟨HY.out.1.trans (hbc.mono HY.out.1.size), ⟨⟨g3, c3, rfl, hr3, fun hf => by have := HV9.out.flt _ hf; have := HY.out.1.size; omega⟩, hl3⟩⟩⟩
            clear hown3 hg3 hnn3 hown2 hbb hsrc3 hba x0 x1 x1' HRW HR3 HOK2 HY hc1 hc2
            go_roundg (mp - (i + 1))
            case measure => omega
            case rel => exact ⟨i + 1, by omega, rfl, by go_num, HN3⟩
            --}}
          obtain rfl : i = mp := by omega
          have t5 : decide ((i : Int) < i) = false := by simp
          rw [List.take_of_length_le (by rw [show (pgs P).length = P.length by simp [pgs], HPP.out.2.2.1]; exact Nat.le_refl _)] at HRW hNl
          have HOV := Hidden.mk (opened_view ⟨_, HSG2.out.1⟩)
          have HNP : Hidden (12 = nP rc.1 ∧ 12 = nP (openP rc.1).1) := ⟨HSG2.out.1.n0, by obtain ⟨pg', h'⟩ := HOV.out.2.1; exact h'.n0⟩
          obtain ⟨N2, hN2⟩ : ∃ x, pgW K (pgs P) = x := ⟨_, rfl⟩
          rw [hN2] at HRW hNl HWB
          have HAL : Hidden (allB (openP rc.1).1 12 = N2) := ⟨by rw [HOV.out.2.2.2.1]; exact HWB.out.symm⟩
          have HN2 := Hidden.mk hNl
          have hr384 : rightB (384 : Int) = true := rfl
          have HFC : Hidden (fineE N2 = 0 ↔ checkL N2 = []) := ⟨fine_check (by rw [HN2.out]; rfl)⟩
          have HDE := Hidden.mk (HV9.out.below HY.out.1)
          have HCK : Hidden (∀ W, Row W 5 gb2 cb2 N2 → Calls Tryz.prog 44 #[.slice (some ⟨gb2, 0, none⟩) 384 cb2] W fun e w' => ∃ A c, e = .returned (.tuple #[.slice A (checkL N2).length c, .nilIface]) ∧ Below W.heap.size W w') := ⟨fun W hR => by
            refine (check_yes (some ⟨gb2, 0, none⟩) 384 cb2 N2 W HN2.out hr384 hcb2 hR.rd).mono ?_
            rintro e w' ⟨v, rfl, ho, hb⟩
            obtain ⟨A, c, rfl, -, -⟩ := own_split ho
            exact ⟨A, c, rfl, hb⟩⟩
          clear hN2 hNl HY hlt hi
          by_cases hf : fineE N2 = 0
          rotate_left
          · --{{
            have HO := Hidden.mk (sopen_f HDE.out HOV.out.1 HOV.out.2.2.1 HNP.out.1 HNP.out.2 HOV.out.2.2.2.2.2.1 HOV.out.2.2.2.2.2.2 N2 HAL.out hf (by decide))
            have hcl : checkL N2 ≠ [] := fun h => hf (HFC.out.2 h)
            have hcp : 0 < (checkL N2).length := List.length_pos_iff.2 hcl
            obtain ⟨cl, hcl2⟩ : ∃ x, (checkL N2).length = x := ⟨_, rfl⟩
            rw [hcl2] at HCK hcp
            have d5 : ((cl : Int) == 0) = false := by simp; omega
            clear hf hcl hcl2
            go_wp2_with fail
            refine HO.out.mono ?_
            rintro e w10 ⟨rfl, F10, hm10⟩
            have HB10 := Hidden.mk (HDE.out.bel.trans (hm10.kp.below HDE.out.bel.size HDE.out.new))
            have HC := Hidden.mk (HCK.out w10 (hm10.kp.row HRW.out.1 HRW.out.2))
            clear hm10 HO
            go_wp2_with fail
            refine HC.out.mono ?_
            rintro e w11 ⟨A11, c11, rfl, hb11⟩
            have HB11 := Hidden.mk (HB10.out.trans (hb11.mono HB10.out.size))
            have HW11 := Hidden.mk (HB1.out.trans (HB11.out.mono HB1.out.size))
            have HER := Hidden.mk (err_some 6 6 w11 (HL.out.2.2.2.below HL.out.2.2.2.lt HW11.out))
            rw [beq_self_eq_true] at HER
            clear hb11 HC
            go_wp2_with fail
            refine HER.out.mono ?_
            rintro e w12 ⟨rfl, hb12⟩
            have HW12 := Hidden.mk (HW11.out.trans (hb12.mono HW11.out.size))
            clear hb12 HER
            go_wp2_with fail
            go_ret
            exact ⟨rfl, HW12.out⟩
            --}}
          · --{{
            have HO := Hidden.mk (sopen_ok HDE.out HOV.out.1 HOV.out.2.2.1 HNP.out.1 HNP.out.2 HOV.out.2.2.2.2.2.1 HOV.out.2.2.2.2.2.2 N2 HAL.out (good_fine hf))
            have hcl : (checkL N2).length = 0 := by rw [HFC.out.1 hf]; rfl
            rw [hcl] at HCK
            clear hf hcl
            go_wp2_with fail
            refine HO.out.mono ?_
            rintro e w10 ⟨s10, p10, h10, gk10, ck10, F10, GH10, rfl, hm10⟩
            have HB10 := Hidden.mk (HDE.out.bel.trans (hm10.kp.below HDE.out.bel.size HDE.out.new))
            have HS10 := Hidden.mk (And.intro hm10.st (hm10.kp.row HRW.out.1 HRW.out.2))
            have HC := Hidden.mk (HCK.out w10 HS10.out.2)
            clear hm10 HO
            go_wp2_with fail
            refine HC.out.mono ?_
            rintro e w11 ⟨A11, c11, rfl, hb11⟩
            have HB11 := Hidden.mk (HB10.out.trans (hb11.mono HB10.out.size))
            have HSO := Hidden.mk (HS10.out.1.below hb11)
            have HR11 := Hidden.mk (HS10.out.2.below hb11 HS10.out.2.lt)
            have eK2 : (N2 == N2) = true := beq_self_eq_true N2
            clear hb11 HC HS10 HB10
            go_upto_region 45 with (fail)
            have hB0 : Below w11.heap.size w11 w11.drew := (Below.refl _ _).drew
            refine wp_region_held_drew (S := fun W => Rd W (some ⟨gb2, 0, none⟩) N2) (by kernel_rfl) (HR11.out.rd.below hB0) (fun hHeld => ?_)
            refine wpAnyH_take (i := 0) (oi := { dst := some 146, op := Op.move (Operand.tmp 18), type := 77, pos := "top.go:227", after := #[], guard := none }) (v := ?_) rfl (by kernel_rfl) (by kernel_rfl) (by kernel_rfl) (fun _ _ _ h => h) (Or.inl ⟨by rfl, ?_⟩) hHeld ?_
            rotate_left
            · intro w_ hSw
              go_simp
              try with_reducible rfl
            try simp only [Act.put, List.setIfInBounds_toArray, List.set_cons_zero, List.set_cons_succ]
            refine wpAnyH_take (i := 4) (oi := { dst := some 150, op := Op.move (Operand.tmp 11), type := 22, pos := "top.go:227", after := #[], guard := none }) (v := ?_) rfl (by kernel_rfl) (by kernel_rfl) (by kernel_rfl) (fun _ _ _ h => h) (Or.inl ⟨by rfl, ?_⟩) hHeld ?_
            rotate_left
            · intro w_ hSw
              go_simp
              try with_reducible rfl
            try simp only [Act.put, List.setIfInBounds_toArray, List.set_cons_zero, List.set_cons_succ]
            refine wpAnyH_take (i := 5) (oi := { dst := some 151, op := Op.convert 22 9 (Operand.tmp 150), type := 9, pos := "top.go:227", after := #[{ on := 4, ground := Ground.data }], guard := none }) (v := ?_) rfl (by kernel_rfl) (by kernel_rfl) (by kernel_rfl) (fun _ _ _ h => h) (Or.inl ⟨by rfl, ?_⟩) hHeld ?_
            rotate_left
            · intro w_ hSw
              have hcv_ := conv_text w_ (some ⟨gb2, 0, none⟩) 384 cb2 N2 HN2.out hSw
              go_simp
              try with_reducible rfl
            try simp only [Act.put, List.setIfInBounds_toArray, List.set_cons_zero, List.set_cons_succ]
            refine wpAnyH_ready (rs := [1]) (by kernel_rfl) (by simp) ?_
            refine AllReadyH.cons (o := { dst := some 147, op := Op.call { callee := Callee.value (Operand.func 41), args := #[Operand.tmp 146], argTypes := #[77] }, type := 26, pos := "top.go:227", after := #[{ on := 0, ground := Ground.data }], guard := none }) rfl (fun K hK => ?_) (AllReadyH.nil)
            rw [if_pos (by rfl)]
            go_simp
            go_at_call 41
            refine (stheap_any (HSO.out.below hB0)).mono ?_
            rintro e w_9 ⟨rfl, rfl⟩
            dsimp only
            refine hK.out _ _ (hHeld) (fun hHeld => ?_)
            clear hK K
            try simp only [Act.put, List.setIfInBounds_toArray, List.set_cons_zero, List.set_cons_succ]
            refine wpAnyH_ready (rs := [2]) (by kernel_rfl) (by simp) ?_
            refine AllReadyH.cons (o := { dst := some 148, op := Op.call { callee := Callee.value (Operand.func 32), args := #[Operand.tmp 147], argTypes := #[26] }, type := 22, pos := "top.go:227", after := #[{ on := 1, ground := Ground.data }, { on := 1, ground := Ground.chain }], guard := none }) rfl (fun K hK => ?_) (AllReadyH.nil)
            rw [if_pos (by rfl)]
            go_simp
            go_at_call 32
            refine (hbytes_ok _ _ _ _ _ (HSO.out.below hB0).hp).mono ?_
            rintro e w13 ⟨g13, c13, rfl, -, hr_g13, hb_g13⟩
            dsimp only
            refine hK.out _ _ (hHeld.below hb_g13) (fun hHeld => ?_)
            clear hK K
            try simp only [Act.put, List.setIfInBounds_toArray, List.set_cons_zero, List.set_cons_succ]
            refine wpAnyH_strong (S' := fun W => Row W 5 g13 c13 N2 ∧ Rd W (some ⟨gb2, 0, none⟩) N2) (fun _ h => h.2) _ _ _ _ ?_
            replace hHeld := And.intro hr_g13 hHeld
            refine wpAnyH_take (i := 3) (oi := { dst := some 149, op := Op.convert 22 9 (Operand.tmp 148), type := 9, pos := "top.go:227", after := #[{ on := 2, ground := Ground.data }], guard := none }) (v := ?_) rfl (by kernel_rfl) (by kernel_rfl) (by kernel_rfl) (fun _ _ _ h => h) (Or.inl ⟨by rfl, ?_⟩) hHeld ?_
            rotate_left
            · intro w_ hSw
              have hcv_ := conv_text w_ (some ⟨g13, 0, none⟩) N2.length c13 N2 rfl hSw.1.rd
              go_simp
              try with_reducible rfl
            try simp only [Act.put, List.setIfInBounds_toArray, List.set_cons_zero, List.set_cons_succ]
            refine wpAnyH_take (i := 6) (oi := { dst := some 152, op := Op.binOp BinOp.eql 9 (Operand.tmp 149) (Operand.tmp 151) 9, type := 4, pos := "top.go:227", after := #[{ on := 3, ground := Ground.data }, { on := 5, ground := Ground.data }], guard := none }) (v := ?_) rfl (by kernel_rfl) (by kernel_rfl) (by kernel_rfl) (fun _ _ _ h => h) (Or.inl ⟨by rfl, ?_⟩) hHeld ?_
            rotate_left
            · intro w_ hSw
              go_simp
              try with_reducible rfl
            try simp only [Act.put, List.setIfInBounds_toArray, List.set_cons_zero, List.set_cons_succ]
            refine wpAnyH_take (i := 7) (oi := { dst := some 4, op := Op.assign (Operand.tmp 152), type := 4, pos := "top.go:227", after := #[{ on := 6, ground := Ground.data }, { on := 2, ground := Ground.chain }, { on := 0, ground := Ground.phase }, { on := 1, ground := Ground.phase }, { on := 2, ground := Ground.phase }, { on := 3, ground := Ground.phase }, { on := 4, ground := Ground.phase }, { on := 5, ground := Ground.phase }, { on := 6, ground := Ground.phase }], guard := none }) (v := ?_) rfl (by kernel_rfl) (by kernel_rfl) (by kernel_rfl) (fun _ _ _ h => h) (Or.inl ⟨by rfl, ?_⟩) hHeld ?_
            rotate_left
            · intro w_ hSw
              go_simp
              try with_reducible rfl
            try simp only [Act.put, List.setIfInBounds_toArray, List.set_cons_zero, List.set_cons_succ]
            refine wpAnyH_done (by kernel_rfl) ?_ _
            clear hHeld
            have HW12 : Hidden (Below w.heap.size w w13) := ⟨HB1.out.trans ((HB11.out.trans ((hB0.trans hb_g13).mono HB11.out.size)).mono HB1.out.size)⟩
            clear hr_g13 hb_g13 hB0
            go_wp2_with fail
            go_ret
            exact ⟨by simp, HW12.out⟩
            --}}
end Go.Proofs.YtbnobjlphmkgeaaGreatDoor
