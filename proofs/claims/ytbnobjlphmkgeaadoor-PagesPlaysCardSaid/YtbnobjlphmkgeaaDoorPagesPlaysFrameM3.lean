/- Contracts and plain laws, put together: RefPg2, RefPg3, Pages4, RefPg4, Pages5, Pages6, Pages7, PagesSf, View1, View2, RefPg5, PagesPlays0, DevV, PagesPlaysV, Open3, Open6, Open5, Open7, Told, Told2, Told3. -/
import Derived.Test.YtbnobjlphmkgeaaDoorPagesPlaysFrameM2
import Derived.Deep.DeepCutAuto
import Derived.Deep.CutBlock
import Derived.Test.YtbnobjlphmkgeaaDoorPagesPlaysFrameM1
import Derived.Laws.BitsLemmas
import Derived.Deep.Grids
import Derived.LaidEql
import Derived.Stop.Asserts
import Derived.RowKitTokens
/- The reference's pages: Format. -/
namespace Go.Proofs.YtbnobjlphmkgeaaDoor
open Go.RowKit Go.Maps Go.ChangeMaps

section
variable {w0 w w' : World} {F F' : Nat → Prop} {d p st n : Nat} {D : Dv}
theorem rformat_e1 (h : RDB w0 w F d D) (hl : D.S.length < 49) :
    Calls Tryd.prog 8 #[.pointer (some ⟨d, 0, none⟩)] w fun e w' => e = .returned (.tuple #[.pointer none, .int .i64 1]) ∧ w = w' := by
  have HN := Hidden.mk (rmany_any h)
  rw [show nP D = 0 by unfold nP; omega] at HN
  clear h
  go_enter Tryd.func8, Tryd.ntmps8
  go_wp2_with fail
  refine HN.out.mono ?_
  rintro e w' ⟨rfl, rfl⟩
  go_wp2_with fail
  go_ret2
  exact ⟨rfl, rfl⟩
set_option maxRecDepth 100000 in
theorem rformat_ok (h : RDB w0 w F d D) (hu : Up D) (hl : 49 ≤ D.S.length) :
    Calls Tryd.prog 8 #[.pointer (some ⟨d, 0, none⟩)] w fun e w' => ∃ p F', e = .returned (.tuple #[.pointer (some ⟨p, 0, none⟩), .int .i64 0]) ∧ RdM w0 w w' F F' d (formatD D) ∧ PgR w' F' p d 2 (nP D) ∧ w.heap.size ≤ p := by
  have HO := Hidden.mk (rmany_any h)
  have HM := Hidden.mk (RdM.refl h)
  have hmk : (makeB 2 []).length = 32 := makeB_len _ _ (by simp)
  obtain ⟨e1, u1⟩ := wrD_up hu (i := 0) (b := makeB 2 []) (by omega) hmk
  obtain ⟨e2, u2⟩ := wrD_up u1 (i := 1) (b := List.replicate 32 0) (by show 1 < D.S.length; omega) (by simp)
  obtain ⟨e3, u3⟩ := flD_up u2
  have H1 := Hidden.mk e1
  have H2 := Hidden.mk e2
  have H3 := Hidden.mk e3
  have HK := Hidden.mk hmk
  have HD : Hidden (formatD D = flushD (stepD (stepD (putD (stepD (putD D 0 (makeB 2 []))) 1 (List.replicate 32 0))))) := ⟨rfl⟩
  have hn1 : 1 ≤ nP D := by unfold nP; omega
  have hn2 : nP D ≤ 200 := by unfold nP; omega
  generalize formatD D = Df at *
  generalize nP D = n at *
  have q1 : ((n : Int) == 0) = false := by simp; omega
  have q2 : (n == 0) = false := by simp; omega
  have HMK := Hidden.mk (refMake_ok 2 none 0 0 [] w rfl (by omega) (by omega) (by omega) Rd.nil_)
  clear h e1 e2 e3 u1 u2 u3 hmk hu
  go_enter Tryd.func8, Tryd.ntmps8
  go_wp2_with fail
  refine HO.out.mono ?_
  rintro e w' ⟨rfl, rfl⟩
  go_wp2_with fail
  refine HMK.out.mono ?_
  rintro e w3 ⟨g, rfl, hg, hrow, hb3⟩
  have HM3 := Hidden.mk (HM.out.below hb3)
  have hgF : ¬ F g := fun hf => by have := HM.out.dev.flt g hf; omega
  have HW := Hidden.mk (HM3.out.dev.write 0 (some ⟨g, 0, none⟩) 32 32 (makeB 2 []) HK.out hrow.rd (fun _ ad e hf => hgF (by obtain rfl := Option.some.inj e; exact hf)))
  rw [show (0 : Int) = ((0 : Nat) : Int) from rfl, H1.out] at HW
  clear hg hrow hb3 hgF HMK HM
  go_wp2_with fail
  refine HW.out.mono ?_
  rintro e w4 ⟨rfl, F4, hm4⟩
  have hmz := fun W => mk_bytes 32 32 rfl (by omega) W
  have hal := (Below.refl w4.heap.size w4).alloc (Nat.le_refl _) (.cells (zeroRow 32) 5)
  have HM4 := Hidden.mk ((HM3.out.next hm4).below hal)
  have hgF : ¬ F4 w4.heap.size := fun hf => by have := hm4.dev.flt _ hf; omega
  have HW2 := Hidden.mk (HM4.out.dev.write 1 (some ⟨w4.heap.size, 0, none⟩) 32 32 (List.replicate 32 0) (by simp) (row_zeros w4 32 (by simp [maxLen])).rd (fun _ ad e hf => hgF (by obtain rfl := Option.some.inj e; exact hf)))
  rw [show (1 : Int) = ((1 : Nat) : Int) from rfl, H2.out] at HW2
  clear hm4 hal hgF HW HM3
  go_wp2_with fail
  refine HW2.out.mono ?_
  rintro e w5 ⟨rfl, F5, hm5⟩
  have HM5 := Hidden.mk (HM4.out.next hm5)
  have HFL := Hidden.mk HM5.out.dev.flush
  rw [H3.out] at HFL
  clear hm5 HW2 HM4 hmz
  go_wp2_with fail
  refine HFL.out.mono ?_
  rintro e w6 ⟨rfl, F6, hm6⟩
  have HM6 := Hidden.mk (HM5.out.next hm6)
  rw [← HD.out] at HM6
  clear hm6 HFL HM5
  go_wp2_with fail
  go_ret2
  have hal := (Below.refl w6.heap.size w6).alloc (Nat.le_refl _) (.cells #[.pointer (some ⟨d, 0, none⟩), .int .i64 2, .int .i64 (n : Int)] 49)
  exact ⟨w6.heap.size, F6, rfl, HM6.out.below hal, ⟨heap_alloc_new w6 _, fun hf => by have := HM6.out.dev.flt _ hf; omega⟩, HM6.out.kp.size⟩
end
end Go.Proofs.YtbnobjlphmkgeaaDoor
/- The reference's pages: OpenPages. -/
namespace Go.Proofs.YtbnobjlphmkgeaaDoor
open Go.RowKit Go.Maps Go.ChangeMaps

set_option maxRecDepth 100000 in
theorem refCopied_any (A : Option Addr) (n c : Nat) (l : Bytes) (w : World) (hn : l.length = n) (hl : n ≤ 140737488351232) (hr : Rd w A l) :
    Calls Tryd.prog 46 #[.slice A n c] w fun e w' => ∃ A' c', e = .returned (.slice A' n c') ∧ n ≤ c' ∧ Rd w' A' l ∧ (∀ ad, A' = some ad → w.heap.size ≤ ad.block) ∧ Below w.heap.size w w' := by
  obtain ⟨i0, hi0, hz0, hz1, hz2⟩ := info_parts byte_info
  have hsrc := Src.of_rd hr
  rw [hn] at hsrc
  go_enter Tryd.func46, Tryd.ntmps46
  go_wp2_with (at_builtin; refine wpList_append_src _ rfl (.tmp 4) (.tmp 5) _ rfl w.heap.size 5 i0 _ 1 1 Tryd.underlying41 hi0 hz0 hz1 hz2 rfl (by decide) (.slice none 0 0) 0 [] rfl (World.ownsRow_nil _ _ _ _) A n c (l.map bv) rfl hsrc (by simp [Value.oneCell']) (by simp only [maxLen]; omega) (by omega) (Nat.le_refl _) ?_; intro v1 w1 hown1 hg1 hnn1)
  have hb1 : Below w.heap.size w w1 := (Below.refl _ _).grown hg1 (Nat.le_refl _) (fun k hk => by simp [Value.ownBlock] at hk)
  rw [Nat.zero_add, List.nil_append] at hown1
  have HF : Hidden (∃ A' c', v1 = .slice A' n c' ∧ n ≤ c' ∧ Rd w1 A' l ∧ (∀ ad, A' = some ad → w.heap.size ≤ ad.block) ∧ Below w.heap.size w w1) := ⟨by
    rcases hown1.2 with ⟨rfl, h0⟩ | ⟨g, cap, cur, rfl, hb, hh, hc, hm, hz, ht⟩
    · have : l = [] := List.eq_nil_of_length_eq_zero (by omega)
      rw [this, h0]
      exact ⟨none, 0, rfl, Nat.le_refl _, Rd.nil_, (fun ad e => by cases e), hb1⟩
    · refine ⟨some ⟨g, 0, none⟩, cap, rfl, hc, (Row.rd (e := 5) (cap := cap) ⟨cur, hh, by omega, hm, by omega, by rw [hn]; simpa using ht⟩), fun ad e => by obtain rfl := Option.some.inj e; exact hb, hb1⟩⟩
  clear hown1 hg1 hnn1 hb1 hsrc
  go_ret
  obtain ⟨A', c', rfl, h⟩ := HF.out
  exact ⟨A', c', rfl, h⟩
/-- what OpenPages comes to -/
def RoAns (w0 w : World) (F : Nat → Prop) (d : Nat) (D : Dv) (r : Dv × Nat) (st : Nat) (e : Ending) (w' : World) : Prop :=
  ∃ F', RdM w0 w w' F F' d r.1 ∧ ((r.2 = 0 ∧ ∃ p, e = .returned (.tuple #[.pointer (some ⟨p, 0, none⟩), .int .i64 0]) ∧ PgR w' F' p d st (nP D) ∧ w.heap.size ≤ p) ∨ (r.2 ≠ 0 ∧ e = .returned (.tuple #[.pointer none, .int .i64 (r.2 : Int)])))
section
variable {w0 w w' : World} {F F' : Nat → Prop} {d p st n : Nat} {D : Dv}
theorem roAns_bad {r : Dv × Nat} {k : Nat} {e : Ending} (hm : RdM w0 w w' F F' d r.1) (hk : r.2 ≠ 0) (he : e = .returned (.tuple #[.pointer none, .int .i64 (r.2 : Int)])) : RoAns w0 w F d D r k e w' := ⟨F', hm, .inr ⟨hk, he⟩⟩
theorem roAns_ok {r : Dv × Nat} {k p : Nat} {e : Ending} (hm : RdM w0 w w' F F' d r.1) (hk : r.2 = 0) (he : e = .returned (.tuple #[.pointer (some ⟨p, 0, none⟩), .int .i64 0])) (hp : PgR w' F' p d k (nP D)) (hn : w.heap.size ≤ p) : RoAns w0 w F d D r k e w' := ⟨F', hm, .inl ⟨hk, p, he, hp, hn⟩⟩
/-- the first loop's state -/
structure RkSt (w0 w wr : World) (F : Nat → Prop) (d p : Nat) (D : Dv) (q : Nat × Nat × Bytes) (A : Option Addr) : Prop where
  m : RdM w0 w wr F F d D
  pg : PgR wr F p d q.1 (nP D)
  rd : Rd wr A q.2.2
  new : ∀ ad, A = some ad → w.heap.size ≤ ad.block
  nf : ∀ ad, A = some ad → ¬ F ad.block
  np : ∀ ad, A = some ad → ad.block ≠ p
  len : q.2.2.length ≤ 23
set_option maxRecDepth 100000 in
theorem ropen_lo (h : RDB w0 w F d D) (hl : D.S.length < 49) :
    Calls Tryd.prog 17 #[.pointer (some ⟨d, 0, none⟩)] w (RoAns w0 w F d D (openP D) (openMk D).1) := by
  have e : openP D = (D, 1) := by unfold openP; rw [if_pos hl]
  rw [e]
  have HO := Hidden.mk (rmany_any h)
  rw [show nP D = 0 by unfold nP; omega] at HO
  have HD := Hidden.mk h
  clear h hl e
  go_enter Tryd.func17, Tryd.ntmps17
  go_wp2_with fail
  refine HO.out.mono ?_
  rintro e w1 ⟨rfl, rfl⟩
  go_wp2_with fail
  go_ret2
  exact roAns_bad (RdM.refl HD.out) (by simp) rfl
set_option maxRecDepth 100000 in
theorem ropen_dn (h : RDB w0 w F d D) (hl : 49 ≤ D.S.length) (hd : D.down = true) :
    Calls Tryd.prog 17 #[.pointer (some ⟨d, 0, none⟩)] w (RoAns w0 w F d D (openP D) (openMk D).1) := by
  have e : openP D = (D, 9) := by unfold openP; rw [if_neg (by omega), if_pos hd]
  rw [e]
  have HO := Hidden.mk (rmany_any h)
  have hn1 : 1 ≤ nP D := by unfold nP; omega
  have hn2 := (nP_le D).1
  have HB := (Below.refl w.heap.size w).alloc (Nat.le_refl _) (.cells #[.pointer (some ⟨d, 0, none⟩), .int .i64 0, .int .i64 (nP D : Nat)] 49)
  have HM := Hidden.mk ((RdM.refl h).below HB)
  have HK := Hidden.mk (HM.out.dev.read 0)
  have hr : rdE D 0 = 9 := by unfold rdE; rw [if_neg (by omega), if_pos hd]
  unfold rdL at HK
  rw [hr, if_neg (by decide)] at HK
  generalize nP D = np at *
  have q1 : ((np : Int) == 0) = false := by simp; omega
  have q2 : (np == 0) = false := by simp; omega
  clear h hl e hd hr HB
  go_enter Tryd.func17, Tryd.ntmps17
  go_wp2_with fail
  refine HO.out.mono ?_
  rintro e w1 ⟨rfl, rfl⟩
  go_wp2_with fail
  generalize w.alloc (.cells #[.pointer (some ⟨d, 0, none⟩), .int .i64 0, .int .i64 (np : Nat)] 49) = W1 at *
  go_loopg [6, 7, 8] 1 (fun r v6 v7 i wr => i = .int .i64 0 ∧ r = 1 ∧ W1 = wr)
  case atStart => exact ⟨rfl, rfl, rfl⟩
  case round =>
    obtain ⟨rfl, rfl, rfl⟩ := hrel
    go_wp2_with fail
    refine HK.out.mono ?_
    rintro e w2 ⟨A2, c2, rfl, -, -, -, hb2⟩
    have HM2 := Hidden.mk (HM.out.below hb2)
    clear hb2
    go_wp2_with fail
    go_ret2
    exact roAns_bad HM2.out (by simp) rfl
end
end Go.Proofs.YtbnobjlphmkgeaaDoor
/- The contract of pages.Open. -/
namespace Go.Proofs.YtbnobjlphmkgeaaDoor
open Go.RowKit Go.Maps Go.ChangeMaps

/-- the first loop's state: which mark counts so far -/
structure PkSt (w0 w wr : World) (F : Nat → Prop) (d p : Nat) (D : Dv) (q : Nat × Nat × Bytes) (A : Option Addr) : Prop where
  bel : PdM w0 w wr F F d D
  pg : PgH wr F p d q.1 (nP D)
  rd : Rd wr A q.2.2
  new : ∀ ad, A = some ad → w.heap.size ≤ ad.block
  nf : ∀ ad, A = some ad → ¬ F ad.block
  np : ∀ ad, A = some ad → ad.block ≠ p
  len : q.2.2.length ≤ 23
/-- the second loop's: so many pages are copied -/
structure CpSt (w0 w wr : World) (F F' : Nat → Prop) (d p : Nat) (D : Dv) (a st : Nat) (l : Bytes) (A : Option Addr) (k : Nat) : Prop where
  m : PdM w0 w wr F F' d (runE (copyF a) 0 (l.take k) D).1
  z : (runE (copyF a) 0 (l.take k) D).2 = 0
  dn : (runE (copyF a) 0 (l.take k) D).1.down = false
  len : (runE (copyF a) 0 (l.take k) D).1.S.length = D.S.length
  pg : PgH wr F' p d st (nP D)
  rd : Rd wr A l
  nf : ∀ ad, A = some ad → ¬ F' ad.block
theorem Rd.mod {w0 w w' : World} {F F' : Nat → Prop} {d : Nat} {D : Dv} {A : Option Addr} {l : Bytes} (hr : Rd w A l) (hm : PdM w0 w w' F F' d D) (hA : ∀ ad, A = some ad → ¬ F ad.block) : Rd w' A l := hm.kp.rd hr hA
section
variable {w0 w : World} {F : Nat → Prop} {d : Nat} {D : Dv}
set_option maxRecDepth 100000 in
theorem popen_any (h : DevB w0 w F d D) :
    Calls Tryd.prog 16 #[.pointer (some ⟨d, 0, none⟩)] w (OpAns w0 w F d D (openP D) (openMk D).1) := by
  have HD := Hidden.mk h
  by_cases hl : D.S.length < 49
  · have e : openP D = (D, 1) := by unfold openP; rw [if_pos hl]
    rw [e]
    have HO := Hidden.mk (pof_e1 h hl)
    clear h hl e
    go_enter Tryd.func16, Tryd.ntmps16
    go_wp2_with fail
    refine HO.out.mono ?_
    rintro e w1 ⟨rfl, rfl⟩
    go_wp2_with fail
    go_ret2
    exact opAns_bad (PdM.refl HD.out) (by simp) rfl
  have HO := Hidden.mk (pof_ok h (by omega))
  have hl49 : 49 ≤ D.S.length := by omega
  have HL := Hidden.mk hl49
  have H0 := Hidden.mk h.bel.size
  cases hd : D.down with
  | true =>
    have e : openP D = (D, 9) := by unfold openP; rw [if_neg hl, if_pos hd]
    rw [e]
    have HDN := Hidden.mk hd
    clear h hl e hl49 hd
    go_enter Tryd.func16, Tryd.ntmps16
    go_wp2_with fail
    refine HO.out.mono ?_
    rintro e w1 ⟨p, rfl, hp1, hpn, hb1⟩
    have HM := Hidden.mk ((PdM.refl HD.out).below hb1)
    have HK := Hidden.mk (pmark_dn HM.out.dev hp1 0 (by have := HL.out; omega) HDN.out)
    clear hp1 hpn hb1 HO
    go_wp2_with fail
    go_loopg [2, 3, 6, 7, 26] 1 (fun r v2 v3 v6 v7 i wr => i = .int .i64 0 ∧ r = 1 ∧ w1 = wr)
    case atStart => exact ⟨rfl, rfl, rfl⟩
    case round =>
      obtain ⟨rfl, rfl, rfl⟩ := hrel
      go_wp2_with fail
      refine HK.out.mono ?_
      rintro e w2 ⟨rfl, rfl⟩
      go_wp2_with fail
      go_ret2
      exact opAns_bad HM.out (by simp) rfl
  | false =>
    have he : openP D = if (openMk D).1 = 0 then (D, 5) else andThen (runE (copyF (openMk D).2.1) 0 (openMk D).2.2 D) flD := by
      unfold openP
      rw [if_neg hl, if_neg (by rw [hd]; decide)]
    have HE := Hidden.mk he
    have HDN := Hidden.mk hd
    have HPK : Hidden (pk D 2 = openMk D) := ⟨pk_two D⟩
    have HMK : Hidden (∀ (k : Nat), k < 2 → ∀ W p st, DevB w0 W F d D → PgH W F p d st (nP D) → Calls Tryd.prog 47 #[.pointer (some ⟨p, 0, none⟩), .int .i64 (k : Int)] W (MkAns W (markOf (nP D) (readD D k)) 0)) := ⟨fun k hk W p st h1 h2 => pmark_ok h1 h2 k (by omega) hd⟩
    have HPS : Hidden (∀ k, pk D (k + 1) = if (pk D k).1 < (markOf (nP D) (readD D k)).1 then ((markOf (nP D) (readD D k)).1, k, (markOf (nP D) (readD D k)).2) else pk D k) := ⟨fun _ => rfl⟩
    have HP0 : Hidden (pk D 0 = (0, 0, [])) := ⟨rfl⟩
    have HPL : Hidden (∀ k, k ≤ 2 → (pk D k).2.1 < 2) := ⟨pk_len D⟩
    generalize openP D = oP at *
    generalize openMk D = oM at *
    clear h hl he hl49 hd
    go_enter Tryd.func16, Tryd.ntmps16
    go_wp2_with fail
    refine HO.out.mono ?_
    rintro e w1 ⟨p, rfl, hp1, hpn, hb1⟩
    have HST : Hidden (PkSt w0 w w1 F d p D (pk D 0) none) := ⟨⟨(PdM.refl HD.out).below hb1, by rw [HP0.out]; exact hp1, by rw [HP0.out]; exact Rd.nil_, (fun ad e => by cases e), (fun ad e => by cases e), (fun ad e => by cases e), by rw [HP0.out]; simp⟩⟩
    have HPN := Hidden.mk hpn
    clear hp1 hpn hb1 HO
    go_wp2_with fail
    go_loopg [6, 7, 26] 2 (fun r v6 v7 i wr => ∃ (k : Nat) (A : Option Addr) (c : Nat), k ≤ 2 ∧ r = 2 - k ∧ v6 = .int .i64 ((pk D k).2.1 : Nat) ∧ v7 = .slice A (pk D k).2.2.length c ∧ i = .int .i64 (k : Int) ∧ Hidden (PkSt w0 w wr F d p D (pk D k) A))
    case atStart => exact ⟨0, none, 0, by omega, rfl, by rw [HP0.out]; rfl, by rw [HP0.out]; rfl, rfl, HST⟩
    case round =>
      obtain ⟨k, A, c, hk, rfl, rfl, rfl, rfl, hst⟩ := hrel
      by_cases hlt : k < 2
      · have t0 : decide ((k : Int) < 2) = true := by simp; omega
        have t0' : (k : Int) < 2 := by omega
        have HC := Hidden.mk (HMK.out k hlt wr p _ hst.out.bel.dev hst.out.pg)
        have HS := Hidden.mk (HPS.out k)
        obtain ⟨bel, pg, rd, new, nf, np, len⟩ := hst.out
        have HB := Hidden.mk bel
        have HG := Hidden.mk pg
        have HR := Hidden.mk (And.intro rd (And.intro new (And.intro nf (And.intro np len))))
        have HFl := Hidden.mk bel.dev.flt
        generalize pk D k = pk0 at *
        generalize markOf (nP D) (readD D k) = mo at *
        obtain ⟨s0, a0, l0⟩ := pk0
        obtain ⟨s1, l1⟩ := mo
        dsimp only at *
        clear hst bel pg rd new nf np len
        go_wp2_with fail
        refine HC.out.mono ?_
        rintro e w2 ⟨A1, c1, rfl, hrd1, h23, hA1, hb2⟩
        rw [errV0]
        have HB2 := Hidden.mk (HB.out.below hb2)
        have HG2 := Hidden.mk (HG.out.below hb2)
        obtain ⟨-, z1, -⟩ := HG2.out.cell
        have fz := (three HG2.out.1).2 1
        have plt := HG.out.lt
        by_cases hs : s0 < s1
        · have t1 : decide ((s0 : Int) < s1) = true := by simp; omega
          have t2 : decide (s0 < s1) = true := by simp; omega
          have HST : Hidden (pk D (k + 1) = (s1, k, l1)) := ⟨by rw [HS.out, if_pos hs]⟩
          have hnf : ∀ ad, A1 = some ad → ¬ F ad.block := fun ad e hf => by have := hA1 ad e; have := HFl.out _ hf; omega
          have hnp : ∀ ad, A1 = some ad → ad.block ≠ p := fun ad e e2 => by have := hA1 ad e; omega
          have hw1 : w.heap.size ≤ wr.heap.size := HB.out.kp.size
          have hpw : w.heap.size ≤ p := HPN.out
          have HN : Hidden (PkSt w0 w (w2.setCell ⟨p, 1, none⟩ (.int .i64 (s1 : Int))) F d p D (s1, k, l1) A1) :=
            ⟨⟨HB2.out.cell _ HG2.out.2 hpw (Nat.le_trans H0.out hpw), HG2.out.set s1, (keep_cell (p := p) (o := 1) _).rd hrd1 hnp, fun ad e => Nat.le_trans hw1 (hA1 ad e), hnf, hnp, h23⟩⟩
          clear hs hrd1 h23 hA1 hb2 hnf hnp HS HC HR HG HB
          go_wp2_with fail
          go_roundg (2 - (k + 1))
          case measure => omega
          case rel => exact ⟨k + 1, A1, c1, by omega, rfl, by rw [HST.out], by rw [HST.out], by go_num, by rw [HST.out]; exact HN⟩
        · have t1 : decide ((s0 : Int) < s1) = false := by simp; omega
          have t2 : decide (s0 < s1) = false := by simp; omega
          have HST : Hidden (pk D (k + 1) = (s0, a0, l0)) := ⟨by rw [HS.out, if_neg hs]⟩
          have HN : Hidden (PkSt w0 w w2 F d p D (s0, a0, l0) A) := ⟨⟨HB2.out, HG2.out, HR.out.1.below hb2, HR.out.2.1, HR.out.2.2.1, HR.out.2.2.2.1, HR.out.2.2.2.2⟩⟩
          clear hs hrd1 h23 hA1 hb2 HS HC HR HG HB fz
          go_wp2_with fail
          go_roundg (2 - (k + 1))
          case measure => omega
          case rel => exact ⟨k + 1, A, c, by omega, rfl, by rw [HST.out], by rw [HST.out], by go_num, by rw [HST.out]; exact HN⟩
      · obtain rfl : k = 2 := by omega
        have t0 : decide (((2 : Nat) : Int) < 2) = false := by decide
        obtain ⟨bel, pg, rd, new, nf, np, len⟩ := hst.out
        have ha2 := HPL.out 2 (Nat.le_refl _)
        have HE := Hidden.mk (show oP = if oM.1 = 0 then (D, 5) else andThen (runE (copyF oM.2.1) 0 oM.2.2 D) flD from HE.out)
        rw [HPK.out] at *
        obtain ⟨s, a, l⟩ := oM
        dsimp only at *
        obtain ⟨z0, z1, z2⟩ := pg.cell
        have HB := Hidden.mk bel
        have HG := Hidden.mk pg
        clear hst bel HST HPS HP0 HMK
        by_cases hs : s = 0
        · have HQ : Hidden (oP = (D, 5)) := ⟨by rw [HE.out, if_pos hs]⟩
          have t1 : ((s : Int) == 0) = true := by simpa using hs
          have t2 : (s == 0) = true := by simpa using hs
          clear hs HE pg rd new nf np len
          go_wp2_with fail
          go_ret2
          rw [HQ.out]
          exact opAns_bad HB.out (by simp) rfl
        · have HQ : Hidden (oP = andThen (runE (copyF a) 0 l D) flD) := ⟨by rw [HE.out, if_neg hs]⟩
          have t1 : ((s : Int) == 0) = false := by simpa using hs
          have t2 : (s == 0) = false := by simpa using hs
          have HST : Hidden (CpSt w0 w wr F F d p D a s l A 0) := ⟨⟨HB.out, rfl, HDN.out, rfl, pg, rd, nf⟩⟩
          clear hs HE pg rd new nf np
          go_wp2_with fail
          go_loopg [2, 3, 60] l.length (fun r v2 v3 i wr => ∃ (k : Nat) (F' : Nat → Prop), k ≤ l.length ∧ r = l.length - k ∧ i = .int .i64 (k : Int) ∧ Hidden (CpSt w0 w wr F F' d p D a s l A k))
          case atStart => exact ⟨0, F, by omega, rfl, rfl, HST⟩
          case round =>
            obtain ⟨k, F', hk, rfl, rfl, hst⟩ := hrel
            by_cases hlt : k < l.length
            · have t0 : decide ((k : Int) < l.length) = true := by simp; omega
              have i0 : (k : Int) < l.length := by omega
              have i1 : (0 : Int) ≤ k := by omega
              obtain ⟨m, z, dn, ln, pg, rd, nf⟩ := hst.out
              obtain ⟨q, off, rfl, hcell⟩ := rd k hlt
              have hnf := nf _ rfl
              have HQL : Hidden (q < wr.heap.size) := ⟨block_lt_of_cell hcell⟩
              have hstep := runE_step (copyF a) l 0 k D hlt z
              rw [Nat.zero_add] at hstep
              have HSTEP : Hidden (((copyF a k l[k] (runE (copyF a) 0 (l.take k) D).1).2 = 0 → CpSt w0 w wr F F' d p D a s l (some ⟨q, off, none⟩) k → ∀ w' F1, PdM w0 w w' F F1 d (copyF a k l[k] (runE (copyF a) 0 (l.take k) D).1).1 → PgH w' F1 p d s (nP D) → Rd w' (some ⟨q, off, none⟩) l → ¬ F1 q → CpSt w0 w w' F F1 d p D a s l (some ⟨q, off, none⟩) (k + 1)) ∧ ((copyF a k l[k] (runE (copyF a) 0 (l.take k) D).1).2 ≠ 0 → oP = copyF a k l[k] (runE (copyF a) 0 (l.take k) D).1)) := by
                refine ⟨fun h0 _ w' F1 hm hp hr hq => ?_, fun h0 => ?_⟩
                · have e := hstep.1 h0
                  exact ⟨by rw [e]; exact hm, by rw [e]; exact h0, by rw [e]; exact wrD_down h0, by rw [e]; exact (congrArg List.length (wrD_len _ _ _)).trans ln, hp, hr, fun ad e' hf => hq (by obtain rfl := Option.some.inj e'; exact hf)⟩
                · rw [HQ.out]
                  unfold andThen
                  rw [hstep.2 h0, if_neg h0]
              have HCF : Hidden (∀ x, copyF a k x (runE (copyF a) 0 (l.take k) D).1 = wrD (runE (copyF a) 0 (l.take k) D).1 (48 + (x.toNat : Int)) (readD (runE (copyF a) 0 (l.take k) D).1 (areaP a k))) := ⟨fun _ => rfl⟩
              generalize (runE (copyF a) 0 (l.take k) D).1 = Dk at *
              generalize l[k] = x at *
              have hx8 := UInt8.toNat_lt x
              have s2 : IntKind.i64.wrap (x.toNat : Int) = (x.toNat : Int) := IntWalk.i64_in _ (by omega)
              have s3 : IntKind.i64.wrap (48 + (x.toNat : Int)) = 48 + (x.toNat : Int) := IntWalk.i64_in _ (by omega)
              have s4 : IntKind.i64.wrap ((k : Int) + 1) = (k : Int) + 1 := IntWalk.i64_in _ (by omega)
              have har : areaP a k < Dk.S.length := by rw [ln]; have := HL.out; unfold areaP; omega
              have HRD := Hidden.mk (m.dev.read (areaP a k) har dn)
              have HM := Hidden.mk m
              have HPG := Hidden.mk pg
              have HRDL := Hidden.mk rd
              have HNF := Hidden.mk hnf
              have HST := Hidden.mk hst.out
              have HAR := Hidden.mk (m.dev.wf.rd har)
              clear hst m z dn ln pg rd nf hnf hstep har
              go_wp2_with fail
              refine (area_any a k _ (by omega) (by omega)).mono ?_
              rintro e w3 ⟨rfl, rfl⟩
              go_wp2_with fail
              refine HRD.out.mono ?_
              rintro e w3 ⟨g, cap, rfl, hg, hrow, -, hb3, -⟩
              have HM3 := Hidden.mk (HM.out.below hb3)
              have HPG3 := Hidden.mk (HPG.out.below hb3)
              have HRD3 := Hidden.mk (HRDL.out.below hb3)
              have HQL3 := Hidden.mk (Nat.lt_of_lt_of_le HQL.out hb3.size)
              have hgF : ¬ F' g := fun hf => by have := HM.out.dev.flt _ hf; omega
              have HW := Hidden.mk (HM3.out.dev.write_all (48 + (x.toNat : Int)) (some ⟨g, 0, none⟩) 32 cap _ HAR.out hrow.rd (fun _ ad e hf => hgF (by obtain rfl := Option.some.inj e; exact hf)))
              rw [← HCF.out] at HW
              clear hg hrow hb3 hgF HRD HM HPG HRDL HCF
              go_wp2_with fail
              refine HW.out.mono ?_
              rintro e w4 ⟨rfl, hh⟩
              obtain ⟨F4, hm4⟩ := pdm_write _ hh
              have HM4 := Hidden.mk (HM3.out.next hm4)
              have HPG4 := Hidden.mk (HPG3.out.mod hm4)
              have HRD4 := Hidden.mk (HRD3.out.mod hm4 (fun ad e => by obtain rfl := Option.some.inj e; exact HNF.out))
              have HNF4 : Hidden (¬ F4 q) := ⟨fun hf => by
                rcases hm4.sub _ hf with h' | h'
                · exact HNF.out h'
                · have := HQL3.out; omega⟩
              clear hh hm4 HW HM3 HPG3 HRD3
              by_cases h0 : (copyF a k x Dk).2 = 0
              · have HN := Hidden.mk (HSTEP.out.1 h0 HST.out w4 F4 HM4.out HPG4.out HRD4.out HNF4.out)
                rw [h0, errV0]
                clear h0 HSTEP
                go_wp2_with fail
                go_roundg (l.length - (k + 1))
                case measure => omega
                case rel => exact ⟨k + 1, F4, by omega, rfl, by go_num, HN⟩
              · have HN := Hidden.mk (HSTEP.out.2 h0)
                have HZ := Hidden.mk h0
                have HEV := Hidden.mk (errV_pos h0)
                rw [HEV.out]
                generalize copyF a k x Dk = cf at *
                clear h0 HSTEP
                go_wp2_with fail
                go_ret2
                rw [HN.out]
                exact opAns_bad HM4.out HZ.out (by rw [HEV.out]; rfl)
            · obtain rfl : k = l.length := by omega
              have t0 : decide ((l.length : Int) < l.length) = false := by simp
              obtain ⟨m, z, dn, ln, pg, rd, nf⟩ := hst.out
              rw [List.take_of_length_le (Nat.le_refl _)] at m z
              have HQ2 : Hidden (oP = flD (runE (copyF a) 0 l D).1) := ⟨by rw [HQ.out]; unfold andThen; rw [if_pos z]⟩
              have HFL := Hidden.mk m.dev.flush_all
              have HM := Hidden.mk m
              have HPG := Hidden.mk pg
              rw [← HQ2.out] at HFL
              clear hst m z dn ln pg rd nf HQ HST HG
              go_wp2_with fail
              refine HFL.out.mono ?_
              rintro e w4 ⟨rfl, hd4, hk4⟩
              have hm4 : PdM w0 wr w4 F' F' d _ := ⟨hd4, hk4, fun _ hk => .inl hk⟩
              have HM4 := Hidden.mk (HM.out.next hm4)
              have HPG4 := Hidden.mk (HPG.out.mod hm4)
              clear hd4 hk4 hm4 HFL HM HPG
              by_cases h0 : oP.2 = 0
              · rw [h0, errV0]
                have HZ := Hidden.mk h0
                clear h0
                go_wp2_with fail
                go_ret2
                exact opAns_ok HM4.out HZ.out rfl HPG4.out HPN.out
              · have HZ := Hidden.mk h0
                have HEV := Hidden.mk (errV_pos h0)
                rw [HEV.out]
                clear h0
                go_wp2_with fail
                go_ret2
                exact opAns_bad HM4.out HZ.out (by rw [HEV.out]; rfl)
end
end Go.Proofs.YtbnobjlphmkgeaaDoor
/- The reference's pages: OpenPages while the device is up. -/
namespace Go.Proofs.YtbnobjlphmkgeaaDoor
open Go.RowKit Go.Maps Go.ChangeMaps

/-- so many pages are copied -/
structure RcpSt (w0 w wr : World) (F F' : Nat → Prop) (d p : Nat) (D : Dv) (a st : Nat) (l : Bytes) (A : Option Addr) (k : Nat) : Prop where
  m : RdM w0 w wr F F' d (runE (copyF a) 0 (l.take k) D).1
  z : (runE (copyF a) 0 (l.take k) D).2 = 0
  dn : (runE (copyF a) 0 (l.take k) D).1.down = false
  len : (runE (copyF a) 0 (l.take k) D).1.S.length = D.S.length
  pg : PgR wr F' p d st (nP D)
  rd : Rd wr A l
  nf : ∀ ad, A = some ad → ¬ F' ad.block
section
variable {w0 w w' : World} {F F' : Nat → Prop} {d p st n : Nat} {D : Dv}
theorem RkSt.below {wr w' : World} {q : Nat × Nat × Bytes} {A : Option Addr} (h : RkSt w0 w wr F d p D q A) (hb : Below wr.heap.size wr w') : RkSt w0 w w' F d p D q A :=
  ⟨h.m.below hb, h.pg.below hb, h.rd.below hb, h.new, h.nf, h.np, h.len⟩
set_option maxRecDepth 100000 in
set_option maxHeartbeats 2000000 in
theorem ropen_up (h : RDB w0 w F d D) (hl : 49 ≤ D.S.length) (hd : D.down = false) :
    Calls Tryd.prog 17 #[.pointer (some ⟨d, 0, none⟩)] w (RoAns w0 w F d D (openP D) (openMk D).1) := by
  have he : openP D = if (openMk D).1 = 0 then (D, 5) else andThen (runE (copyF (openMk D).2.1) 0 (openMk D).2.2 D) flD := by
    unfold openP
    rw [if_neg (by omega), if_neg (by rw [hd]; decide)]
  have HE := Hidden.mk he
  have HDN := Hidden.mk hd
  have HL := Hidden.mk hl
  have HPK : Hidden (pk D 2 = openMk D) := ⟨pk_two D⟩
  have HPS : Hidden (∀ k, pk D (k + 1) = if (pk D k).1 < (markOf (nP D) (readD D k)).1 then ((markOf (nP D) (readD D k)).1, k, (markOf (nP D) (readD D k)).2) else pk D k) := ⟨fun _ => rfl⟩
  have HP0 : Hidden (pk D 0 = (0, 0, [])) := ⟨rfl⟩
  have HPL : Hidden (∀ k, k ≤ 2 → (pk D k).2.1 < 2) := ⟨pk_len D⟩
  have HO := Hidden.mk (rmany_any h)
  have HNP : Hidden (nP D = min (D.S.length - 48) 200) := ⟨rfl⟩
  have hn1 : 1 ≤ nP D := by unfold nP; omega
  have hn2 := (nP_le D).1
  have HR32 := Hidden.mk (fun (W : World) (hW : RDB w0 W F d D) (i : Nat) (hi : i < D.S.length) => hW.rd32 hi)
  have HB := (Below.refl w.heap.size w).alloc (Nat.le_refl _) (.cells #[.pointer (some ⟨d, 0, none⟩), .int .i64 0, .int .i64 (nP D : Nat)] 49)
  have HST : Hidden (RkSt w0 w (w.alloc (.cells #[.pointer (some ⟨d, 0, none⟩), .int .i64 0, .int .i64 (nP D : Nat)] 49)) F d w.heap.size D (pk D 0) none) := ⟨⟨(RdM.refl h).below HB, by rw [HP0.out]; exact ⟨heap_alloc_new w _, fun hf => by have := h.flt _ hf; omega⟩, by rw [HP0.out]; exact Rd.nil_, (fun ad e => by cases e), (fun ad e => by cases e), (fun ad e => by cases e), by rw [HP0.out]; simp⟩⟩
  have HPN := Hidden.mk (Nat.le_refl w.heap.size)
  have H0 := Hidden.mk h.bel.size
  have HRE : Hidden (∀ k : Nat, k < 2 → rdE D (k : Int) = 0 ∧ rdL D (k : Int) = readD D k) := ⟨fun k hk => by
    have e : rdE D (k : Int) = 0 := by unfold rdE; rw [if_neg (by omega), if_neg (by rw [hd]; decide)]
    exact ⟨e, by unfold rdL; rw [e, if_pos rfl, Int.toNat_natCast]⟩⟩
  generalize openP D = oP at *
  generalize openMk D = oM at *
  have q1 : ((nP D : Int) == 0) = false := by simp; omega
  have q2 : (nP D == 0) = false := by simp; omega
  obtain ⟨np, hnp⟩ : ∃ np, nP D = np := ⟨_, rfl⟩
  have HNE := Hidden.mk hnp
  rw [hnp] at HPS HO HNP hn1 hn2 q1 q2 HST
  clear h hl he hd HB hnp
  go_enter Tryd.func17, Tryd.ntmps17
  go_wp2_with fail
  refine HO.out.mono ?_
  rintro e w' ⟨rfl, rfl⟩
  go_wp2_with fail
  have HPB : Hidden (w.heap.size ≤ w.heap.size) := ⟨Nat.le_refl _⟩
  generalize w.alloc (.cells #[.pointer (some ⟨d, 0, none⟩), .int .i64 0, .int .i64 (np : Nat)] 49) = W1 at *
  obtain ⟨p, hp⟩ : ∃ p, w.heap.size = p := ⟨_, rfl⟩
  have HPE := Hidden.mk hp
  rw [hp] at HST
  rw [hp]
  clear hp HPB HPN
  go_loopg [6, 7, 8] 2 (fun r v6 v7 i wr => ∃ (k : Nat) (A : Option Addr) (c : Nat), k ≤ 2 ∧ r = 2 - k ∧ v6 = .int .i64 ((pk D k).2.1 : Nat) ∧ v7 = .slice A (pk D k).2.2.length c ∧ i = .int .i64 (k : Int) ∧ Hidden (RkSt w0 w wr F d p D (pk D k) A))
  case atStart => exact ⟨0, none, 0, by omega, rfl, by rw [HP0.out]; rfl, by rw [HP0.out]; rfl, rfl, HST⟩
  case round =>
    obtain ⟨k, A, c, hk, rfl, rfl, rfl, rfl, hst⟩ := hrel
    have HX := Hidden.mk hst.out
    clear hst HST
    by_cases hlt : k < 2
    · have t0 : decide ((k : Int) < 2) = true := by simp; omega
      have t0' : (k : Int) < 2 := by omega
      have s1 : IntKind.i64.wrap ((k : Int) + 1) = (k : Int) + 1 := IntWalk.i64_in _ (by omega)
      have HC := Hidden.mk (HX.out.m.dev.read (k : Int))
      rw [(HRE.out k hlt).1, (HRE.out k hlt).2] at HC
      have hb32 := HR32.out _ HX.out.m.dev k (by have := HL.out; omega)
      have HS := Hidden.mk (HPS.out k)
      generalize readD D k = b at *
      have HB32 := Hidden.mk hb32
      obtain ⟨⟨s0, a0, l0⟩, hpk⟩ : ∃ q, pk D k = q := ⟨_, rfl⟩
      rw [hpk] at HX HS
      rw [hpk]
      dsimp only at *
      clear hpk
      go_wp2_with fail
      refine HC.out.mono ?_
      rintro e w2 ⟨A2, c2, rfl, hc2, hrd2, -, hb2⟩
      have HX2 := Hidden.mk (HX.out.below hb2)
      have HOP := Hidden.mk (refOpen_cap A2 b.length c2 b w2 rfl hc2 hrd2)
      clear hb2 hc2 hrd2 HC HX hb32
      go_wp2_with fail
      refine HOP.out.mono ?_
      rintro e w3 ⟨A3, c3, rfl, hc3, hrd3, hb3⟩
      have HX3 := Hidden.mk (HX2.out.below hb3)
      clear hb3 HOP HX2
      by_cases hbad : (openF b).2.2 = 0
      · obtain ⟨o1, o2, o3, o4, o5, o6⟩ := openF_zero hbad
        rw [hbad, o2, o3, o4]
        rw [o3] at hrd3 hc3
        rw [o4] at hc3
        have z0 : ((0 : Int) != 0) = false := rfl
        have HRB := Hidden.mk hrd3
        have hb0l : 0 < (bodyOf b).length := by omega
        obtain ⟨qb, ob, rfl, hc0⟩ := hrd3 0 hb0l
        obtain ⟨b0, hb0⟩ : ∃ x, (bodyOf b)[0] = x := ⟨_, rfl⟩
        rw [hb0, Nat.add_zero] at hc0
        have hbg : (bodyOf b).getD 0 0 = b0 := by rw [List.getD_eq_getElem?_getD, List.getElem?_eq_getElem hb0l, ← hb0]; rfl
        have HML : Hidden (mkL b = ((bodyOf b).drop 1).take b0.toNat) := ⟨by unfold mkL; rw [hbg]⟩
        have HMO : Hidden (markOf np b = if 23 < b0.toNat then (0, []) else if (mkL b).all (fun x => decide (x.toNat < np)) = true then (stampOf b, mkL b) else (0, [])) := ⟨by unfold markOf; rw [if_neg (fun h => h hbad), hbg]⟩
        have HST0 := Hidden.mk o6
        have HBL := Hidden.mk o4
        have hx8 := UInt8.toNat_lt b0
        generalize markOf np b = mo at *
        generalize mkL b = ml at *
        generalize stampOf b = sb at *
        generalize bodyOf b = body at *
        clear hbad o1 o2 o3 o4 o5 o6 hrd3 hb0l hb0 hbg
        by_cases h23 : 23 < b0.toNat
        · have t1 : decide (23 < (b0.toNat : Int)) = true := by simp; omega
          have t2 : decide (23 < b0.toNat) = true := by simpa using h23
          have HN : Hidden (pk D (k + 1) = (s0, a0, l0)) := ⟨by rw [HS.out, HMO.out, if_pos h23, if_neg (by simp)]⟩
          clear h23 HS HMO HRB
          go_wp2_with fail
          go_roundg (2 - (k + 1))
          case measure => omega
          case rel => exact ⟨k + 1, A, c, by omega, rfl, by rw [HN.out], by rw [HN.out], by go_num, by rw [HN.out]; exact HX3⟩
        · have t1 : decide (23 < (b0.toNat : Int)) = false := by simp; omega
          have t2 : decide (23 < b0.toNat) = false := by simpa using h23
          have HMO := Hidden.mk (show mo = if ml.all (fun x => decide (x.toNat < np)) = true then (sb, ml) else (0, []) by rw [HMO.out, if_neg h23])
          have HK23 := Hidden.mk h23
          have s2 : IntKind.i64.wrap (b0.toNat : Int) = (b0.toNat : Int) := IntWalk.i64_in _ (by omega)
          obtain ⟨kk, hkk⟩ : ∃ kk, b0.toNat = kk := ⟨_, rfl⟩
          have hk23 : kk ≤ 23 := by omega
          rw [hkk] at HML
          clear h23
          have HX4 := HX3
          go_wp2_with fail
          go_loopg [15, 16] kk (fun r v15 v16 wy => ∃ j : Nat, j ≤ kk ∧ r = kk - j ∧ v15 = .bool (((body.drop 1).take j).all (fun x => decide (x.toNat < np))) ∧ v16 = .int .i64 ((j : Int) + 1) ∧ w3 = wy)
          case atStart => exact ⟨0, by omega, rfl, by simp, rfl, rfl⟩
          case round =>
            obtain ⟨j, hj, rfl, rfl, rfl, rfl⟩ := hrel
            by_cases hjk : j < kk
            · have t3 : decide ((j : Int) + 1 ≤ (kk : Int)) = true := by simp; omega
              have t3' : (j : Int) + 1 ≤ (kk : Int) := by omega
              have s3 : IntKind.i64.wrap ((j : Int) + 1 + 1) = (j : Int) + 1 + 1 := IntWalk.i64_in _ (by omega)
              have j0 : (0 : Int) ≤ (j : Int) + 1 := by omega
              have j1 : (j : Int) + 1 < 24 := by omega
              have j2 : j + 1 < 24 := by omega
              have hbl : j + 1 < body.length := by rw [HBL.out]; omega
              have hcj := HRB.out.at_ (j + 1) hbl
              have htk : ((body.drop 1).take (j + 1)).all (fun x => decide (x.toNat < np)) = (((body.drop 1).take j).all (fun x => decide (x.toNat < np)) && decide ((body[j + 1]'hbl).toNat < np)) := by
                have hdl : j < (body.drop 1).length := by rw [List.length_drop]; omega
                have hge : (body.drop 1)[j] = body[j + 1]'hbl := by
                  apply Option.some.inj
                  rw [← List.getElem?_eq_getElem, ← List.getElem?_eq_getElem, List.getElem?_drop, Nat.add_comm]
                rw [List.take_succ_eq_append_getElem hdl, List.all_append, hge]
                simp only [List.all_cons, List.all_nil, Bool.and_true]
              have HTK := Hidden.mk htk
              obtain ⟨xj, hxj⟩ : ∃ x, body[j + 1]'hbl = x := ⟨_, rfl⟩
              rw [hxj] at hcj HTK
              have hx9 := UInt8.toNat_lt xj
              have s4 : IntKind.i64.wrap (xj.toNat : Int) = (xj.toNat : Int) := IntWalk.i64_in _ (by omega)
              clear htk hxj hbl
              cases hal : ((body.drop 1).take j).all (fun x => decide (x.toNat < np)) with
              | false =>
                rw [hal, Bool.false_and] at HTK
                go_wp2_with fail
                go_roundg (kk - (j + 1))
                case measure => omega
                case rel => exact ⟨j + 1, by omega, rfl, by rw [HTK.out], by go_num, rfl⟩
              | true =>
                rw [hal, Bool.true_and] at HTK
                have HEQ : Hidden (decide ((xj.toNat : Int) < (np : Int)) = decide (xj.toNat < np)) := ⟨decide_eq_decide.2 (by omega)⟩
                go_wp2_with fail
                go_roundg (kk - (j + 1))
                case measure => omega
                case rel => exact ⟨j + 1, by omega, rfl, by rw [HTK.out], by go_num, rfl⟩
            · obtain rfl : j = kk := by omega
              have t3 : decide ((j : Int) + 1 ≤ (j : Int)) = false := decide_eq_false (by omega)
              rw [← HML.out]
              cases hal : ml.all (fun x => decide (x.toNat < np)) with
              | false =>
                have HN : Hidden (pk D (k + 1) = (s0, a0, l0)) := ⟨by rw [HS.out, show mo = (0, []) by rw [HMO.out, hal, if_neg (by decide)], if_neg (by simp)]⟩
                clear hal HS HMO
                go_wp2_with fail
                go_roundg (2 - (k + 1))
                case measure => omega
                case rel => exact ⟨k + 1, A, c, by omega, rfl, by rw [HN.out], by rw [HN.out], by go_num, by rw [HN.out]; exact HX3⟩
              | true =>
                have HS := Hidden.mk (show pk D (k + 1) = if s0 < sb then (sb, k, ml) else (s0, a0, l0) by rw [HS.out, HMO.out, hal, if_pos rfl])
                obtain ⟨⟨z0', z1, z2⟩, fz⟩ := three HX3.out.pg.1
                have fz1 := fz 1
                dsimp only at z1
                clear hal HMO
                by_cases hs : s0 < sb
                · have t4 : decide ((s0 : Int) < sb) = true := by simp; omega
                  have t5 : decide (s0 < sb) = true := by simpa using hs
                  have HST2 : Hidden (pk D (k + 1) = (sb, k, ml)) := ⟨by rw [HS.out, if_pos hs]⟩
                  have hkp : Keep (fun q => q = p) w3 (w3.setCell ⟨p, 1, none⟩ (.int .i64 (sb : Int))) := Keep.setCell (F := fun q => q = p) (Keep.refl _ _) (p := ⟨p, 1, none⟩) (.inl rfl) _
                  have s5 : IntKind.i64.wrap (1 + (j : Int)) = 1 + (j : Int) := IntWalk.i64_in _ (by omega)
                  have hcut := fun W => run_cutA (some ⟨qb, ob, none⟩) 24 c3 1 (1 + j) (by omega) (by omega) W
                  rw [if_neg (show ¬ c3 = 1 by omega), Option.map_some, Addr.add_lit, show 1 + j - 1 = j by omega, show ((1 + j : Nat) : Int) = 1 + (j : Int) by omega, show ((1 : Nat) : Int) = 1 from rfl] at hcut
                  have hqp : qb ≠ p := HX3.out.pg.ne_byte hc0
                  have hrw := (hkp.rd HRB.out (fun ad e => by obtain rfl := Option.some.inj e; exact hqp)).cut 1 j (by rw [HBL.out]; omega)
                  rw [← HML.out, Option.map_some, Addr.add_lit] at hrw
                  have hmlj : ml.length = j := by rw [HML.out]; simp; have := HBL.out; omega
                  have HCP := Hidden.mk (refCopied_any (some ⟨qb, ob + 1, none⟩) j (c3 - 1) ml _ hmlj (by omega) hrw)
                  have hm5 : RdM w0 w (w3.setCell ⟨p, 1, none⟩ (.int .i64 (sb : Int))) F F d D := HX3.out.m.cell _ HX3.out.pg.2 (Nat.le_of_eq HPE.out) (by have := H0.out; rw [HPE.out] at this; exact this)
                  have HW5 := Hidden.mk (And.intro hm5 (show PgR (w3.setCell ⟨p, 1, none⟩ (.int .i64 (sb : Int))) F p d sb (nP D) from HX3.out.pg.set sb))
                  have HMJ := Hidden.mk hmlj
                  clear hs HS hrw hmlj hm5 hqp hkp hc0 HRB
                  go_wp2_with fail
                  refine HCP.out.mono ?_
                  rintro e w6 ⟨A6, c6, rfl, hc6, hrd6, hA6, hb6⟩
                  have hsz : (w3.setCell ⟨p, 1, none⟩ (.int .i64 (sb : Int))).heap.size = w3.heap.size := by simp
                  have HN : Hidden (RkSt w0 w w6 F d p D (sb, k, ml) A6) := ⟨⟨HW5.out.1.below hb6, HW5.out.2.below hb6, hrd6, fun ad e => by have := hA6 ad e; have := HX3.out.m.kp.size; omega, fun ad e hf => by have := hA6 ad e; have := HX3.out.m.dev.flt _ hf; omega, fun ad e e2 => by have := hA6 ad e; have := HX3.out.pg.lt; omega, by rw [HMJ.out]; exact hk23⟩⟩
                  clear hc6 hrd6 hA6 hb6 hsz HCP HW5
                  go_wp2_with fail
                  go_roundg (2 - (k + 1))
                  case measure => omega
                  case rel => exact ⟨k + 1, A6, c6, by omega, rfl, by rw [HST2.out], by rw [HST2.out, HMJ.out], by go_num, by rw [HST2.out]; exact HN⟩
                · have t4 : decide ((s0 : Int) < sb) = false := by simp; omega
                  have t5 : decide (s0 < sb) = false := by simpa using hs
                  have HN : Hidden (pk D (k + 1) = (s0, a0, l0)) := ⟨by rw [HS.out, if_neg hs]⟩
                  clear hs HS
                  go_wp2_with fail
                  go_roundg (2 - (k + 1))
                  case measure => omega
                  case rel => exact ⟨k + 1, A, c, by omega, rfl, by rw [HN.out], by rw [HN.out], by go_num, by rw [HN.out]; exact HX3⟩
      · have z0 : (((openF b).2.2 : Int) != 0) = true := by simp; omega
        have HMO : Hidden (markOf np b = (0, [])) := ⟨by unfold markOf; rw [if_pos hbad]⟩
        have HN : Hidden (pk D (k + 1) = (s0, a0, l0)) := ⟨by rw [HS.out, HMO.out, if_neg (by simp)]⟩
        generalize (openF b).2.2 = bad at *
        generalize (openF b).2.1 = body at *
        generalize (openF b).1 = s at *
        clear hbad hrd3 hc3 HS HMO
        go_wp2_with fail
        go_roundg (2 - (k + 1))
        case measure => omega
        case rel => exact ⟨k + 1, A, c, by omega, rfl, by rw [HN.out], by rw [HN.out], by go_num, by rw [HN.out]; exact HX3⟩
    · obtain rfl : k = 2 := by omega
      have t0 : decide (((2 : Nat) : Int) < 2) = false := by decide
      have hpl := HPL.out 2 (Nat.le_refl _)
      rw [HPK.out] at hpl HX
      rw [HPK.out]
      obtain ⟨s, a, l⟩ := oM
      dsimp only at *
      have HX3 := HX
      obtain ⟨⟨z0, z1, z2⟩, -⟩ := three HX3.out.pg.1
      dsimp only at z1
      have hl23 := HX3.out.len
      dsimp only at hl23
      obtain ⟨ll, hll⟩ : ∃ k, l.length = k := ⟨_, rfl⟩
      have HLL := Hidden.mk hll
      rw [hll] at hl23
      rw [hll]
      clear hll HX
      by_cases hs : s = 0
      · have HQ : Hidden (oP = (D, 5)) := ⟨by rw [HE.out, if_pos hs]⟩
        have t1 : ((s : Int) == 0) = true := by simpa using hs
        have t2 : (s == 0) = true := by simpa using hs
        clear hs HE
        go_wp2_with fail
        go_ret2
        rw [HQ.out]
        exact roAns_bad HX3.out.m (by simp) rfl
      · have HQ : Hidden (oP = andThen (runE (copyF a) 0 l D) flD) := ⟨by rw [HE.out, if_neg hs]⟩
        have t1 : ((s : Int) == 0) = false := by simpa using hs
        have t2 : (s == 0) = false := by simpa using hs
        have HST : Hidden (RcpSt w0 w wr F F d p D a s l A 0) := ⟨⟨HX3.out.m, rfl, HDN.out, rfl, HX3.out.pg, HX3.out.rd, HX3.out.nf⟩⟩
        clear hs HE z0 z2 HX3
        go_wp2_with fail
        clear z1
        go_loopg [17] ll (fun r i wy => ∃ (k : Nat) (F' : Nat → Prop), k ≤ ll ∧ r = ll - k ∧ i = .int .i64 (k : Int) ∧ Hidden (RcpSt w0 w wy F F' d p D a s l A k))
        case atStart => exact ⟨0, F, by omega, rfl, rfl, HST⟩
        case round =>
          obtain ⟨k, F', hk, rfl, rfl, hst⟩ := hrel
          have HY := Hidden.mk hst.out
          clear hst HST
          by_cases hlt : k < ll
          · have t0 : decide ((k : Int) < ll) = true := by simp; omega
            have i0 : (k : Int) < ll := by omega
            have i1 : (0 : Int) ≤ k := by omega
            have hkl : k < l.length := by rw [HLL.out]; exact hlt
            obtain ⟨q, off, rfl, hcell⟩ := HY.out.rd k hkl
            have hstep := runE_step (copyF a) l 0 k D hkl HY.out.z
            rw [Nat.zero_add] at hstep
            have HSTEP := Hidden.mk hstep
            have HCF : Hidden (∀ x, copyF a k x (runE (copyF a) 0 (l.take k) D).1 = wrD (runE (copyF a) 0 (l.take k) D).1 (48 + (x.toNat : Int)) (readD (runE (copyF a) 0 (l.take k) D).1 (areaP a k))) := ⟨fun _ => rfl⟩
            have har : areaP a k < (runE (copyF a) 0 (l.take k) D).1.S.length := by rw [HY.out.len]; have := HL.out; unfold areaP; omega
            have hre : rdE (runE (copyF a) 0 (l.take k) D).1 (2 + 23 * (a : Int) + (k : Int)) = 0 := by unfold rdE; rw [if_neg (by unfold areaP at har; omega), if_neg (by rw [HY.out.dn]; decide)]
            have HRD := Hidden.mk (HY.out.m.dev.read (2 + 23 * (a : Int) + (k : Int)))
            unfold rdL at HRD
            rw [hre, if_pos rfl, show (2 + 23 * (a : Int) + (k : Int)).toNat = areaP a k by unfold areaP; omega] at HRD
            have HAR := Hidden.mk (HY.out.m.dev.rd32 har)
            generalize readD (runE (copyF a) 0 (l.take k) D).1 (areaP a k) = sec at *
            generalize hx : l[k] = x at *
            have hx8 := UInt8.toNat_lt x
            have s2 : IntKind.i64.wrap (x.toNat : Int) = (x.toNat : Int) := IntWalk.i64_in _ (by omega)
            have s3 : IntKind.i64.wrap (48 + (x.toNat : Int)) = 48 + (x.toNat : Int) := IntWalk.i64_in _ (by omega)
            have s4 : IntKind.i64.wrap ((k : Int) + 1) = (k : Int) + 1 := IntWalk.i64_in _ (by omega)
            have s5 : IntKind.i64.wrap (23 * (a : Int)) = 23 * (a : Int) := IntWalk.i64_in _ (by omega)
            have s6 : IntKind.i64.wrap (2 + 23 * (a : Int)) = 2 + 23 * (a : Int) := IntWalk.i64_in _ (by omega)
            have s7 : IntKind.i64.wrap (2 + 23 * (a : Int) + (k : Int)) = 2 + 23 * (a : Int) + (k : Int) := IntWalk.i64_in _ (by omega)
            have HCE := Hidden.mk hcell
            clear har hre hstep hkl hx
            go_wp2_with fail
            refine HRD.out.mono ?_
            rintro e w5 ⟨A5, c5, rfl, hc5, hrd5, hA5, hb5⟩
            have hcell5 := (hb5.cell (p := ⟨q, off + k, none⟩) (block_lt_of_cell hcell)).trans hcell
            have HM5 := Hidden.mk (HY.out.m.below hb5)
            have HPG5 := Hidden.mk (HY.out.pg.below hb5)
            have HRL5 := Hidden.mk (HY.out.rd.below hb5)
            have HW := Hidden.mk (HM5.out.dev.writeR (48 + (x.toNat : Int)) A5 sec.length c5 sec rfl hrd5 (fun ad e => (hA5 ad e).2))
            rw [← HCF.out] at HW
            have HQL := Hidden.mk (show q < w5.heap.size from block_lt_of_cell hcell5)
            clear hc5 hrd5 hA5 hcell hb5 HRD HCF
            go_wp2_with fail
            refine HW.out.mono ?_
            rintro e w6 ⟨rfl, F6, hm6⟩
            have HM6 := Hidden.mk (HM5.out.next hm6)
            have HPG6 := Hidden.mk (HPG5.out.mod hm6)
            have HRL6 := Hidden.mk (hm6.kp.rd HRL5.out (fun ad e => by obtain rfl := Option.some.inj e; exact HY.out.nf _ rfl))
            have HNF6 : Hidden (¬ F6 q) := ⟨fun hf => by
              rcases hm6.sub _ hf with h' | h'
              · exact HY.out.nf _ rfl h'
              · have := HQL.out; omega⟩
            clear hm6 HW HM5 HPG5 HRL5 hcell5
            by_cases h0 : (copyF a k x (runE (copyF a) 0 (l.take k) D).1).2 = 0
            · have e1 := HSTEP.out.1 h0
              have HN : Hidden (RcpSt w0 w w6 F F6 d p D a s l (some ⟨q, off, none⟩) (k + 1)) := ⟨⟨by rw [e1]; exact HM6.out, by rw [e1]; exact h0, by rw [e1]; exact wrD_down h0, by rw [e1]; exact (congrArg List.length (wrD_len _ _ _)).trans HY.out.len, HPG6.out, HRL6.out, fun ad e' hf => HNF6.out (by obtain rfl := Option.some.inj e'; exact hf)⟩⟩
              rw [h0]
              clear h0 HSTEP e1 HY HM6 HPG6 HRL6
              go_wp2_with fail
              go_roundg (ll - (k + 1))
              case measure => omega
              case rel => exact ⟨k + 1, F6, by omega, rfl, by go_num, HN⟩
            · have HN : Hidden (oP = copyF a k x (runE (copyF a) 0 (l.take k) D).1) := ⟨by
                rw [HQ.out]
                unfold andThen
                rw [HSTEP.out.2 h0, if_neg h0]⟩
              have HZ := Hidden.mk h0
              generalize copyF a k x (runE (copyF a) 0 (l.take k) D).1 = cf at *
              have y0 : ((cf.2 : Int) != 0) = true := by simp; omega
              have y1 : ((cf.2 : Int) == 0) = false := by simp; omega
              have y2 : (cf.2 == 0) = false := by simpa using h0
              clear h0 HSTEP HY
              go_wp2_with fail
              go_ret2
              rw [HN.out]
              exact roAns_bad HM6.out HZ.out rfl
          · obtain rfl : k = ll := by omega
            have t0 : decide ((k : Int) < k) = false := by simp
            have hm := HY.out.m
            have hz := HY.out.z
            rw [List.take_of_length_le (by rw [HLL.out]; exact Nat.le_refl _)] at hm hz
            have HQ2 : Hidden (oP = flD (runE (copyF a) 0 l D).1) := ⟨by rw [HQ.out]; unfold andThen; rw [if_pos hz]⟩
            have HFL := Hidden.mk hm.dev.flush
            have HM := Hidden.mk hm
            have HPG := Hidden.mk HY.out.pg
            rw [← HQ2.out] at HFL
            clear hm hz HY HQ
            go_wp2_with fail
            refine HFL.out.mono ?_
            rintro e w4 ⟨rfl, F4, hm4⟩
            have HM4 := Hidden.mk (HM.out.next hm4)
            have HPG4 := Hidden.mk (HPG.out.mod hm4)
            clear hm4 HFL HM HPG
            by_cases h0 : oP.2 = 0
            · rw [h0]
              have HZ := Hidden.mk h0
              clear h0
              go_wp2_with fail
              go_ret2
              exact roAns_ok HM4.out HZ.out rfl HPG4.out (Nat.le_of_eq HPE.out)
            · have HZ := Hidden.mk h0
              have y0 : ((oP.2 : Int) != 0) = true := by simp; omega
              have y1 : ((oP.2 : Int) == 0) = false := by simp; omega
              clear h0
              go_wp2_with fail
              go_ret2
              exact roAns_bad HM4.out HZ.out rfl
end
end Go.Proofs.YtbnobjlphmkgeaaDoor
/- The contract of pages.check. -/
namespace Go.Proofs.YtbnobjlphmkgeaaDoor
open Go.RowKit Go.Maps Go.ChangeMaps

/-- the pages seen so far, as the map has them -/
def seenF (s : List Int) (k : Nat) : Option Value := if (k : Int) ∈ s then some (.bool true) else none
theorem seenF_upd (s : List Int) (k : Nat) : upd (seenF s) k (.bool true) = seenF (s ++ [(k : Int)]) := by
  funext x
  unfold upd seenF
  by_cases hx : x = k
  · rw [if_pos hx, if_pos (by simp [hx])]
  · rw [if_neg hx]
    by_cases hs : (x : Int) ∈ s
    · rw [if_pos hs, if_pos (List.mem_append.2 (.inl hs))]
    · rw [if_neg hs, if_neg (by simp [hs]; omega)]
theorem zero_bool (w : World) : (zeroValue 4).run Tryd.prog w = .ok (.bool false) w := by kernel_rfl
theorem chk_step (n : Nat) (m : List (Int × Bytes)) (k : Nat) (hk : k < m.length) : chkL n ((m.take k).map (·.1)) (m.drop k) = if m[k].1 < 0 ∨ (n : Int) ≤ m[k].1 then 1 else if m[k].2.length ≠ 32 then 3 else if m[k].1 ∈ (m.take k).map (·.1) then 7 else chkL n ((m.take (k + 1)).map (·.1)) (m.drop (k + 1)) := by
  rw [List.drop_eq_getElem_cons hk, List.take_succ_eq_append_getElem hk, List.map_append]
  rfl
structure ChkSt (w wr : World) (mb n : Nat) (m : List (Int × Bytes)) (k : Nat) : Prop where
  im : IM Tryd.prog 3 natL wr mb (seenF ((m.take k).map (·.1))) k
  bel : Below w.heap.size w wr
  new : w.heap.size ≤ mb
  eq : chkL n [] m = chkL n ((m.take k).map (·.1)) (m.drop k)
section
variable {w0 w : World} {F : Nat → Prop} {p d st n : Nat}
set_option maxRecDepth 100000 in
theorem pcheck_any (hp : PgH w F p d st n) (hn : n ≤ 200) (A : Option Addr) (m c : Nat) (L : List PgX) (hm : L.length = m) (_hmc : m ≤ c) (hr : RdX pcells 2 w A L) :
    Calls Tryd.prog 39 #[.pointer (some ⟨p, 0, none⟩), .slice A m c] w fun e w' => e = .returned (errV (chkP n (pgs L))) ∧ Below w.heap.size w w' := by
  have hpl : (pgs L).length = m := by simp [pgs, hm]
  by_cases h23 : 23 < m
  · have e : chkP n (pgs L) = 4 := by unfold chkP; rw [if_pos (by omega)]
    rw [e]
    have t1 : decide (23 < (m : Int)) = true := by simp; omega
    have t2 : decide (23 < m) = true := by simpa using h23
    clear hr hm hpl e h23
    go_enter Tryd.func39, Tryd.ntmps39
    go_wp2_with fail
    go_ret
    exact ⟨rfl, Below.refl _ _⟩
  · have HE : Hidden (chkP n (pgs L) = chkL n [] (pgs L)) := ⟨by unfold chkP; rw [if_neg (by omega)]⟩
    have t1 : decide (23 < (m : Int)) = false := by simp; omega
    have t2 : decide (23 < m) = false := by simp; omega
    have hm23 : m ≤ 23 := by omega
    have HM := Hidden.mk hm
    have HPL := Hidden.mk hpl
    have HR := Hidden.mk hr
    have HP := Hidden.mk hp
    have hmm := @run_makeMap Tryd.prog
    have HST : Hidden (ChkSt w (w.alloc (.map #[] 0)) w.heap.size n (pgs L) 0) := ⟨⟨IM.made w, (Below.refl _ _).alloc (Nat.le_refl _) _, Nat.le_refl _, rfl⟩⟩
    generalize chkP n (pgs L) = E at *
    clear hr hm hpl h23 hp
    go_enter Tryd.func39, Tryd.ntmps39
    go_wp2_with fail
    clear hmm
    go_loopg [15] m (fun r i wr => ∃ k : Nat, k ≤ m ∧ r = m - k ∧ i = .int .i64 (k : Int) ∧ Hidden (ChkSt w wr w.heap.size n (pgs L) k))
    case atStart => exact ⟨0, by omega, rfl, rfl, HST⟩
    case round =>
      obtain ⟨k, hk, rfl, rfl, hst⟩ := hrel
      by_cases hlt : k < m
      · have i0 : (0 : Int) ≤ k := by omega
        have i1 : (k : Int) < m := by omega
        have hkl : k < L.length := by rw [HM.out]; exact hlt
        obtain ⟨pb, off, rfl, hc⟩ := HR.out k hkl
        have e0 := hc 0 _ rfl
        have e1 := hc 1 _ rfl
        rw [Nat.add_zero] at e0
        have plt := block_lt_of_cell e0
        have c0 := (hst.out.bel.cell (p := ⟨pb, off + k * 2, none⟩) plt).trans e0
        have c1 := (hst.out.bel.cell (p := ⟨pb, off + k * 2 + 1, none⟩) plt).trans e1
        have hcs := chk_step n (pgs L) k (by rw [HPL.out]; exact hlt)
        have hpk : (pgs L)[k]'(by rw [HPL.out]; exact hlt) = (L[k].num, L[k].body) := by simp [pgs]
        have htk := pgs_take L k hkl
        rw [hpk] at hcs
        have HEQ := Hidden.mk (show E = _ from HE.out.trans (hst.out.eq.trans hcs))
        have HTK := Hidden.mk (show ((pgs L).take (k + 1)).map (·.1) = ((pgs L).take k).map (·.1) ++ [L[k].num] by rw [htk]; simp)
        have HIM := Hidden.mk hst.out.im
        have HBL := Hidden.mk hst.out.bel
        have HEQ2 := Hidden.mk hst.out.eq
        have HPC := Hidden.mk (HP.out.below hst.out.bel)
        have HB2 := Hidden.mk (hst.out.bel.alloc hst.out.bel.size (.cells #[.int .i64 L[k].num, .slice L[k].A L[k].body.length L[k].cap] 43))
        have hbx := heap_alloc_new wr (.cells #[.int .i64 L[k].num, .slice L[k].A L[k].body.length L[k].cap] 43)
        have him := Below.heap_alloc wr (.cells #[.int .i64 L[k].num, .slice L[k].A L[k].body.length L[k].cap] 43) w.heap.size hst.out.im.lt
        have hp2 := (HPC.out.below ((Below.refl _ wr).alloc (Nat.le_refl _) (.cells #[.int .i64 L[k].num, .slice L[k].A L[k].body.length L[k].cap] 43))).cell.2.2
        have HIM2 := Hidden.mk (hst.out.im.block him)
        generalize L[k] = x at *
        obtain ⟨num, xA, xc, body⟩ := x
        dsimp only at *
        generalize ((pgs L).take k).map (·.1) = S at *
        clear hst e0 e1 hc hcs hpk htk him HIM HBL HPC HST plt
        have b0 : (wr.alloc (.cells #[.int .i64 num, .slice xA body.length xc] 43)).cell? ⟨wr.heap.size, 0, none⟩ = some (.int .i64 num) := by simp only [World.cell?]; rw [hbx]; rfl
        have b1 : (wr.alloc (.cells #[.int .i64 num, .slice xA body.length xc] 43)).cell? ⟨wr.heap.size, 1, none⟩ = some (.slice xA body.length xc) := by simp only [World.cell?]; rw [hbx]; rfl
        clear hbx
        go_upto_region 7 with (fail)
        generalize wr.alloc (.cells #[.int .i64 num, .slice xA body.length xc] 43) = W2 at *
        generalize wr.heap.size = bx at *
        by_cases n0 : num < 0
        · have d1 : decide (num < 0) = true := by simpa using n0
          have HV := Hidden.mk (show E = 1 by rw [HEQ.out, if_pos (.inl n0)])
          clear n0 HEQ HEQ2 HTK HIM2 c0 c1
          go_quiet (fail)
          go_wp2_with fail
          go_ret
          exact ⟨by rw [HV.out]; rfl, below_drewN HB2.out _⟩
        by_cases n1 : (n : Int) ≤ num
        · have d1 : decide (num < 0) = false := by simpa using n0
          have d2 : decide ((n : Int) ≤ num) = true := by simpa using n1
          have HV := Hidden.mk (show E = 1 by rw [HEQ.out, if_pos (.inr n1)])
          clear n0 n1 HEQ HEQ2 HTK HIM2 c0 c1
          go_quiet (fail)
          go_wp2_with fail
          go_ret
          exact ⟨by rw [HV.out]; rfl, below_drewN HB2.out _⟩
        obtain ⟨kk, rfl⟩ := Int.eq_ofNat_of_zero_le (show 0 ≤ num by omega)
        have hkn : kk < n := by omega
        have d1 : decide ((kk : Int) < 0) = false := by simp
        have d2 : decide ((n : Int) ≤ kk) = false := by simp; omega
        have d3 : decide (n ≤ kk) = false := by simp; omega
        have HEQ := Hidden.mk (show E = if body.length ≠ 32 then 3 else if (kk : Int) ∈ S then 7 else chkL n (((pgs L).take (k + 1)).map (·.1)) ((pgs L).drop (k + 1)) by rw [HEQ.out, if_neg (by omega)])
        clear n0 n1
        go_quiet (fail)
        have HB3 := Hidden.mk (below_drewN HB2.out nq)
        have HIM3 := Hidden.mk (HIM2.out.block (w' := W2.drewN nq) rfl)
        have b0' : (W2.drewN nq).cell? ⟨bx, 0, none⟩ = some (.int .i64 (kk : Int)) := b0
        have b1' : (W2.drewN nq).cell? ⟨bx, 1, none⟩ = some (.slice xA body.length xc) := b1
        generalize W2.drewN nq = W3 at *
        clear b0 b1 hp2 HB2 HIM2
        by_cases h32 : body.length = 32
        · have d4 : ((body.length : Int) != 32) = false := by simp [h32]
          have HEQ := Hidden.mk (show E = if (kk : Int) ∈ S then 7 else chkL n (((pgs L).take (k + 1)).map (·.1)) ((pgs L).drop (k + 1)) by rw [HEQ.out, if_neg (by omega)])
          clear h32
          by_cases hS : (kk : Int) ∈ S
          · have hf : seenF S kk = some (.bool true) := by unfold seenF; rw [if_pos hS]
            have hl := (HIM3.out.look_some int_keyed (T := 101) Tryd.underlying101 (zero_bool W3) (int_key (n := kk) (by omega)) hf).2
            have HV := Hidden.mk (show E = 7 by rw [HEQ.out, if_pos hS])
            clear hS hf HEQ HEQ2 HTK HIM3 c0 c1
            go_wp2_with fail
            go_ret
            exact ⟨by rw [HV.out]; rfl, HB3.out⟩
          · have hf : seenF S kk = none := by unfold seenF; rw [if_neg hS]
            have hl := (HIM3.out.look_none int_keyed (T := 101) Tryd.underlying101 (zero_bool W3) (int_key (n := kk) (by omega)) hf).2
            obtain ⟨W4, hrun, him4, hg4, hs4⟩ := HIM3.out.store int_keyed natL_inj (T := 101) Tryd.underlying101 (by simp only [maxLen]; omega) (int_key (n := kk) (by omega)) (.bool true)
            rw [seenF_upd, hf, if_neg (by simp), ← HTK.out] at him4
            have hB4 : Below w.heap.size w W4 := HB3.out.grown hg4 HB3.out.size (fun q hq => Nat.le_of_eq (Option.some.inj hq))
            have HN : Hidden (ChkSt w W4 w.heap.size n (pgs L) (k + 1)) := ⟨him4, hB4, Nat.le_refl _, by rw [← HE.out, HEQ.out, if_neg hS]⟩
            clear hS hf HEQ HEQ2 HTK HIM3 c0 c1 him4 hB4 hg4 hs4
            go_wp2_with fail
            go_roundg (m - (k + 1))
            case measure => omega
            case rel => exact ⟨k + 1, by omega, rfl, by go_num, HN⟩
        · have d4 : ((body.length : Int) != 32) = true := by simp; omega
          have HV := Hidden.mk (show E = 3 by rw [HEQ.out, if_pos h32])
          clear h32 HEQ HEQ2 HTK HIM3 c0 c1
          go_wp2_with fail
          go_ret
          exact ⟨by rw [HV.out]; rfl, HB3.out⟩
      · obtain rfl : k = m := by omega
        have HV : Hidden (E = 0) := ⟨by rw [HE.out, hst.out.eq, List.drop_of_length_le (by rw [HPL.out]; exact Nat.le_refl _)]; rfl⟩
        have HB := Hidden.mk hst.out.bel
        clear hst HST
        go_wp2_with fail
        go_ret
        exact ⟨by rw [HV.out]; rfl, HB.out⟩
end
end Go.Proofs.YtbnobjlphmkgeaaDoor
/- The contracts of package pages: write, with each of its two functions. -/
namespace Go.Proofs.YtbnobjlphmkgeaaDoor
open Go.RowKit Go.Maps Go.ChangeMaps

/-- pages that lie in memory, none of them in a device's blocks -/
structure PgsR (w : World) (F : Nat → Prop) (A : Option Addr) (L : List PgX) : Prop where
  rd : RdX pcells 2 w A L
  na : 0 < L.length → ∀ ad, A = some ad → ¬ F ad.block
  body : ∀ x ∈ L, Rd w x.A x.body
  nb : ∀ x ∈ L, 0 < x.body.length → ∀ ad, x.A = some ad → ¬ F ad.block
section
variable {w0 w w' : World} {F F' : Nat → Prop} {p d st n : Nat} {D : Dv} {A : Option Addr} {L : List PgX}
theorem PgsR.below (h : PgsR w F A L) (hb : Below w.heap.size w w') : PgsR w' F A L := ⟨h.rd.below hb, h.na, fun x hx => (h.body x hx).below hb, h.nb⟩
theorem RdX.lt_ (h : RdX pcells 2 w A L) (hl : 0 < L.length) : ∀ ad, A = some ad → ad.block < w.heap.size := fun ad e => by
  obtain ⟨b, off, hA, hc⟩ := h 0 hl
  rw [hA] at e
  obtain rfl := Option.some.inj e
  exact block_lt_of_cell (hc 0 _ rfl)
theorem PgsR.mod (h : PgsR w F A L) (hk : Keep F w w') (hF : ∀ k, F' k → F k ∨ w.heap.size ≤ k) : PgsR w' F' A L := by
  refine ⟨fun i hi => ?_, fun hl ad e hf => ?_, fun x hx => ?_, fun x hx h32 ad e hf => ?_⟩
  · have hna := h.na (by omega)
    obtain ⟨b, off, rfl, hc⟩ := h.rd i hi
    exact ⟨b, off, rfl, fun q u hq => (World.cell?_of_block (w := w) (hk.block b (block_lt_of_cell (hc q u hq)) (hna _ rfl))).trans (hc q u hq)⟩
  · rcases hF _ hf with h' | h'
    · exact h.na hl ad e h'
    · have := h.rd.lt_ hl ad e; omega
  · by_cases h0 : 0 < x.body.length
    · exact hk.rd (h.body x hx) (fun ad e => h.nb x hx h0 ad e)
    · have : x.body = [] := List.eq_nil_of_length_eq_zero (by omega)
      rw [this]; exact Rd.nil_
  · rcases hF _ hf with h' | h'
    · exact h.nb x hx h32 ad e h'
    · obtain ⟨q, off, e2, hq⟩ := (h.body x hx).lt (by omega)
      rw [e2] at e
      obtain rfl := Option.some.inj e
      dsimp only at h'; omega
/-- so many bodies are written -/
structure WrSt (w0 w wr : World) (F F' : Nat → Prop) (d p st n : Nat) (f : Nat → Int × Bytes → Dv → Dv × Nat) (D : Dv) (A : Option Addr) (L : List PgX) (k : Nat) (ab : Nat) (v : Value) : Prop where
  m : PdM w0 w wr F F' d (runE f 0 ((pgs L).take k) D).1
  z : (runE f 0 ((pgs L).take k) D).2 = 0
  pg : PgH wr F' p d st n
  rd : PgsR wr F' A L
  abc : wr.cell? ⟨ab, 0, none⟩ = some v
  nab : ¬ F' ab
theorem WrSt.next {wr w4 : World} {F4 : Nat → Prop} {f : Nat → Int × Bytes → Dv → Dv × Nat} {k ab : Nat} {v : Value} (h : WrSt w0 w wr F F' d p st n f D A L k ab v) (hk : k < L.length) (hm : PdM w0 wr w4 F' F4 d (f k (L[k].num, L[k].body) (runE f 0 ((pgs L).take k) D).1).1)
    (h0 : (f k (L[k].num, L[k].body) (runE f 0 ((pgs L).take k) D).1).2 = 0) : WrSt w0 w w4 F F4 d p st n f D A L (k + 1) ab v := by
  have hpl : k < (pgs L).length := by simpa [pgs] using hk
  have hpk : (pgs L)[k] = (L[k].num, L[k].body) := by simp [pgs]
  have hs := (runE_step f (pgs L) 0 k D hpl h.z).1
  rw [hpk, Nat.zero_add] at hs
  have e := hs h0
  have hlt := block_lt_of_cell h.abc
  exact ⟨by rw [e]; exact h.m.next hm, by rw [e]; exact h0, h.pg.mod hm, h.rd.mod hm.kp hm.sub, (World.cell?_of_block (w := wr) (hm.kp.block ab hlt h.nab)).trans h.abc, fun hf => by
    rcases hm.sub _ hf with h' | h'
    · exact h.nab h'
    · dsimp only at hlt; omega⟩
theorem WrSt.stop {wr : World} {f : Nat → Int × Bytes → Dv → Dv × Nat} {k ab : Nat} {v : Value} (h : WrSt w0 w wr F F' d p st n f D A L k ab v) (hk : k < L.length)
    (h0 : (f k (L[k].num, L[k].body) (runE f 0 ((pgs L).take k) D).1).2 ≠ 0) : andThen (runE f 0 (pgs L) D) flD = f k (L[k].num, L[k].body) (runE f 0 ((pgs L).take k) D).1 := by
  have hpl : k < (pgs L).length := by simpa [pgs] using hk
  have hpk : (pgs L)[k] = (L[k].num, L[k].body) := by simp [pgs]
  have hs := (runE_step f (pgs L) 0 k D hpl h.z).2
  rw [hpk, Nat.zero_add] at hs
  unfold andThen
  rw [hs h0, if_neg h0]
end
/-- what is said of a device that was written to -/
def WrAns (w0 w : World) (F : Nat → Prop) (d : Nat) (r : Dv × Nat) (e : Ending) (w' : World) : Prop := e = .returned (errV r.2) ∧ ∃ F', PdM w0 w w' F F' d r.1
theorem wrAns_mk {w0 w w' : World} {F F' : Nat → Prop} {d : Nat} {r : Dv × Nat} {e : Ending} (h : e = .returned (errV r.2)) (hm : PdM w0 w w' F F' d r.1) : WrAns w0 w F d r e w' := ⟨h, F', hm⟩
theorem clo1_any (k a ab : Nat) (num : Int) (xA : Option Addr) (m xc : Nat) (W : World) (ha : a < 2) (hk : k ≤ 100) (hc : W.cell? ⟨ab, 0, none⟩ = some (.int .i64 (a : Int))) :
    Calls Tryd.prog 42 #[.int .i64 (k : Int), .agg #[.int .i64 num, .slice xA m xc], .pointer (some ⟨ab, 0, none⟩)] W fun e w' => e = .returned (.int .i64 ((areaP a k : Nat) : Int)) ∧ Below W.heap.size W w' := by
  have HB := Hidden.mk ((Below.refl W.heap.size W).alloc (Nat.le_refl _) (.cells #[.int .i64 num, .slice xA m xc] 43))
  have hc2 := (HB.out.cell (p := ⟨ab, 0, none⟩) (block_lt_of_cell hc)).trans hc
  clear hc
  go_enter Tryd.func42, Tryd.ntmps42
  go_wp2_with fail
  refine (area_any a k _ ha hk).mono ?_
  rintro e w1 ⟨rfl, rfl⟩
  go_wp2_with fail
  go_ret
  exact ⟨rfl, HB.out⟩
theorem clo2_any (k : Nat) (num : Int) (xA : Option Addr) (m xc : Nat) (W : World) (h0 : 0 ≤ num) (h1 : num ≤ 1000) :
    Calls Tryd.prog 44 #[.int .i64 (k : Int), .agg #[.int .i64 num, .slice xA m xc]] W fun e w' => e = .returned (.int .i64 (48 + num)) ∧ Below W.heap.size W w' := by
  have HB := Hidden.mk ((Below.refl W.heap.size W).alloc (Nat.le_refl _) (.cells #[.int .i64 num, .slice xA m xc] 43))
  have s1 : IntKind.i64.wrap (48 + num) = 48 + num := IntWalk.i64_in _ (by omega)
  go_enter Tryd.func44, Tryd.ntmps44
  go_wp2_with fail
  go_ret
  exact ⟨rfl, HB.out⟩
set_option maxRecDepth 100000 in
theorem pwrite1_any {w0 w : World} {F : Nat → Prop} {p d st n : Nat} {D : Dv} (h : DevB w0 w F d D) (hp : PgH w F p d st n) (A : Option Addr) (m c : Nat) (L : List PgX) (hm : L.length = m) (hm23 : m ≤ 23) (hr : PgsR w F A L) (hL : ∀ x ∈ L, 0 ≤ x.num ∧ x.num ≤ 1000)
    (ab a : Nat) (_ha : a < 2) (hab : w.cell? ⟨ab, 0, none⟩ = some (.int .i64 (a : Int))) (hnab : ¬ F ab) :
    Calls Tryd.prog 41 #[.pointer (some ⟨p, 0, none⟩), .slice A m c, .func (.func 42) #[] #[.pointer (some ⟨ab, 0, none⟩)]] w (WrAns w0 w F d (andThen (runE (areaF a) 0 (pgs L) D) flD)) := by
  have ha := _ha
  have HM := Hidden.mk hm
  have HL := Hidden.mk hL
  have HST : Hidden (WrSt w0 w w F F d p st n (areaF a) D A L 0 ab (.int .i64 (a : Int))) := ⟨⟨PdM.refl h, rfl, hp, hr, hab, hnab⟩⟩
  have HQ : Hidden (∀ X, runE (areaF a) 0 (pgs L) D = X → X.2 = 0 → andThen (runE (areaF a) 0 (pgs L) D) flD = flD X.1) := ⟨fun X e h0 => by unfold andThen; rw [e, if_pos h0]⟩
  have HSP : Hidden (∀ (wr : World) (F' : Nat → Prop) (k : Nat) (hk : k < L.length), WrSt w0 w wr F F' d p st n (areaF a) D A L k ab (.int .i64 (a : Int)) → ((areaF a) k (L[k].num, L[k].body) (runE (areaF a) 0 ((pgs L).take k) D).1).2 ≠ 0 → andThen (runE (areaF a) 0 (pgs L) D) flD = (areaF a) k (L[k].num, L[k].body) (runE (areaF a) 0 ((pgs L).take k) D).1) := ⟨fun wr F' k hk hst h0 => hst.stop hk h0⟩
  generalize andThen (runE (areaF a) 0 (pgs L) D) flD = oP at *
  clear h hp hm hr hL hab hnab _ha
  go_enter Tryd.func41, Tryd.ntmps41
  go_wp2_with fail
  go_loopg [12] m (fun r i wr => ∃ (k : Nat) (F' : Nat → Prop), k ≤ m ∧ r = m - k ∧ i = .int .i64 (k : Int) ∧ Hidden (WrSt w0 w wr F F' d p st n (areaF a) D A L k ab (.int .i64 (a : Int))))
  case atStart => exact ⟨0, F, by omega, rfl, rfl, HST⟩
  case round =>
    obtain ⟨k, F', hk, rfl, rfl, hst⟩ := hrel
    by_cases hlt : k < m
    · have i0 : (0 : Int) ≤ k := by omega
      have i1 : (k : Int) < m := by omega
      have hkl : k < L.length := by rw [HM.out]; exact hlt
      obtain ⟨pb, off, rfl, hc⟩ := hst.out.rd.rd k hkl
      have c0 := hc 0 _ rfl
      have c1 := hc 1 _ rfl
      rw [Nat.add_zero] at c0
      have hal := (Below.refl wr.heap.size wr).alloc (Nat.le_refl _) (.cells #[.int .i64 L[k].num, .slice L[k].A L[k].body.length L[k].cap] 43)
      have hbx := heap_alloc_new wr (.cells #[.int .i64 L[k].num, .slice L[k].A L[k].body.length L[k].cap] 43)
      have HNUM := Hidden.mk (HL.out L[k] (List.getElem_mem hkl))
      have HSTOP := Hidden.mk (HSP.out wr F' k hkl hst.out)
      have HNEXT : Hidden (∀ (w4 : World) (F4 : Nat → Prop), PdM w0 wr w4 F' F4 d ((areaF a) k (L[k].num, L[k].body) (runE (areaF a) 0 ((pgs L).take k) D).1).1 → ((areaF a) k (L[k].num, L[k].body) (runE (areaF a) 0 ((pgs L).take k) D).1).2 = 0 → WrSt w0 w w4 F F4 d p st n (areaF a) D (some ⟨pb, off, none⟩) L (k + 1) ab (.int .i64 (a : Int))) := ⟨fun w4 F4 hm h0 => hst.out.next hkl hm h0⟩
      have hbody := hst.out.rd.body L[k] (List.getElem_mem hkl)
      have hnb := hst.out.rd.nb L[k] (List.getElem_mem hkl)
      have HFE : Hidden (∀ x : Int × Bytes, (areaF a) k x (runE (areaF a) 0 ((pgs L).take k) D).1 = wrD (runE (areaF a) 0 ((pgs L).take k) D).1 ((areaP a k : Nat) : Int) x.2) := ⟨fun _ => rfl⟩
      have hm1 := hst.out.m
      have hpg := hst.out.pg
      have habc := hst.out.abc
      have hnab := hst.out.nab
      have HMP := Hidden.mk hm1
      generalize (runE (areaF a) 0 ((pgs L).take k) D).1 = Dk at *
      generalize L[k] = x at *
      obtain ⟨num, xA, xc, body⟩ := x
      dsimp only at *
      have HB2 := Hidden.mk hal
      have HAW := Hidden.mk (hm1.dev.below hal)
      have habc2 := (hal.cell (p := ⟨ab, 0, none⟩) (block_lt_of_cell habc)).trans habc
      have hp2 := (hpg.below hal)
      obtain ⟨y0, -, -⟩ := hp2.cell
      have hrb := hbody.below hal
      have b0 : (wr.alloc (.cells #[.int .i64 num, .slice xA body.length xc] 43)).cell? ⟨wr.heap.size, 0, none⟩ = some (.int .i64 num) := by simp only [World.cell?]; rw [hbx]; rfl
      have b1 : (wr.alloc (.cells #[.int .i64 num, .slice xA body.length xc] 43)).cell? ⟨wr.heap.size, 1, none⟩ = some (.slice xA body.length xc) := by simp only [World.cell?]; rw [hbx]; rfl
      have hbxF : ¬ F' wr.heap.size := fun hf => by have := hm1.dev.flt _ hf; omega
      have hblt := (Array.getElem?_eq_some_iff.1 hbx).1
      have hplt := hp2.lt
      generalize hW2 : wr.alloc (.cells #[.int .i64 num, .slice xA body.length xc] 43) = W2 at *
      have HW2 := Hidden.mk hW2
      have KS : Hidden (∀ W, Keep F' W2 W → W.cell? ⟨p, 0, none⟩ = some (.pointer (some ⟨d, 0, none⟩)) ∧ W.cell? ⟨wr.heap.size, 0, none⟩ = some (.int .i64 num) ∧ W.cell? ⟨wr.heap.size, 1, none⟩ = some (.slice xA body.length xc)) := ⟨fun W hk => by
        have q1 := hk.block p hplt hp2.2
        have q2 := hk.block wr.heap.size hblt hbxF
        exact ⟨(World.cell?_of_block (w := W2) (a := ⟨p, 0, none⟩) q1).trans y0, (World.cell?_of_block (w := W2) (a := ⟨wr.heap.size, 0, none⟩) q2).trans b0, (World.cell?_of_block (w := W2) (a := ⟨wr.heap.size, 1, none⟩) q2).trans b1⟩⟩
      have KAB : Hidden (W2.drew.cell? ⟨ab, 0, none⟩ = some (.int .i64 (a : Int))) := ⟨habc2⟩
      have KRB := Hidden.mk hrb
      have KNB := Hidden.mk hnb
      clear hst hc hal hbx hbody hnb hm1 hpg habc habc2 hnab hp2 y0 hrb b0 b1 hbxF hblt hplt HSP
      subst hW2
      have HFE2 := Hidden.mk (HFE.out (num, body))
      go_upto_region 4 with (fail)
      generalize wr.alloc (.cells #[.int .i64 num, .slice xA body.length xc] 43) = W2 at *
      go_region_held3 (fun W => W.cell? ⟨p, 0, none⟩ = some (.pointer (some ⟨d, 0, none⟩)) ∧ W.cell? ⟨wr.heap.size, 0, none⟩ = some (.int .i64 num) ∧ W.cell? ⟨wr.heap.size, 1, none⟩ = some (.slice xA body.length xc)) (first | exact KS.out _ (Keep.refl _ _) | exact KS.out _ ((Keep.refl _ _).drewN 1) | exact KS.out _ (Keep.of_below (((Below.refl _ _).drew).trans hb3)) | exact KS.out _ ((Keep.of_below (((Below.refl _ _).drew).trans hb3)).trans hk4 (fun _ h => .inl h)))
        (first
          | ((go_at_call 42; refine (clo1_any k a ab _ _ _ _ _ ha (by omega) KAB.out).mono ?_; rintro e w3 ⟨rfl, hb3⟩))
          | ((go_at_call 32; refine ((HAW.out.below (((Below.refl _ _).drew).trans hb3)).write_all _ xA body.length xc body rfl (KRB.out.below (((Below.refl _ _).drew).trans hb3)) (fun h32 => KNB.out (by omega))).mono ?_; rintro e w4 ⟨rfl, F4, hd4, hk4, hF4⟩)))
      all_goals
        have hB3 : Below wr.heap.size wr w3 := HB2.out.trans ((((Below.refl _ _).drew).trans hb3).mono HB2.out.size)
        have HM4 : Hidden (PdM w0 wr w4 F' F4 d (wrD Dk ((areaP a k : Nat) : Int) body).1) := ⟨⟨hd4, (Keep.of_below hB3).trans hk4 (fun _ h => .inl h), fun q hq => by
          rcases hF4 q hq with h' | h'
          · exact .inl h'
          · exact .inr (Nat.le_trans hB3.size h')⟩⟩
        have HNEXT := HNEXT.out w4 F4
        have HSTOP := HSTOP.out
        rw [HFE2.out] at HNEXT HSTOP
        try dsimp only at HNEXT HSTOP
        have HNEXT := Hidden.mk (HNEXT HM4.out)
        have HSTOP := Hidden.mk HSTOP
        have HMT := Hidden.mk (HMP.out.next HM4.out)
        clear hB3 hb3 hd4 hk4 hF4 HFE HFE2 HM4 HMP HB2 KS HAW c0 c1
        generalize wrD Dk ((areaP a k : Nat) : Int) body = cf at *
        by_cases h0 : cf.2 = 0
        · have HN := Hidden.mk (HNEXT.out h0)
          rw [h0, errV0]
          clear h0 HNEXT HSTOP
          go_wp2_with fail
          go_roundg (m - (k + 1))
          case measure => omega
          case rel => exact ⟨k + 1, F4, by omega, rfl, by go_num, HN⟩
        · have HN := Hidden.mk (HSTOP.out h0)
          have HEV := Hidden.mk (errV_pos h0)
          rw [HEV.out]
          clear h0 HNEXT HSTOP
          go_wp2_with fail
          go_ret
          exact wrAns_mk (F' := F4) (by rw [HN.out, HEV.out]; rfl) (by rw [HN.out]; exact HMT.out)
    · obtain rfl : k = m := by omega
      have htk : (pgs L).take k = pgs L := List.take_of_length_le (by simp [pgs, HM.out])
      have hz := hst.out.z
      have hm1 := hst.out.m
      rw [htk] at hz hm1
      have HQ2 := Hidden.mk (HQ.out _ rfl hz)
      have HFL := Hidden.mk hm1.dev.flush_all
      rw [← HQ2.out] at HFL
      have HM1 := Hidden.mk hm1
      obtain ⟨y0, -, -⟩ := hst.out.pg.cell
      clear hst htk hz hm1 HQ HSP HST
      go_wp2_with fail
      refine HFL.out.mono ?_
      rintro e w4 ⟨rfl, hd4, hk4⟩
      have HM4 := Hidden.mk (HM1.out.next (⟨hd4, hk4, fun _ hk => .inl hk⟩ : PdM w0 wr w4 F' F' d _))
      clear hd4 hk4 HFL HM1
      go_wp2_with fail
      go_ret
      exact wrAns_mk rfl HM4.out
set_option maxRecDepth 100000 in
theorem pwrite2_any {w0 w : World} {F : Nat → Prop} {p d st n : Nat} {D : Dv} (h : DevB w0 w F d D) (hp : PgH w F p d st n) (A : Option Addr) (m c : Nat) (L : List PgX) (hm : L.length = m) (hm23 : m ≤ 23) (hr : PgsR w F A L) (hL : ∀ x ∈ L, 0 ≤ x.num ∧ x.num ≤ 1000)
    (ab a : Nat) (_ha : a < 2) (hab : w.cell? ⟨ab, 0, none⟩ = some (.int .i64 (a : Int))) (hnab : ¬ F ab) :
    Calls Tryd.prog 41 #[.pointer (some ⟨p, 0, none⟩), .slice A m c, .func (.func 44) #[] #[]] w (WrAns w0 w F d (andThen (runE pageF 0 (pgs L) D) flD)) := by
  have ha := _ha
  have HM := Hidden.mk hm
  have HL := Hidden.mk hL
  have HST : Hidden (WrSt w0 w w F F d p st n pageF D A L 0 ab (.int .i64 (a : Int))) := ⟨⟨PdM.refl h, rfl, hp, hr, hab, hnab⟩⟩
  have HQ : Hidden (∀ X, runE pageF 0 (pgs L) D = X → X.2 = 0 → andThen (runE pageF 0 (pgs L) D) flD = flD X.1) := ⟨fun X e h0 => by unfold andThen; rw [e, if_pos h0]⟩
  have HSP : Hidden (∀ (wr : World) (F' : Nat → Prop) (k : Nat) (hk : k < L.length), WrSt w0 w wr F F' d p st n pageF D A L k ab (.int .i64 (a : Int)) → (pageF k (L[k].num, L[k].body) (runE pageF 0 ((pgs L).take k) D).1).2 ≠ 0 → andThen (runE pageF 0 (pgs L) D) flD = pageF k (L[k].num, L[k].body) (runE pageF 0 ((pgs L).take k) D).1) := ⟨fun wr F' k hk hst h0 => hst.stop hk h0⟩
  generalize andThen (runE pageF 0 (pgs L) D) flD = oP at *
  clear h hp hm hr hL hab hnab _ha
  go_enter Tryd.func41, Tryd.ntmps41
  go_wp2_with fail
  go_loopg [12] m (fun r i wr => ∃ (k : Nat) (F' : Nat → Prop), k ≤ m ∧ r = m - k ∧ i = .int .i64 (k : Int) ∧ Hidden (WrSt w0 w wr F F' d p st n pageF D A L k ab (.int .i64 (a : Int))))
  case atStart => exact ⟨0, F, by omega, rfl, rfl, HST⟩
  case round =>
    obtain ⟨k, F', hk, rfl, rfl, hst⟩ := hrel
    by_cases hlt : k < m
    · have i0 : (0 : Int) ≤ k := by omega
      have i1 : (k : Int) < m := by omega
      have hkl : k < L.length := by rw [HM.out]; exact hlt
      obtain ⟨pb, off, rfl, hc⟩ := hst.out.rd.rd k hkl
      have c0 := hc 0 _ rfl
      have c1 := hc 1 _ rfl
      rw [Nat.add_zero] at c0
      have hal := (Below.refl wr.heap.size wr).alloc (Nat.le_refl _) (.cells #[.int .i64 L[k].num, .slice L[k].A L[k].body.length L[k].cap] 43)
      have hbx := heap_alloc_new wr (.cells #[.int .i64 L[k].num, .slice L[k].A L[k].body.length L[k].cap] 43)
      have HNUM := Hidden.mk (HL.out L[k] (List.getElem_mem hkl))
      have HSTOP := Hidden.mk (HSP.out wr F' k hkl hst.out)
      have HNEXT : Hidden (∀ (w4 : World) (F4 : Nat → Prop), PdM w0 wr w4 F' F4 d (pageF k (L[k].num, L[k].body) (runE pageF 0 ((pgs L).take k) D).1).1 → (pageF k (L[k].num, L[k].body) (runE pageF 0 ((pgs L).take k) D).1).2 = 0 → WrSt w0 w w4 F F4 d p st n pageF D (some ⟨pb, off, none⟩) L (k + 1) ab (.int .i64 (a : Int))) := ⟨fun w4 F4 hm h0 => hst.out.next hkl hm h0⟩
      have hbody := hst.out.rd.body L[k] (List.getElem_mem hkl)
      have hnb := hst.out.rd.nb L[k] (List.getElem_mem hkl)
      have HFE : Hidden (∀ x : Int × Bytes, pageF k x (runE pageF 0 ((pgs L).take k) D).1 = wrD (runE pageF 0 ((pgs L).take k) D).1 (48 + x.1) x.2) := ⟨fun _ => rfl⟩
      have hm1 := hst.out.m
      have hpg := hst.out.pg
      have habc := hst.out.abc
      have hnab := hst.out.nab
      have HMP := Hidden.mk hm1
      generalize (runE pageF 0 ((pgs L).take k) D).1 = Dk at *
      generalize L[k] = x at *
      obtain ⟨num, xA, xc, body⟩ := x
      dsimp only at *
      have HB2 := Hidden.mk hal
      have HAW := Hidden.mk (hm1.dev.below hal)
      have habc2 := (hal.cell (p := ⟨ab, 0, none⟩) (block_lt_of_cell habc)).trans habc
      have hp2 := (hpg.below hal)
      obtain ⟨y0, -, -⟩ := hp2.cell
      have hrb := hbody.below hal
      have b0 : (wr.alloc (.cells #[.int .i64 num, .slice xA body.length xc] 43)).cell? ⟨wr.heap.size, 0, none⟩ = some (.int .i64 num) := by simp only [World.cell?]; rw [hbx]; rfl
      have b1 : (wr.alloc (.cells #[.int .i64 num, .slice xA body.length xc] 43)).cell? ⟨wr.heap.size, 1, none⟩ = some (.slice xA body.length xc) := by simp only [World.cell?]; rw [hbx]; rfl
      have hbxF : ¬ F' wr.heap.size := fun hf => by have := hm1.dev.flt _ hf; omega
      have hblt := (Array.getElem?_eq_some_iff.1 hbx).1
      have hplt := hp2.lt
      generalize hW2 : wr.alloc (.cells #[.int .i64 num, .slice xA body.length xc] 43) = W2 at *
      have HW2 := Hidden.mk hW2
      have KS : Hidden (∀ W, Keep F' W2 W → W.cell? ⟨p, 0, none⟩ = some (.pointer (some ⟨d, 0, none⟩)) ∧ W.cell? ⟨wr.heap.size, 0, none⟩ = some (.int .i64 num) ∧ W.cell? ⟨wr.heap.size, 1, none⟩ = some (.slice xA body.length xc)) := ⟨fun W hk => by
        have q1 := hk.block p hplt hp2.2
        have q2 := hk.block wr.heap.size hblt hbxF
        exact ⟨(World.cell?_of_block (w := W2) (a := ⟨p, 0, none⟩) q1).trans y0, (World.cell?_of_block (w := W2) (a := ⟨wr.heap.size, 0, none⟩) q2).trans b0, (World.cell?_of_block (w := W2) (a := ⟨wr.heap.size, 1, none⟩) q2).trans b1⟩⟩
      have KAB : Hidden (W2.drew.cell? ⟨ab, 0, none⟩ = some (.int .i64 (a : Int))) := ⟨habc2⟩
      have KRB := Hidden.mk hrb
      have KNB := Hidden.mk hnb
      clear hst hc hal hbx hbody hnb hm1 hpg habc habc2 hnab hp2 y0 hrb b0 b1 hbxF hblt hplt HSP
      subst hW2
      have HFE2 := Hidden.mk (HFE.out (num, body))
      go_upto_region 4 with (fail)
      generalize wr.alloc (.cells #[.int .i64 num, .slice xA body.length xc] 43) = W2 at *
      go_region_held3 (fun W => W.cell? ⟨p, 0, none⟩ = some (.pointer (some ⟨d, 0, none⟩)) ∧ W.cell? ⟨wr.heap.size, 0, none⟩ = some (.int .i64 num) ∧ W.cell? ⟨wr.heap.size, 1, none⟩ = some (.slice xA body.length xc)) (first | exact KS.out _ (Keep.refl _ _) | exact KS.out _ ((Keep.refl _ _).drewN 1) | exact KS.out _ (Keep.of_below (((Below.refl _ _).drew).trans hb3)) | exact KS.out _ ((Keep.of_below (((Below.refl _ _).drew).trans hb3)).trans hk4 (fun _ h => .inl h)))
        (first
          | ((go_at_call 44; refine (clo2_any k _ _ _ _ _ HNUM.out.1 HNUM.out.2).mono ?_; rintro e w3 ⟨rfl, hb3⟩))
          | ((go_at_call 32; refine ((HAW.out.below (((Below.refl _ _).drew).trans hb3)).write_all _ xA body.length xc body rfl (KRB.out.below (((Below.refl _ _).drew).trans hb3)) (fun h32 => KNB.out (by omega))).mono ?_; rintro e w4 ⟨rfl, F4, hd4, hk4, hF4⟩)))
      all_goals
        have hB3 : Below wr.heap.size wr w3 := HB2.out.trans ((((Below.refl _ _).drew).trans hb3).mono HB2.out.size)
        have HM4 : Hidden (PdM w0 wr w4 F' F4 d (wrD Dk (48 + num) body).1) := ⟨⟨hd4, (Keep.of_below hB3).trans hk4 (fun _ h => .inl h), fun q hq => by
          rcases hF4 q hq with h' | h'
          · exact .inl h'
          · exact .inr (Nat.le_trans hB3.size h')⟩⟩
        have HNEXT := HNEXT.out w4 F4
        have HSTOP := HSTOP.out
        rw [HFE2.out] at HNEXT HSTOP
        try dsimp only at HNEXT HSTOP
        have HNEXT := Hidden.mk (HNEXT HM4.out)
        have HSTOP := Hidden.mk HSTOP
        have HMT := Hidden.mk (HMP.out.next HM4.out)
        clear hB3 hb3 hd4 hk4 hF4 HFE HFE2 HM4 HMP HB2 KS HAW c0 c1
        generalize wrD Dk (48 + num) body = cf at *
        by_cases h0 : cf.2 = 0
        · have HN := Hidden.mk (HNEXT.out h0)
          rw [h0, errV0]
          clear h0 HNEXT HSTOP
          go_wp2_with fail
          go_roundg (m - (k + 1))
          case measure => omega
          case rel => exact ⟨k + 1, F4, by omega, rfl, by go_num, HN⟩
        · have HN := Hidden.mk (HSTOP.out h0)
          have HEV := Hidden.mk (errV_pos h0)
          rw [HEV.out]
          clear h0 HNEXT HSTOP
          go_wp2_with fail
          go_ret
          exact wrAns_mk (F' := F4) (by rw [HN.out, HEV.out]; rfl) (by rw [HN.out]; exact HMT.out)
    · obtain rfl : k = m := by omega
      have htk : (pgs L).take k = pgs L := List.take_of_length_le (by simp [pgs, HM.out])
      have hz := hst.out.z
      have hm1 := hst.out.m
      rw [htk] at hz hm1
      have HQ2 := Hidden.mk (HQ.out _ rfl hz)
      have HFL := Hidden.mk hm1.dev.flush_all
      rw [← HQ2.out] at HFL
      have HM1 := Hidden.mk hm1
      obtain ⟨y0, -, -⟩ := hst.out.pg.cell
      clear hst htk hz hm1 HQ HSP HST
      go_wp2_with fail
      refine HFL.out.mono ?_
      rintro e w4 ⟨rfl, hd4, hk4⟩
      have HM4 := Hidden.mk (HM1.out.next (⟨hd4, hk4, fun _ hk => .inl hk⟩ : PdM w0 wr w4 F' F' d _))
      clear hd4 hk4 HFL HM1
      go_wp2_with fail
      go_ret
      exact wrAns_mk rfl HM4.out
end Go.Proofs.YtbnobjlphmkgeaaDoor
/- The contract of pages.Commit. -/
namespace Go.Proofs.YtbnobjlphmkgeaaDoor
open Go.RowKit Go.Maps Go.ChangeMaps

theorem i64_and1 (n : Int) : bits .and .i64 n 1 = n % 2 := by
  have h1 : (BitVec.ofInt 64 1).toNat = 2 ^ 1 - 1 := by decide
  have key : (BitVec.ofInt 64 n &&& BitVec.ofInt 64 1).toNat = (n % ((2 ^ 64 : Nat) : Int)).toNat % 2 ^ 1 := by
    rw [BitVec.toNat_and, BitVec.toNat_ofInt, h1, Nat.and_two_pow_sub_one_eq_mod]
  show IntKind.i64.wrap ((BitVec.ofInt 64 n &&& BitVec.ofInt 64 1).toNat : Nat) = n % 2
  rw [key, IntKind.wrap_i64]
  omega
/-- pages, their device, and the rest, behind a call on them -/
structure CmM (w0 w w' : World) (F F' : Nat → Prop) (p d st n : Nat) (D : Dv) : Prop where
  dev : DevB w0 w' F' d D
  kp : Keep (fun k => F k ∨ k = p) w w'
  sub : ∀ k, F' k → F k ∨ w.heap.size ≤ k
  pg : PgH w' F' p d st n
section
variable {w0 w w' : World} {F F' : Nat → Prop} {p d st n : Nat} {D : Dv}
theorem Keep.wide {G : Nat → Prop} (h : Keep F w w') (hG : ∀ k, F k → G k) : Keep G w w' := ⟨h.os, h.tape, h.output, h.size, fun k hk hn => h.block k hk (fun hf => hn (hG k hf))⟩
theorem PdM.cm (h : PdM w0 w w' F F' d D) (hp : PgH w' F' p d st n) : CmM w0 w w' F F' p d st n D := ⟨h.dev, h.kp.wide (fun _ hk => .inl hk), h.sub, hp⟩
/-- the stamp is set -/
theorem PdM.stamped (h : PdM w0 w w' F F' d D) (hp : PgH w' F' p d st n) (h0 : w0.heap.size ≤ p) (s : Nat) : CmM w0 w (w'.setCell ⟨p, 1, none⟩ (.int .i64 (s : Int))) F F' p d s n D :=
  ⟨h.dev.other (keep_cell _) hp.2 h0, (h.kp.wide (fun _ hk => .inl hk)).trans (keep_cell (p := p) (o := 1) _) (fun _ e => .inl (.inr e)), h.sub, hp.set s⟩
end
/-- so much of the body of a mark is put together -/
structure BdSt (w1 wr : World) (v : Value) (l : Bytes) (a : Int) : Prop where
  bel : Below w1.heap.size w1 wr
  ab : wr.cell? ⟨w1.heap.size, 0, none⟩ = some (.int .i64 a)
  own : wr.ownsRow (w1.heap.size + 1) 5 1 v l.length (l.map bv)
theorem andThen_ne {a : Dv × Nat} {g : Dv → Dv × Nat} (h : a.2 ≠ 0) : andThen a g = a := by unfold andThen; rw [if_neg h]
theorem andThen_ok {a : Dv × Nat} {g : Dv → Dv × Nat} (h : a.2 = 0) : andThen a g = g a.1 := by unfold andThen; rw [if_pos h]
/-- what a commit keeps at hand -/
structure Rest (w : World) (F : Nat → Prop) (p d st n : Nat) (A : Option Addr) (L : List PgX) (g : Nat) (mk : Bytes) (ab a : Nat) : Prop where
  pg : PgH w F p d st n
  rd : PgsR w F A L
  mr : Rd w (some ⟨g, 0, none⟩) mk
  gl : g < w.heap.size
  ng : ¬ F g
  abc : w.cell? ⟨ab, 0, none⟩ = some (.int .i64 (a : Int))
  nab : ¬ F ab
theorem Rest.mod {w0 w w' : World} {F F' : Nat → Prop} {p d st n : Nat} {A : Option Addr} {L : List PgX} {g : Nat} {mk : Bytes} {ab a : Nat} {D1 : Dv} (h : Rest w F p d st n A L g mk ab a) (hm : PdM w0 w w' F F' d D1) : Rest w' F' p d st n A L g mk ab a := by
  have hlt := block_lt_of_cell h.abc
  have hgl := h.gl
  dsimp only at hlt
  exact ⟨h.pg.mod hm, h.rd.mod hm.kp hm.sub, hm.kp.rd h.mr (fun ad e => by obtain rfl := Option.some.inj e; exact h.ng), Nat.lt_of_lt_of_le h.gl hm.kp.size,
    fun hf => by rcases hm.sub _ hf with h' | h'; exact h.ng h'; omega, (World.cell?_of_block (w := w) (hm.kp.block ab hlt h.nab)).trans h.abc, fun hf => by rcases hm.sub _ hf with h' | h'; exact h.nab h'; omega⟩
/-- what is said of a commit -/
def CmAns (w0 w : World) (F : Nat → Prop) (p d st n : Nat) (L : List PgX) (r : Dv × Nat) (e : Ending) (w' : World) : Prop :=
  e = .returned (errV r.2) ∧ ∃ F', CmM w0 w w' F F' p d (if r.2 = 0 ∧ L.length ≠ 0 then st + 1 else st) n r.1
theorem cmAns_bad {w0 w w' : World} {F F' : Nat → Prop} {p d st n : Nat} {L : List PgX} {r : Dv × Nat} {e : Ending} (h : e = .returned (errV r.2)) (hr : r.2 ≠ 0 ∨ L.length = 0) (hm : CmM w0 w w' F F' p d st n r.1) : CmAns w0 w F p d st n L r e w' :=
  ⟨h, F', by rw [if_neg (by omega)]; exact hm⟩
theorem cmAns_ok {w0 w w' : World} {F F' : Nat → Prop} {p d st n : Nat} {L : List PgX} {r : Dv × Nat} {e : Ending} (h : e = .returned (errV r.2)) (hr : r.2 = 0) (hl : L.length ≠ 0) (hm : CmM w0 w w' F F' p d (st + 1) n r.1) : CmAns w0 w F p d st n L r e w' :=
  ⟨h, F', by rw [if_pos ⟨hr, hl⟩]; exact hm⟩
section
variable {w0 w : World} {F : Nat → Prop} {p d st n : Nat} {D : Dv}
set_option maxRecDepth 100000 in
set_option maxHeartbeats 1000000 in
theorem pcommit_any (h : DevB w0 w F d D) (hp : PgH w F p d st n) (hn : n ≤ 200) (hst : st ≤ 4294967295) (h0 : w0.heap.size ≤ p) (A : Option Addr) (m c : Nat) (L : List PgX) (hm : L.length = m) (hmc : m ≤ c) (hr : PgsR w F A L) :
    Calls Tryd.prog 10 #[.pointer (some ⟨p, 0, none⟩), .slice A m c] w (CmAns w0 w F p d st n L (commitP st n (pgs L) D)) := by
  obtain ⟨c0, c1, c2⟩ := hp.cell
  have hpl : (pgs L).length = m := by simp [pgs, hm]
  have HCK := Hidden.mk (pcheck_any hp hn A m c L hm hmc hr.rd)
  have HM := Hidden.mk (PdM.refl h)
  have HP := Hidden.mk hp
  have HR := Hidden.mk hr
  have HLM := Hidden.mk hm
  have H0 := Hidden.mk h0
  have HV : Hidden (commitP st n (pgs L) D = if chkP n (pgs L) ≠ 0 then (D, chkP n (pgs L)) else if D.down = true then (D, 9) else if (pgs L).length = 0 then (D, 0) else if 4294967295 < st + 1 then (D, 1) else
    andThen (andThen (andThen (andThen (andThen (runE (areaF ((st + 1) % 2)) 0 (pgs L) D) flD) (markF ((st + 1) % 2) (markB (st + 1) (pgs L)))) flD) (runE pageF 0 (pgs L))) flD) := ⟨rfl⟩
  have HCKZ : Hidden (chkP n (pgs L) = 0 → ChkOk n (pgs L)) := ⟨chkP_zero⟩
  generalize commitP st n (pgs L) D = r at *
  generalize chkP n (pgs L) = ck at *
  clear h hp hm hr h0
  go_enter Tryd.func10, Tryd.ntmps10
  go_wp2_with fail
  refine HCK.out.mono ?_
  rintro e w1 ⟨rfl, hb1⟩
  have HM1 := Hidden.mk (HM.out.below hb1)
  have HP1 := Hidden.mk (HP.out.below hb1)
  have HR1 := Hidden.mk (HR.out.below hb1)
  clear hb1 HCK c0 c1 c2 HM HP HR
  obtain ⟨z0, z1, z2⟩ := HP1.out.cell
  by_cases hck : ck ≠ 0
  · have HQ := Hidden.mk (show r = (D, ck) by rw [HV.out, if_pos hck])
    have HC := Hidden.mk hck
    rw [errV_pos hck]
    clear hck HV
    go_wp2_with fail
    go_ret
    refine cmAns_bad ?_ ?_ ?_ (F' := F)
    · rw [HQ.out, errV_pos HC.out]; rfl
    · rw [HQ.out]; exact .inl HC.out
    · rw [HQ.out]; exact HM1.out.cm HP1.out
  have hck0 : ck = 0 := Decidable.not_not.1 hck
  have HV := Hidden.mk (show r = if D.down = true then (D, 9) else if (pgs L).length = 0 then (D, 0) else if 4294967295 < st + 1 then (D, 1) else
    andThen (andThen (andThen (andThen (andThen (runE (areaF ((st + 1) % 2)) 0 (pgs L) D) flD) (markF ((st + 1) % 2) (markB (st + 1) (pgs L)))) flD) (runE pageF 0 (pgs L))) flD by rw [HV.out, if_neg hck])
  have HCO := Hidden.mk (HCKZ.out hck0)
  rw [hck0, errV0]
  clear hck hck0 HCKZ
  have HDN := Hidden.mk HM1.out.dev.down
  go_wp2_with fail
  refine HDN.out.mono ?_
  rintro e w' ⟨rfl, rfl⟩
  clear HDN
  cases hd : D.down with
  | true =>
    have HQ := Hidden.mk (show r = (D, 9) by rw [HV.out, if_pos hd])
    clear HV hd
    go_wp2_with fail
    go_ret
    refine cmAns_bad ?_ ?_ ?_ (F' := F)
    · rw [HQ.out]; rfl
    · rw [HQ.out]; exact .inl (by simp)
    · rw [HQ.out]; exact HM1.out.cm HP1.out
  | false =>
    have HV := Hidden.mk (show r = if (pgs L).length = 0 then (D, 0) else if 4294967295 < st + 1 then (D, 1) else
      andThen (andThen (andThen (andThen (andThen (runE (areaF ((st + 1) % 2)) 0 (pgs L) D) flD) (markF ((st + 1) % 2) (markB (st + 1) (pgs L)))) flD) (runE pageF 0 (pgs L))) flD by rw [HV.out, if_neg (by rw [hd]; decide)])
    rw [hpl] at HV
    have HPL := Hidden.mk hpl
    clear hd hpl
    by_cases hm0 : m = 0
    · have HQ := Hidden.mk (show r = (D, 0) by rw [HV.out, if_pos hm0])
      have HZ := Hidden.mk hm0
      have t1 : ((m : Int) == 0) = true := by simpa using hm0
      have t2 : (m == 0) = true := by simpa using hm0
      clear HV hm0
      go_wp2_with fail
      go_ret
      refine cmAns_bad ?_ ?_ ?_ (F' := F)
      · rw [HQ.out]; rfl
      · exact .inr (HLM.out.trans HZ.out)
      · rw [HQ.out]; exact HM1.out.cm HP1.out
    have HV9 := Hidden.mk (show r = if 4294967295 < st + 1 then (D, 1) else
      andThen (andThen (andThen (andThen (andThen (runE (areaF ((st + 1) % 2)) 0 (pgs L) D) flD) (markF ((st + 1) % 2) (markB (st + 1) (pgs L)))) flD) (runE pageF 0 (pgs L))) flD by rw [HV.out, if_neg hm0])
    have t1 : ((m : Int) == 0) = false := by simpa using hm0
    have t2 : (m == 0) = false := by simpa using hm0
    have hm23 : m ≤ 23 := by have := HCO.out.len; rw [HPL.out] at this; exact this
    have HNZ := Hidden.mk hm0
    have s1 : IntKind.i64.wrap ((st : Int) + 1) = (st : Int) + 1 := IntWalk.i64_in _ (by omega)
    have s2 := i64_and1 ((st : Int) + 1)
    have s3 : IntKind.u8.wrap (m : Int) = (m : Int) := IntWalk.u8_in _ (by omega)
    have s4 : ((st : Int) + 1) % 2 = (((st + 1) % 2 : Nat) : Int) := by omega
    rw [s4] at s2
    clear hm0 s4 HV
    obtain ⟨i0, hi0, hz0, hz1, hz2⟩ := info_parts byte_info
    have HMU : Hidden (bv (UInt8.ofNat m) = .int .u8 (m : Int)) := ⟨by show Value.int .u8 ((UInt8.ofNat m).toNat : Int) = _; rw [u8_small (by omega)]⟩
    have HST : Hidden (BdSt w1 ((w1.alloc (.cells #[.int .i64 (((st + 1) % 2 : Nat) : Int)] 3)).alloc (.cells #[.int .u8 (m : Int)] 5)) (.slice (some ⟨w1.heap.size + 1, 0, none⟩) 1 1) (UInt8.ofNat m :: (numsB (pgs L)).take 0) (((st + 1) % 2 : Nat) : Int)) := by
      refine ⟨⟨((Below.refl _ _).alloc (Nat.le_refl _) _).alloc (by simp) _, ?_, ⟨by simp, .inr ⟨w1.heap.size + 1, 1, #[.int .u8 (m : Int)], by simp, Nat.le_refl _, ?_, by simp, by simp [maxLen], by simp, ?_⟩⟩⟩⟩
      · rw [World.cell?_of_block (w := w1.alloc (.cells #[.int .i64 (((st + 1) % 2 : Nat) : Int)] 3)) (a := ⟨w1.heap.size, 0, none⟩) (Below.heap_alloc _ _ _ (by simp))]
        have := heap_alloc_new w1 (.cells #[.int .i64 (((st + 1) % 2 : Nat) : Int)] 3)
        simp only [World.cell?]; rw [this]; rfl
      · have := heap_alloc_new (w1.alloc (.cells #[.int .i64 (((st + 1) % 2 : Nat) : Int)] 3)) (.cells #[.int .u8 (m : Int)] 5)
        rwa [World.size_alloc] at this
      · rw [List.take_zero, List.map_cons, HMU.out]; rfl
    go_wp2_with fail
    clear s1 s2 s3
    go_loopg [8, 45] m (fun r v8 i wr => ∃ k : Nat, k ≤ m ∧ r = m - k ∧ i = .int .i64 (k : Int) ∧ Hidden (BdSt w1 wr v8 (UInt8.ofNat m :: (numsB (pgs L)).take k) (((st + 1) % 2 : Nat) : Int)))
    case atStart => exact ⟨0, by omega, rfl, rfl, HST⟩
    case round =>
      obtain ⟨k, hk, rfl, rfl, hst⟩ := hrel
      by_cases hlt : k < m
      · have k0 : (0 : Int) ≤ k := by omega
        have k1 : (k : Int) < m := by omega
        have hkl : k < L.length := by rw [HLM.out]; exact hlt
        obtain ⟨pb, off, rfl, hc⟩ := HR1.out.rd k hkl
        have e0 := hc 0 _ rfl
        have e1 := hc 1 _ rfl
        rw [Nat.add_zero] at e0
        have plt := block_lt_of_cell e0
        have x0 := (hst.out.bel.cell (p := ⟨pb, off + k * 2, none⟩) plt).trans e0
        have x1 := (hst.out.bel.cell (p := ⟨pb, off + k * 2 + 1, none⟩) plt).trans e1
        have hnb := HCO.out.each (L[k].num, L[k].body) (List.mem_map.2 ⟨L[k], List.getElem_mem hkl, rfl⟩)
        have hnl : k < (numsB (pgs L)).length := by simp [numsB, HPL.out]; exact hlt
        have HS : Hidden (UInt8.ofNat m :: (numsB (pgs L)).take (k + 1) = (UInt8.ofNat m :: (numsB (pgs L)).take k) ++ [UInt8.ofNat L[k].num.toNat]) := ⟨by
          rw [List.take_succ_eq_append_getElem hnl]
          have : (numsB (pgs L))[k] = UInt8.ofNat L[k].num.toNat := by simp [numsB, pgs]
          rw [this]; rfl⟩
        have HLN : Hidden ((UInt8.ofNat m :: (numsB (pgs L)).take k).length = k + 1) := ⟨by simp; omega⟩
        generalize L[k] = x at *
        obtain ⟨num, xA, xc, body⟩ := x
        dsimp only at *
        have s5 : IntKind.u8.wrap num = num := IntWalk.u8_in _ (by omega)
        have s6 : IntKind.i64.wrap ((k : Int) + 1) = (k : Int) + 1 := IntWalk.i64_in _ (by omega)
        have HVU : Hidden (bv (UInt8.ofNat num.toNat) = .int .u8 num) := ⟨by show Value.int .u8 ((UInt8.ofNat num.toNat).toNat : Int) = _; rw [u8_small (by omega), Int.toNat_of_nonneg hnb.1]⟩
        have hal : Below wr.heap.size wr (wr.alloc (.cells #[.int .i64 num, .slice xA body.length xc] 43)) := (Below.refl _ _).alloc (Nat.le_refl _) _
        have HAL := Hidden.mk hal
        have HSZ := Hidden.mk hst.out.bel.size
        have HBS := Hidden.mk hst.out
        generalize UInt8.ofNat m :: (numsB (pgs L)).take k = bs at *
        have HOWN : Hidden (wr.ownsRow (w1.heap.size + 1) 5 1 u8 (k + 1) (bs.map bv)) := ⟨by have := hst.out.own; rwa [HLN.out] at this⟩
        have HB1 : Hidden (Below (w1.heap.size + 1) w1 w1) := ⟨Below.refl _ _⟩
        have HBW := Hidden.mk (HBS.out.bel.trans (HAL.out.mono HBS.out.bel.size))
        clear hst hc e0 e1 hnb hnl hal plt HST HB1
        go_wp2_with (at_builtin; refine wpList_append_lies _ rfl (.tmp 49) (.tmp 53) _ rfl (w1.heap.size + 1) 5 i0 _ 1 1 Tryd.underlying41 hi0 hz0 hz1 hz2 rfl (by decide) u8 (k + 1) (bs.map bv) rfl (own_below (own_below HOWN.out HAL.out) ((Below.refl _ _).alloc (Nat.le_refl _) _)) ⟨wr.heap.size + 1, 0, none⟩ 1 1 [.int .u8 num] rfl rfl (World.news_of_block (cs := #[.int .u8 num]) (t := 5) (fr := (0, 0)) (by have hq_ := heap_alloc_new ((wr.alloc (.cells #[.int .i64 num, .slice xA body.length xc] 43))) (.cells #[.int .u8 num] 5); rwa [World.size_alloc] at hq_)) (by simp [Value.oneCell']) (by omega) (by simp only [maxLen]; omega) (by omega) (by have hz_ := HBW.out.size; rw [World.size_alloc]; omega) (wr.heap.size + 1 + 1) (by simp) ?_; intro g8 cap8 w8 hown8 hg8 hat8 hlt8)
        have hgW := grown_trans' ((Below.refl (wr.alloc (.cells #[.int .i64 num, .slice xA body.length xc] 43)).heap.size (wr.alloc (.cells #[.int .i64 num, .slice xA body.length xc] 43))).alloc (Nat.le_refl _) _) hg8
        have hB8 : Below w1.heap.size w1 w8 := HBW.out.grown hgW HBW.out.size (fun q hq => Nat.le_of_succ_le (HOWN.out.lt q hq).1)
        have hab8 : w8.cell? ⟨w1.heap.size, 0, none⟩ = some (.int .i64 (((st + 1) % 2 : Nat) : Int)) := by
          have habl := block_lt_of_cell HBS.out.ab
          have h1 := HAL.out.block w1.heap.size habl
          have h2 := hgW.block w1.heap.size (Nat.lt_of_lt_of_le habl HAL.out.size) (fun hq => by have := (HOWN.out.lt _ hq.symm).1; omega)
          exact (World.cell?_of_block (w := wr) (a := ⟨w1.heap.size, 0, none⟩) (h2.trans h1)).trans HBS.out.ab
        have HF : Hidden (BdSt w1 w8 (.slice (some ⟨g8, 0, none⟩) (k + 1 + 1) cap8) (UInt8.ofNat m :: (numsB (pgs L)).take (k + 1)) (((st + 1) % 2 : Nat) : Int)) := ⟨hB8, hab8, by
          rw [HS.out, List.map_append, List.length_append, HLN.out]
          show w8.ownsRow _ _ 1 _ (k + 1 + 1) (_ ++ [bv (UInt8.ofNat num.toNat)])
          rw [HVU.out]; exact hown8⟩
        clear hgW hB8 hab8 hown8 hg8 hat8 hlt8
        go_roundg (m - (k + 1))
        case measure => omega
        case rel => exact ⟨k + 1, by omega, rfl, by go_num, HF⟩
      · obtain rfl : k = m := by omega
        have hbl : (UInt8.ofNat k :: numsB (pgs L)).length = k + 1 := by simp [numsB, HPL.out]
        have htk : (numsB (pgs L)).take k = numsB (pgs L) := List.take_of_length_le (by simp [numsB, HPL.out])
        have hb := hst.out
        rw [htk] at hb
        obtain ⟨Ab, cb, rfl, hcb, -, hrb⟩ := (show Own wr (w1.heap.size + 1) 5 u8 (UInt8.ofNat k :: numsB (pgs L)) from hb.own).slice
        rw [hbl] at hcb
        rw [hbl]
        have HBL := Hidden.mk hb.bel
        have HRB := Hidden.mk hrb
        have HAB := Hidden.mk hb.ab
        have HLB := Hidden.mk hbl
        have HMB : Hidden (markB (st + 1) (pgs L) = makeB (st + 1) (UInt8.ofNat k :: numsB (pgs L))) := ⟨by unfold markB; rw [HPL.out]⟩
        clear hst hbl htk hb hrb HST
        by_cases h4 : 4294967295 < st + 1
        · have HQ := Hidden.mk (show r = (D, 1) by rw [HV9.out, if_pos h4])
          have HE1 := Hidden.mk (make_e1 ((st : Int) + 1) Ab (k + 1) cb wr (by omega))
          clear h4 HV9
          go_wp2_with fail
          refine HE1.out.mono ?_
          rintro e w' ⟨rfl, rfl⟩
          go_wp2_with fail
          go_ret
          refine cmAns_bad ?_ ?_ ?_ (F' := F)
          · rw [HQ.out]; rfl
          · rw [HQ.out]; exact .inl (by simp)
          · rw [HQ.out]; exact (HM1.out.below HBL.out).cm (HP1.out.below HBL.out)
        · have HQ := Hidden.mk (show r = andThen (andThen (andThen (andThen (andThen (runE (areaF ((st + 1) % 2)) 0 (pgs L) D) flD) (markF ((st + 1) % 2) (markB (st + 1) (pgs L)))) flD) (runE pageF 0 (pgs L))) flD by rw [HV9.out, if_neg h4])
          have HMK := Hidden.mk (make_ok ((st : Int) + 1) Ab (k + 1) cb _ wr HLB.out (by omega) (by omega) (by omega) HRB.out)
          rw [show ((st : Int) + 1).toNat = st + 1 by omega, ← HMB.out] at HMK
          clear h4 HV9
          go_wp2_with fail
          refine HMK.out.mono ?_
          rintro e w3 ⟨g, rfl, hg, hrow, hb3⟩
          have HB3 := Hidden.mk (HBL.out.trans (hb3.mono HBL.out.size))
          have HM3 := Hidden.mk (HM1.out.below HB3.out)
          have habl := block_lt_of_cell HAB.out
          have hflt := HM1.out.dev.flt
          have hw1 := HB3.out.size
          have hwr := HBL.out.size
          dsimp only at habl
          have HRS : Hidden (Rest w3 F p d st n A L g (markB (st + 1) (pgs L)) w1.heap.size ((st + 1) % 2)) := ⟨HP1.out.below HB3.out, HR1.out.below HB3.out, hrow.rd, hrow.lt, fun hf => by have := hflt _ hf; omega, (hb3.cell (p := ⟨w1.heap.size, 0, none⟩) habl).trans HAB.out, fun hf => by have := hflt _ hf; omega⟩
          have HML : Hidden ((markB (st + 1) (pgs L)).length = 32) := ⟨by rw [HMB.out]; exact makeB_len _ _ (by rw [HLB.out]; omega)⟩
          have HNL : Hidden (∀ x ∈ L, 0 ≤ x.num ∧ x.num ≤ 1000) := ⟨fun x hx => by
            have := HCO.out.each (x.num, x.body) (List.mem_map.2 ⟨x, hx, rfl⟩)
            dsimp only at this; omega⟩
          have HLK := Hidden.mk (HLM.out)
          generalize markB (st + 1) (pgs L) = mkb at *
          generalize w1.heap.size = ab at *
          have ha2 : (st + 1) % 2 < 2 := by omega
          generalize (st + 1) % 2 = a at *
          clear hg hrow hb3 habl hflt hw1 hwr HMK HMB HRB HAB HBL
          have HW1 := Hidden.mk (pwrite1_any HM3.out.dev HRS.out.pg A k c L HLM.out hm23 HRS.out.rd HNL.out ab a ha2 HRS.out.abc HRS.out.nab)
          generalize hX1 : andThen (runE (areaF a) 0 (pgs L) D) flD = X1 at *
          clear hX1
          go_wp2_with fail
          refine HW1.out.mono ?_
          rintro e w4 ⟨rfl, F4, hm4⟩
          have HM4 := Hidden.mk (HM3.out.next hm4)
          have HR4 := Hidden.mk (HRS.out.mod hm4)
          clear hm4 HW1 HM3 HRS
          by_cases x1 : X1.2 ≠ 0
          · have HQ1 := Hidden.mk (show r = X1 by rw [HQ.out, andThen_ne x1, andThen_ne x1, andThen_ne x1, andThen_ne x1])
            have HX := Hidden.mk x1
            rw [errV_pos x1]
            clear x1 HQ
            go_wp2_with fail
            go_ret
            refine cmAns_bad ?_ ?_ ?_ (F' := F4)
            · rw [HQ1.out, errV_pos HX.out]; rfl
            · rw [HQ1.out]; exact .inl HX.out
            · rw [HQ1.out]; exact HM4.out.cm HR4.out.pg
          have x1' : X1.2 = 0 := Decidable.not_not.1 x1
          have HQ := Hidden.mk (show r = andThen (andThen (andThen (markF a mkb X1.1) flD) (runE pageF 0 (pgs L))) flD by rw [HQ.out, andThen_ok x1'])
          rw [x1', errV0]
          clear x1 x1'
          have HWR := Hidden.mk ((HM4.out.dev.below ((Below.refl _ w4).drew)).write_all (a : Int) (some ⟨g, 0, none⟩) 32 32 mkb HML.out (HR4.out.mr.drewN 1) (fun _ ad e => by obtain rfl := Option.some.inj e; exact HR4.out.ng))
          rw [show wrD X1.1 (a : Int) mkb = markF a mkb X1.1 from rfl] at HWR
          obtain ⟨y0, -, -⟩ := HR4.out.pg.cell
          have yab := HR4.out.abc
          have KY := Hidden.mk (And.intro y0 yab)
          have KS : Hidden (∀ (W : World) (F5 : Nat → Prop), Keep F4 w4.drew W → (∀ q, F5 q → F4 q ∨ w4.drew.heap.size ≤ q) → W.cell? ⟨p, 0, none⟩ = some (.pointer (some ⟨d, 0, none⟩)) ∧ W.cell? ⟨ab, 0, none⟩ = some (.int .i64 (a : Int))) := ⟨fun W F5 hk hF => ⟨(World.cell?_of_block (w := w4.drew) (a := ⟨p, 0, none⟩) (hk.block p HR4.out.pg.lt HR4.out.pg.2)).trans KY.out.1, (World.cell?_of_block (w := w4.drew) (a := ⟨ab, 0, none⟩) (hk.block ab (by have := block_lt_of_cell KY.out.2; exact this) HR4.out.nab)).trans KY.out.2⟩⟩
          clear y0 yab z0 z1 z2
          go_upto_region 22 with (fail)
          go_region_held3 (fun W => W.cell? ⟨p, 0, none⟩ = some (.pointer (some ⟨d, 0, none⟩)) ∧ W.cell? ⟨ab, 0, none⟩ = some (.int .i64 (a : Int))) (first | exact KY.out | exact KS.out _ F5 hk5 hF5)
            ((go_at_call 32; refine HWR.out.mono ?_; rintro e w5 ⟨rfl, F5, hd5, hk5, hF5⟩))
          all_goals
            have hm5 : PdM w0 w4 w5 F4 F5 d _ := ⟨hd5, (Keep.of_below (F := F4) ((Below.refl _ w4).drew)).trans hk5 (fun _ h => .inl h), fun q hq => hF5 q hq⟩
            have HM5 := Hidden.mk (HM4.out.next hm5)
            have HR5 := Hidden.mk (HR4.out.mod hm5)
            clear hd5 hk5 hF5 hm5 HWR KS KY HM4 HR4
            generalize markF a mkb X1.1 = X2 at *
            by_cases x2 : X2.2 ≠ 0
            · have HQ1 := Hidden.mk (show r = X2 by rw [HQ.out, andThen_ne x2, andThen_ne x2, andThen_ne x2])
              have HX := Hidden.mk x2
              rw [errV_pos x2]
              clear x2 HQ
              go_wp2_with fail
              go_ret
              refine cmAns_bad ?_ ?_ ?_ (F' := F5)
              · rw [HQ1.out, errV_pos HX.out]; rfl
              · rw [HQ1.out]; exact .inl HX.out
              · rw [HQ1.out]; exact HM5.out.cm HR5.out.pg
            have x2' : X2.2 = 0 := Decidable.not_not.1 x2
            have HQ := Hidden.mk (show r = andThen (andThen (flD X2.1) (runE pageF 0 (pgs L))) flD by rw [HQ.out, andThen_ok x2'])
            rw [x2', errV0]
            clear x2 x2'
            obtain ⟨y0, -, -⟩ := HR5.out.pg.cell
            have HFL := Hidden.mk HM5.out.dev.flush_all
            go_wp2_with fail
            refine HFL.out.mono ?_
            rintro e w6 ⟨rfl, hd6, hk6⟩
            have hm6 : PdM w0 w5 w6 F5 F5 d _ := ⟨hd6, hk6, fun _ h => .inl h⟩
            have HM6 := Hidden.mk (HM5.out.next hm6)
            have HR6 := Hidden.mk (HR5.out.mod hm6)
            clear hd6 hk6 hm6 HFL HM5 HR5 y0
            generalize flD X2.1 = X3 at *
            by_cases x3 : X3.2 ≠ 0
            · have HQ1 := Hidden.mk (show r = X3 by rw [HQ.out, andThen_ne x3, andThen_ne x3])
              have HX := Hidden.mk x3
              rw [errV_pos x3]
              clear x3 HQ
              go_wp2_with fail
              go_ret
              refine cmAns_bad ?_ ?_ ?_ (F' := F5)
              · rw [HQ1.out, errV_pos HX.out]; rfl
              · rw [HQ1.out]; exact .inl HX.out
              · rw [HQ1.out]; exact HM6.out.cm HR6.out.pg
            have x3' : X3.2 = 0 := Decidable.not_not.1 x3
            have HQ := Hidden.mk (show r = andThen (runE pageF 0 (pgs L) X3.1) flD by rw [HQ.out, andThen_ok x3'])
            rw [x3', errV0]
            clear x3 x3'
            have HW2 := Hidden.mk (pwrite2_any HM6.out.dev HR6.out.pg A k c L HLM.out hm23 HR6.out.rd HNL.out ab a ha2 HR6.out.abc HR6.out.nab)
            rw [← HQ.out] at HW2
            go_wp2_with fail
            refine HW2.out.mono ?_
            rintro e w7 ⟨rfl, F7, hm7⟩
            have HM7 := Hidden.mk (HM6.out.next hm7)
            have HR7 := Hidden.mk (HR6.out.mod hm7)
            clear hm7 HW2 HM6 HR6 HQ
            by_cases x4 : r.2 ≠ 0
            · have HX := Hidden.mk x4
              rw [errV_pos x4]
              clear x4
              go_wp2_with fail
              go_ret
              refine cmAns_bad ?_ ?_ ?_ (F' := F7)
              · rw [errV_pos HX.out]; rfl
              · exact .inl HX.out
              · exact HM7.out.cm HR7.out.pg
            have HX := Hidden.mk (Decidable.not_not.1 x4)
            rw [HX.out, errV0]
            clear x4
            obtain ⟨y0, y1, y2⟩ := HR7.out.pg.cell
            have ff := (three HR7.out.pg.1).2 1
            have HFIN := Hidden.mk (HM7.out.stamped HR7.out.pg H0.out (st + 1))
            rw [show (((st + 1 : Nat)) : Int) = (st : Int) + 1 by omega] at HFIN
            clear HM7 HR7
            go_wp2_with fail
            go_ret
            refine cmAns_ok ?_ HX.out ?_ HFIN.out
            · rw [HX.out]; rfl
            · rw [HLM.out]; exact HNZ.out
end
end Go.Proofs.YtbnobjlphmkgeaaDoor
/- Pages as a law plays with them: what a run keeps; rows that may be the argument's own. -/
namespace Go.Proofs.YtbnobjlphmkgeaaDoor
open Go.RowKit Go.Maps Go.ChangeMaps

section
variable {w0 w w' : World} {F F' : Nat → Prop} {p d st n : Nat} {D : Dv}
theorem PgH.ne_cells (h : PgH w F p d st n) {go : Nat} {cur : Array Value} {t : TypeId} (h2 : w.heap[go]? = some (.cells cur t (0, 0))) (ht : 78 ≠ t) : p ≠ go := Go.Proofs.YtbnobjlphmkgeaaDoor.ne_cells h.1 h2 ht
end
theorem OpAns.uni {w0 w w' : World} {F : Nat → Prop} {d st : Nat} {D : Dv} {r : Dv × Nat} {e : Ending} (h : OpAns w0 w F d D r st e w') :
    ∃ v F', e = .returned (.tuple #[v, errV r.2]) ∧ PdM w0 w w' F F' d r.1 ∧ (r.2 = 0 → ∃ p, v = .pointer (some ⟨p, 0, none⟩) ∧ PgH w' F' p d st (nP D) ∧ w.heap.size ≤ p) := by
  obtain ⟨F', hm, ⟨h0, p, he, hp, hn⟩ | ⟨h0, he⟩⟩ := h
  · exact ⟨_, F', by rw [he, h0]; rfl, hm, fun _ => ⟨p, rfl, hp, hn⟩⟩
  · exact ⟨_, F', he, hm, fun e => absurd e h0⟩
section
variable {w0 w w' : World} {F F' : Nat → Prop} {go n : Nat} {f : Nat → Bytes}
end
end Go.Proofs.YtbnobjlphmkgeaaDoor
/- Package view: Len, has, All. -/
namespace Go.Proofs.YtbnobjlphmkgeaaDoor
open Go.RowKit Go.Maps Go.ChangeMaps

section
variable {w0 w : World} {F : Nat → Prop} {p d st : Nat} {D : Dv}
end
end Go.Proofs.YtbnobjlphmkgeaaDoor
/- Package view: New. -/
namespace Go.Proofs.YtbnobjlphmkgeaaDoor
open Go.RowKit Go.Maps Go.ChangeMaps

/-- an own row of bytes that is not empty, as a row -/
theorem row_of_owns {w : World} {base n : Nat} {v : Value} {l : Bytes} (h : w.ownsRow base 5 1 v n (l.map bv)) (hl : l.length = n) (hn : 0 < n) : ∃ g cap, v = .slice (some ⟨g, 0, none⟩) n cap ∧ base ≤ g ∧ Row w 5 g cap l := by
  obtain ⟨-, ⟨_, h0⟩ | ⟨g, cap, cur, rfl, hb, hg, h1, h2, h3, h4⟩⟩ := h
  · omega
  · exact ⟨g, cap, rfl, hb, cur, hg, by omega, h2, by omega, by simpa [hl] using h4⟩
section
variable {w0 w : World} {F : Nat → Prop} {p d st : Nat} {D : Dv}
end
end Go.Proofs.YtbnobjlphmkgeaaDoor
/- The reference's pages: Commit. -/
namespace Go.Proofs.YtbnobjlphmkgeaaDoor
open Go.RowKit Go.Maps Go.ChangeMaps

/-- OpenPages, in one form -/
theorem ropen_any {w0 w : World} {F : Nat → Prop} {d : Nat} {D : Dv} (h : RDB w0 w F d D) :
    Calls Tryd.prog 17 #[.pointer (some ⟨d, 0, none⟩)] w (RoAns w0 w F d D (openP D) (openMk D).1) := by
  by_cases hl : D.S.length < 49
  · exact ropen_lo h hl
  · cases hd : D.down with
    | true => exact ropen_dn h (by omega) hd
    | false => exact ropen_up h (by omega) hd
/-- pages, their device, behind a call on them -/
structure RcM (w0 w w' : World) (F F' : Nat → Prop) (p d st n : Nat) (D : Dv) : Prop where
  dev : RDB w0 w' F' d D
  kp : Keep (fun k => F k ∨ k = p) w w'
  sub : ∀ k, F' k → F k ∨ w.heap.size ≤ k
  pg : PgR w' F' p d st n
/-- what is said of a commit -/
def RcAns (w0 w : World) (F : Nat → Prop) (p d st n : Nat) (L : List PgX) (r : Dv × Nat) (e : Ending) (w' : World) : Prop :=
  e = .returned (.int .i64 (r.2 : Int)) ∧ ∃ F', RcM w0 w w' F F' p d (if r.2 = 0 ∧ L.length ≠ 0 then st + 1 else st) n r.1
theorem runE_bad {X : Type} (f : Nat → X → Dv → Dv × Nat) : ∀ (l r : List X) (k : Nat) (D : Dv), (runE f k l D).2 ≠ 0 → runE f k (l ++ r) D = runE f k l D
  | [], r, k, D, h => absurd rfl h
  | x :: l, r, k, D, h => by
    rw [runE_cons] at h
    rw [List.cons_append, runE_cons, runE_cons f k x l D]
    by_cases h0 : (f k x D).2 = 0
    · rw [if_pos h0] at h ⊢
      rw [if_pos h0, runE_bad f l r (k + 1) _ h]
    · rw [if_neg h0, if_neg h0]
theorem runE_snoc {X : Type} (f : Nat → X → Dv → Dv × Nat) (l : List X) (k : Nat) (D : Dv) (hk : k < l.length) :
    runE f 0 (l.take (k + 1)) D = if (runE f 0 (l.take k) D).2 = 0 then f k l[k] (runE f 0 (l.take k) D).1 else runE f 0 (l.take k) D := by
  have hl : (l.take k).length = k := by simp; omega
  rw [List.take_succ_eq_append_getElem hk]
  by_cases h : (runE f 0 (l.take k) D).2 = 0
  · rw [if_pos h, runE_app f _ _ 0 D h, hl, Nat.zero_add]
    rw [runE_cons]
    by_cases h0 : (f k l[k] (runE f 0 (l.take k) D).1).2 = 0
    · rw [if_pos h0]
      exact Prod.ext rfl h0.symm
    · rw [if_neg h0]
  · rw [if_neg h, runE_bad f _ _ 0 D h]
/-- so much of the body is put together, so many bodies are written -/
structure RbSt (w0 wc wr : World) (F F' : Nat → Prop) (p d st n a : Nat) (D : Dv) (A : Option Addr) (L : List PgX) (v : Value) (bs : Bytes) (k : Nat) : Prop where
  m : RdM w0 wc wr F F' d (runE (areaF a) 0 ((pgs L).take k) D).1
  pg : PgR wr F' p d st n
  own : wr.ownsRow wc.heap.size 5 1 v (k + 1) (bs.map bv)
  nf : ∀ q, v.ownBlock = some q → ¬ F' q
/-- what a stage of a commit keeps at hand: the device, its pages, the body's row -/
structure RcT (w0 wc wx : World) (F F1 : Nat → Prop) (p d st n mn : Nat) (D : Dv) (v : Value) (bs : Bytes) : Prop where
  m : RdM w0 wc wx F F1 d D
  pg : PgR wx F1 p d st n
  own : wx.ownsRow wc.heap.size 5 1 v mn (bs.map bv)
  nf : ∀ q, v.ownBlock = some q → ¬ F1 q
theorem RcT.next {w0 wc wx w6 : World} {F F1 F6 : Nat → Prop} {p d st n m : Nat} {D D6 : Dv} {v : Value} {bs : Bytes} (h : RcT w0 wc wx F F1 p d st n m D v bs) (hm6 : RdM w0 wx w6 F1 F6 d D6) : RcT w0 wc w6 F F6 p d st n m D6 v bs :=
  ⟨h.m.next hm6, h.pg.mod hm6, ownsRow_block h.own fun q hq => hm6.kp.block q (h.own.lt q hq).2 (h.nf q hq), fun q hq hf => by
    rcases hm6.sub _ hf with h' | h'
    · exact h.nf q hq h'
    · have := (h.own.lt q hq).2; omega⟩
theorem RcT.below {w0 wc wx w6 : World} {F F1 : Nat → Prop} {p d st n m : Nat} {D : Dv} {v : Value} {bs : Bytes} (h : RcT w0 wc wx F F1 p d st n m D v bs) (hb : Below wx.heap.size wx w6) : RcT w0 wc w6 F F1 p d st n m D v bs :=
  ⟨h.m.below hb, h.pg.below hb, own_below h.own hb, h.nf⟩
theorem pgY_step (X : Dv × Nat) (L : List (Int × Bytes)) (j : Nat) (hj : j < L.length) (h0 : (andThen X (runE pageF 0 (L.take j))).2 = 0) : andThen X (runE pageF 0 (L.take (j + 1))) = pageF j L[j] (andThen X (runE pageF 0 (L.take j))).1 := by
  by_cases hX : X.2 = 0
  · rw [andThen_ok hX] at h0 ⊢
    rw [andThen_ok hX, runE_snoc pageF L j _ hj, if_pos h0]
  · rw [andThen_ne hX] at h0
    exact absurd h0 hX
theorem pgY_done (X : Dv × Nat) (L : List (Int × Bytes)) (j : Nat) (h : (andThen X (runE pageF 0 (L.take j))).2 ≠ 0 ∨ L.length ≤ j) : andThen X (runE pageF 0 (L.take j)) = andThen X (runE pageF 0 L) := by
  by_cases hX : X.2 = 0
  · rw [andThen_ok hX, andThen_ok hX]
    rw [andThen_ok hX] at h
    rcases h with h | h
    · have := runE_bad pageF (L.take j) (L.drop j) 0 X.1 h
      rw [List.take_append_drop] at this
      exact this.symm
    · rw [List.take_of_length_le h]
  · rw [andThen_ne hX, andThen_ne hX]
section
variable {w0 w w' : World} {F F' : Nat → Prop} {p d st n : Nat} {D : Dv}
theorem RdM.rc (h : RdM w0 w w' F F' d D) (hp : PgR w' F' p d st n) : RcM w0 w w' F F' p d st n D := ⟨h.dev, h.kp.wide (fun _ hk => .inl hk), h.sub, hp⟩
theorem rcAns_bad {L : List PgX} {r : Dv × Nat} {e : Ending} (h : e = .returned (.int .i64 (r.2 : Int))) (hr : r.2 ≠ 0 ∨ L.length = 0) (hm : RcM w0 w w' F F' p d st n r.1) : RcAns w0 w F p d st n L r e w' :=
  ⟨h, F', by rw [if_neg (by omega)]; exact hm⟩
theorem rcAns_ok {L : List PgX} {r : Dv × Nat} {e : Ending} (h : e = .returned (.int .i64 (r.2 : Int))) (hr : r.2 = 0) (hl : L.length ≠ 0) (hm : RcM w0 w w' F F' p d (st + 1) n r.1) : RcAns w0 w F p d st n L r e w' :=
  ⟨h, F', by rw [if_pos ⟨hr, hl⟩]; exact hm⟩
set_option maxRecDepth 100000 in
set_option maxHeartbeats 40000000 in
theorem rcommit_any (h : RDB w0 w F d D) (hp : PgR w F p d st n) (hn : n ≤ 200) (hst : st < 4294967295) (h0 : w0.heap.size ≤ p) (A : Option Addr) (m c : Nat) (L : List PgX) (hm : L.length = m) (hmc : m ≤ c) (hr : PgsR w F A L) :
    Calls Tryd.prog 11 #[.pointer (some ⟨p, 0, none⟩), .slice A m c] w (RcAns w0 w F p d st n L (commitP st n (pgs L) D)) := by
  have hpl : (pgs L).length = m := by simp [pgs, hm]
  have HM := Hidden.mk (RdM.refl h)
  have HP := Hidden.mk hp
  have HR := Hidden.mk hr
  have HLM := Hidden.mk hm
  have H0 := Hidden.mk h0
  have HV : Hidden (commitP st n (pgs L) D = if chkP n (pgs L) ≠ 0 then (D, chkP n (pgs L)) else if D.down = true then (D, 9) else if (pgs L).length = 0 then (D, 0) else if 4294967295 < st + 1 then (D, 1) else
    andThen (andThen (andThen (andThen (andThen (runE (areaF ((st + 1) % 2)) 0 (pgs L) D) flD) (markF ((st + 1) % 2) (markB (st + 1) (pgs L)))) flD) (runE pageF 0 (pgs L))) flD) := ⟨rfl⟩
  have HCKZ : Hidden (chkP n (pgs L) = 0 → ChkOk n (pgs L)) := ⟨chkP_zero⟩
  have HCH : Hidden (chkP n (pgs L) = if 23 < m then 4 else chkL n [] (pgs L)) := ⟨by unfold chkP; rw [hpl]⟩
  have HPL := Hidden.mk hpl
  obtain ⟨⟨c0, c1, c2⟩, -⟩ := three hp.1
  have HC2 := Hidden.mk c2
  generalize commitP st n (pgs L) D = r at *
  generalize chkP n (pgs L) = ck at *
  clear h hp hm hr h0 hpl c0 c1
  go_enter Tryd.func11, Tryd.ntmps11
  by_cases h23 : 23 < m
  · have t1 : decide (23 < (m : Int)) = true := by simp; omega
    have t2 : decide (23 < m) = true := by simpa using h23
    have HQ := Hidden.mk (show r = (D, 4) by rw [HV.out, HCH.out, if_pos h23, if_pos (by decide)])
    clear h23 c2
    go_wp2_with fail
    go_ret
    refine rcAns_bad (F' := F) ?_ ?_ ?_
    · rw [HQ.out]; rfl
    · rw [HQ.out]; exact .inl (by simp)
    · rw [HQ.out]; exact HM.out.rc HP.out
  have t1 : decide (23 < (m : Int)) = false := by simp; omega
  have t2 : decide (23 < m) = false := by simpa using h23
  have HCH := Hidden.mk (show ck = chkL n [] (pgs L) by rw [HCH.out, if_neg h23])
  have hm23 : m ≤ 23 := by omega
  clear h23
  go_upto_block 0 with (fail)
  go_cut [] (fun wx => Hidden (ck = 0 ∧ Below w.heap.size w wx))
  case first =>
    as_aux_lemma =>
      go_wp2_with fail
      go_loopg [5] m (fun rr iv wy => ∃ k : Nat, k ≤ m ∧ rr = m - k ∧ iv = .int .i64 (k : Int) ∧ Hidden (ck = chkL n (((pgs L).take k).map (·.1)) ((pgs L).drop k) ∧ Below w.heap.size w wy))
      case atStart => exact ⟨0, by omega, rfl, rfl, ⟨by rw [HCH.out]; rfl, Below.refl _ _⟩⟩
      case round =>
        obtain ⟨k, hk, rfl, rfl, hs⟩ := hrel
        have HS := Hidden.mk hs.out
        clear hs
        by_cases hlt : k < m
        · have i0 : (0 : Int) ≤ k := by omega
          have i1 : (k : Int) < m := by omega
          have s1 : IntKind.i64.wrap ((k : Int) + 1) = (k : Int) + 1 := IntWalk.i64_in _ (by omega)
          have hkl : k < L.length := by rw [HLM.out]; exact hlt
          obtain ⟨pb, off, rfl, hc⟩ := HR.out.rd k hkl
          have e0 := hc 0 _ rfl
          have e1 := hc 1 _ rfl
          rw [Nat.add_zero] at e0
          have x0 := (HS.out.2.cell (p := ⟨pb, off + k * 2, none⟩) (block_lt_of_cell e0)).trans e0
          have x1 := (HS.out.2.cell (p := ⟨pb, off + k * 2 + 1, none⟩) (block_lt_of_cell e1)).trans e1
          have x2 := (HS.out.2.cell (p := ⟨p, 2, none⟩) (block_lt_of_cell HC2.out)).trans HC2.out
          have hx3 := HP.out.below HS.out.2
          have hpk : (pgs L)[k]'(by rw [HPL.out]; exact hlt) = (L[k].num, L[k].body) := by simp [pgs]
          have hcs := chk_step n (pgs L) k (by rw [HPL.out]; exact hlt)
          rw [hpk] at hcs
          have HCS := Hidden.mk (HS.out.1.trans hcs)
          have HKJ : Hidden (∀ j, j < k → ∃ y : PgX, L[j]? = some y ∧ (pgs L)[j]? = some (y.num, y.body)) := ⟨fun j hj => ⟨L[j]'(by omega), List.getElem?_eq_getElem _, by simp [pgs, List.getElem?_eq_getElem (show j < L.length by omega)]⟩⟩
          obtain ⟨pg, hpg⟩ : ∃ y, L[k] = y := ⟨_, rfl⟩
          rw [hpg] at x0 x1 HCS
          have HLK : Hidden (L[k].num = pg.num) := ⟨by rw [hpg]⟩
          clear hpg
          obtain ⟨num, bA, bc, body⟩ := pg
          dsimp only at *
          have HB := Hidden.mk HS.out.2
          clear hc e0 e1 hpk hcs HS c2
          have HBAD : Hidden (∀ W, Below w.heap.size w W → ∀ q : Nat, q ≠ 0 → ck = q → RcAns w0 w F p d st n L r (.returned (.int .i64 (q : Int))) W) := ⟨fun W hW q hq hck => by
            have hrq : r = (D, q) := by rw [HV.out, hck, if_pos hq]
            refine rcAns_bad (F' := F) ?_ ?_ ?_
            · rw [hrq]
            · rw [hrq]; exact .inl hq
            · rw [hrq]; exact (HM.out.below hW).rc (HP.out.below hW)⟩
          go_upto_region 6 with (fail)
          by_cases n0 : num < 0
          · have d1 : decide (num < 0) = true := by simpa using n0
            have HV1 := Hidden.mk (show ck = 1 by rw [HCS.out, if_pos (.inl n0)])
            clear n0 HCS
            go_quiet (fail)
            go_wp2_with fail
            go_ret
            exact HBAD.out _ (below_drewN HB.out _) 1 (by decide) HV1.out
          have d1 : decide (num < 0) = false := by simpa using n0
          by_cases n1 : (n : Int) ≤ num
          · have d2 : decide ((n : Int) ≤ num) = true := by simpa using n1
            have HV1 := Hidden.mk (show ck = 1 by rw [HCS.out, if_pos (.inr n1)])
            clear n0 n1 HCS
            go_quiet (fail)
            go_wp2_with fail
            go_ret
            exact HBAD.out _ (below_drewN HB.out _) 1 (by decide) HV1.out
          have d2 : decide ((n : Int) ≤ num) = false := by simpa using n1
          have HCS := Hidden.mk (show ck = if body.length ≠ 32 then 3 else if num ∈ ((pgs L).take k).map (·.1) then 7 else chkL n (((pgs L).take (k + 1)).map (·.1)) ((pgs L).drop (k + 1)) by rw [HCS.out, if_neg (by omega)])
          clear n0 n1
          go_quiet (fail)
          have HB2 := Hidden.mk (below_drewN HB.out nq)
          have x0' : (wr.drewN nq).cell? ⟨pb, off + k * 2, none⟩ = some (.int .i64 num) := x0
          have x1' : (wr.drewN nq).cell? ⟨pb, off + k * 2 + 1, none⟩ = some (.slice bA body.length bc) := x1
          clear x0 x1 x2 hx3 HB d1 d2
          generalize wr.drewN nq = W2 at *
          by_cases h32 : body.length = 32
          · have d4 : ((body.length : Int) != 32) = false := by simp [h32]
            have HCS := Hidden.mk (show ck = if num ∈ ((pgs L).take k).map (·.1) then 7 else chkL n (((pgs L).take (k + 1)).map (·.1)) ((pgs L).drop (k + 1)) by rw [HCS.out, if_neg (fun h => h h32)])
            clear h32
            go_wp2_with fail
            clear d4 x1'
            go_loopg [6] k (fun rr jv wy => ∃ j : Nat, j ≤ k ∧ rr = k - j ∧ jv = .int .i64 (j : Int) ∧ Hidden ((∀ i, i < j → ((pgs L).getD i (0, [])).1 ≠ num) ∧ Below w.heap.size w wy))
            case atStart => exact ⟨0, by omega, rfl, rfl, ⟨fun i hi => by omega, HB2.out⟩⟩
            case round =>
              obtain ⟨j, hj, rfl, rfl, hs⟩ := hrel
              have HY := Hidden.mk hs.out
              clear hs HB2
              by_cases hjk : j < k
              · have j0 : (0 : Int) ≤ j := by omega
                have j1 : (j : Int) < m := by omega
                have j2 : (j : Int) < k := by omega
                have s2 : IntKind.i64.wrap ((j : Int) + 1) = (j : Int) + 1 := IntWalk.i64_in _ (by omega)
                have i1' : (k : Int) < m := i1
                obtain ⟨y, hy1, hy2⟩ := HKJ.out j hjk
                have hjl : j < L.length := (List.getElem?_eq_some_iff.1 hy1).1
                obtain ⟨pb', off', e', hc'⟩ := HR.out.rd j hjl
                simp only [Option.some.injEq, Addr.mk.injEq, and_true] at e'
                obtain ⟨rfl, rfl⟩ := e'
                have f0 := hc' 0 _ rfl
                rw [(List.getElem?_eq_some_iff.1 hy1).2, Nat.add_zero] at f0
                have g0 := (HY.out.2.cell (p := ⟨pb, off + j * 2, none⟩) (block_lt_of_cell f0)).trans f0
                obtain ⟨pbk, offk, ek, hck⟩ := HR.out.rd k hkl
                simp only [Option.some.injEq, Addr.mk.injEq, and_true] at ek
                obtain ⟨rfl, rfl⟩ := ek
                have h0 := hck 0 _ rfl
                rw [Nat.add_zero] at h0
                have z0 := (HY.out.2.cell (p := ⟨pb, off + k * 2, none⟩) (block_lt_of_cell h0)).trans h0
                rw [HLK.out] at z0
                have HG2 : Hidden (((pgs L).getD j (0, [])).1 = y.num) := ⟨by rw [List.getD_eq_getElem?_getD, hy2]; rfl⟩
                generalize y.num = yn at *
                clear f0 hc' h0 hck hy1 hy2 hjl x0'
                by_cases hyn : yn = num
                · subst hyn
                  have r1 : (yn == yn) = true := by simp
                  have HV1 := Hidden.mk (show ck = 7 by
                    rw [HCS.out, if_pos]
                    have hjp : j < (pgs L).length := by rw [HPL.out]; omega
                    refine List.mem_map.2 ⟨(pgs L)[j], List.mem_take_iff_getElem.2 ⟨j, by omega, rfl⟩, ?_⟩
                    have := HG2.out
                    rw [List.getD_eq_getElem?_getD, List.getElem?_eq_getElem hjp] at this
                    exact this)
                  have HB3 := Hidden.mk HY.out.2
                  clear HCS HY
                  go_wp2_with fail
                  go_quiet (fail)
                  go_wp2_with fail
                  go_ret
                  exact HBAD.out _ (below_drewN HB3.out _) 7 (by decide) HV1.out
                · have r1 : (yn == num) = false := by simpa using hyn
                  have HN : Hidden ((∀ i, i < j + 1 → ((pgs L).getD i (0, [])).1 ≠ num) ∧ Below w.heap.size w wr) := ⟨fun i hi => by
                    by_cases hij : i = j
                    · rw [hij, HG2.out]; exact hyn
                    · exact HY.out.1 i (by omega), HY.out.2⟩
                  clear hyn HY
                  go_wp2_with fail
                  go_quiet (fail)
                  go_wp2_with fail
                  go_roundg (k - (j + 1))
                  case measure => omega
                  case rel => exact ⟨j + 1, by omega, rfl, by go_num, ⟨HN.out.1, below_drewN HN.out.2 _⟩⟩
              · obtain rfl : j = k := by omega
                have t4 : decide ((j : Int) < j) = false := by simp
                have HN : Hidden (ck = chkL n (((pgs L).take (j + 1)).map (·.1)) ((pgs L).drop (j + 1)) ∧ Below w.heap.size w wr) := ⟨by
                  rw [HCS.out, if_neg (fun hin => ?_)]
                  obtain ⟨y, hy, e⟩ := List.mem_map.1 hin
                  obtain ⟨q, hq, e2⟩ := List.getElem_of_mem hy
                  have hq3 := hq
                  rw [List.length_take] at hq3
                  have hqj : q < j := by omega
                  have hq2 : q < (pgs L).length := by omega
                  refine HY.out.1 q hqj ?_
                  rw [List.getD_eq_getElem?_getD, List.getElem?_eq_getElem hq2]
                  rw [List.getElem_take] at e2
                  show ((pgs L)[q]'hq2).1 = num
                  rw [e2]; exact e, HY.out.2⟩
                clear HY HCS
                go_wp2_with fail
                go_roundg (m - (j + 1))
                case measure => omega
                case rel => exact ⟨j + 1, by omega, rfl, by go_num, HN⟩
          · have d4 : ((body.length : Int) != 32) = true := by simp; omega
            have HV1 := Hidden.mk (show ck = 3 by rw [HCS.out, if_pos h32])
            clear h32 HCS
            go_wp2_with fail
            go_ret
            exact HBAD.out _ HB2.out 3 (by decide) HV1.out
        · obtain rfl : k = m := by omega
          have t4 : decide ((k : Int) < k) = false := by simp
          have HN : Hidden (ck = 0 ∧ Below w.heap.size w wr) := ⟨by
            rw [HS.out.1, List.drop_eq_nil_of_le (by rw [HPL.out]; exact Nat.le_refl _)]
            rfl, HS.out.2⟩
          clear HS
          go_wp2_with fail
          go_meet
          exact HN
  case rest =>
  have HK := Hidden.mk hcut.out.1
  have HM1 := Hidden.mk (HM.out.below hcut.out.2)
  have HP1 := Hidden.mk (HP.out.below hcut.out.2)
  have HR1 := Hidden.mk (HR.out.below hcut.out.2)
  have HV1 := Hidden.mk (show r = if D.down = true then (D, 9) else if m = 0 then (D, 0) else
      andThen (andThen (andThen (andThen (andThen (runE (areaF ((st + 1) % 2)) 0 (pgs L) D) flD) (markF ((st + 1) % 2) (markB (st + 1) (pgs L)))) flD) (runE pageF 0 (pgs L))) flD by
    rw [HV.out, HK.out, if_neg (by decide), HPL.out, if_neg (show ¬ 4294967295 < st + 1 by omega)])
  have HCO := Hidden.mk (HCKZ.out HK.out)
  obtain ⟨⟨z0, z1, z2⟩, -⟩ := three HP1.out.1
  obtain ⟨-, z3⟩ := HM1.out.dev.cells
  clear hcut HM HP HR HV HCKZ HCH HK HC2 c2 t1 t2
  cases hd : D.down with
  | true =>
    have HQ := Hidden.mk (show r = (D, 9) by rw [HV1.out, if_pos hd])
    rw [hd] at z3
    clear HV1 hd
    go_wp2_with fail
    go_ret
    refine rcAns_bad (F' := F) ?_ ?_ ?_
    · rw [HQ.out]; rfl
    · rw [HQ.out]; exact .inl (by simp)
    · rw [HQ.out]; exact HM1.out.rc HP1.out
  | false =>
    rw [hd] at z3
    have HV2 := Hidden.mk (show r = if m = 0 then (D, 0) else
      andThen (andThen (andThen (andThen (andThen (runE (areaF ((st + 1) % 2)) 0 (pgs L) D) flD) (markF ((st + 1) % 2) (markB (st + 1) (pgs L)))) flD) (runE pageF 0 (pgs L))) flD by rw [HV1.out, if_neg (by rw [hd]; decide)])
    clear HV1 hd
    by_cases hm0 : m = 0
    · have HQ := Hidden.mk (show r = (D, 0) by rw [HV2.out, if_pos hm0])
      have HZ := Hidden.mk hm0
      have t1 : ((m : Int) == 0) = true := by simpa using hm0
      have t2 : (m == 0) = true := by simpa using hm0
      clear HV2 hm0
      go_wp2_with fail
      go_ret
      refine rcAns_bad (F' := F) ?_ ?_ ?_
      · rw [HQ.out]; rfl
      · exact .inr (HLM.out.trans HZ.out)
      · rw [HQ.out]; exact HM1.out.rc HP1.out
    have HQ := Hidden.mk (show r = andThen (andThen (andThen (andThen (andThen (runE (areaF ((st + 1) % 2)) 0 (pgs L) D) flD) (markF ((st + 1) % 2) (markB (st + 1) (pgs L)))) flD) (runE pageF 0 (pgs L))) flD by rw [HV2.out, if_neg hm0])
    have t1 : ((m : Int) == 0) = false := by simpa using hm0
    have t2 : (m == 0) = false := by simpa using hm0
    have s1 : IntKind.i64.wrap ((st : Int) + 1) = (st : Int) + 1 := IntWalk.i64_in _ (by omega)
    have ha2 : (st + 1) % 2 < 2 := Nat.mod_lt _ (by decide)
    have s2 : ((st : Int) + 1) % 2 = (((st + 1) % 2 : Nat) : Int) := by omega
    obtain ⟨a, hae⟩ : ∃ a, (st + 1) % 2 = a := ⟨_, rfl⟩
    rw [hae] at HQ ha2 s2
    have s3 : (m : Int) % 256 = (m : Int) := by omega
    have HMU : Hidden (bv (UInt8.ofNat m) = .int .u8 (m : Int)) := ⟨by show Value.int .u8 ((UInt8.ofNat m).toNat : Int) = _; rw [u8_small (by omega)]⟩
    obtain ⟨i0, hi0, hz0, hz1, hz2⟩ := info_parts byte_info
    have hal := (Below.refl wc.heap.size wc).alloc (Nat.le_refl _) (.cells #[.int .u8 (m : Int)] 5)
    have HST : Hidden (RbSt w0 wc (wc.alloc (.cells #[.int .u8 (m : Int)] 5)) F F p d st n a D A L (.slice (some ⟨wc.heap.size, 0, none⟩) 1 1) (UInt8.ofNat m :: (numsB (pgs L)).take 0) 0) := ⟨⟨⟨HM1.out.dev.below hal, Keep.of_below hal, fun _ hq => .inl hq⟩, HP1.out.below hal, ⟨by simp, .inr ⟨wc.heap.size, 1, #[.int .u8 (m : Int)], rfl, Nat.le_refl _, heap_alloc_new wc _, by simp, by simp [maxLen], by simp, by rw [List.take_zero, List.map_cons, HMU.out]; rfl⟩⟩, fun q hq hf => by
      have e : wc.heap.size = q := by simpa [Value.ownBlock] using hq
      have := HM1.out.dev.flt q hf
      omega⟩⟩
    have HKM := Hidden.mk (And.intro HM1.out.kp HM1.out.sub)
    clear HV2 hm0 hae hal
    have HS2 := Hidden.mk s2
    go_wp2_with fail
    clear s1 s2 s3 z0 z1 z2 z3
    go_loopg [9, 10, 11] m (fun rr v9 ev iv wy => ∃ (k : Nat) (F' : Nat → Prop), k ≤ m ∧ rr = m - k ∧ iv = .int .i64 (k : Int) ∧ ev = .int .i64 ((runE (areaF a) 0 ((pgs L).take k) D).2 : Nat) ∧ Hidden (RbSt w0 wc wy F F' p d st n a D A L v9 (UInt8.ofNat m :: (numsB (pgs L)).take k) k))
    case atStart => exact ⟨0, F, by omega, rfl, rfl, by rw [List.take_zero]; rfl, HST⟩
    case round =>
      obtain ⟨k, F', hk, rfl, rfl, rfl, hs⟩ := hrel
      have HS := Hidden.mk hs.out
      clear hs HST
      by_cases hlt : k < m
      · skip
        as_aux_lemma =>
          have i0' : (0 : Int) ≤ k := by omega
          have i1 : (k : Int) < m := by omega
          have s1 : IntKind.i64.wrap ((k : Int) + 1) = (k : Int) + 1 := IntWalk.i64_in _ (by omega)
          have hkl : k < L.length := by rw [HLM.out]; exact hlt
          have hkp : k < (pgs L).length := by rw [HPL.out]; exact hlt
          have hpr := HR1.out.mod HS.out.m.kp HS.out.m.sub
          obtain ⟨pb, off, rfl, hc⟩ := hpr.rd k hkl
          have x0 := hc 0 _ rfl
          have x1 := hc 1 _ rfl
          rw [Nat.add_zero] at x0
          have hbody := hpr.body L[k] (List.getElem_mem hkl)
          have hnbody := hpr.nb L[k] (List.getElem_mem hkl)
          have hpk : (pgs L)[k] = (L[k].num, L[k].body) := by simp [pgs]
          have hnb := HCO.out.each (L[k].num, L[k].body) (List.mem_map.2 ⟨L[k], List.getElem_mem hkl, rfl⟩)
          have hsn := runE_snoc (areaF a) (pgs L) k D hkp
          rw [hpk] at hsn
          have hnl : k < (numsB (pgs L)).length := by simp [numsB, HPL.out]; exact hlt
          have HBS : Hidden (UInt8.ofNat m :: (numsB (pgs L)).take (k + 1) = (UInt8.ofNat m :: (numsB (pgs L)).take k) ++ [UInt8.ofNat L[k].num.toNat]) := ⟨by
            rw [List.take_succ_eq_append_getElem hnl]
            have : (numsB (pgs L))[k] = UInt8.ofNat L[k].num.toNat := by simp [numsB, pgs]
            rw [this]; rfl⟩
          have HSN := Hidden.mk hsn
          have HX8 : Hidden (∀ (W : World) (F2 : Nat → Prop), Keep F wc W → (∀ q, F2 q → F q ∨ wc.heap.size ≤ q) → W.cell? ⟨pb, off + k * 2 + 1, none⟩ = some (.slice L[k].A L[k].body.length L[k].cap) ∧ Rd W L[k].A L[k].body ∧ (0 < L[k].body.length → ∀ ad, L[k].A = some ad → ¬ F2 ad.block)) := ⟨fun W F2 hk hs => by
            have hq := HR1.out.mod hk hs
            obtain ⟨pb', off', e', hc'⟩ := hq.rd k hkl
            simp only [Option.some.injEq, Addr.mk.injEq, and_true] at e'
            obtain ⟨rfl, rfl⟩ := e'
            exact ⟨hc' 1 _ rfl, hq.body L[k] (List.getElem_mem hkl), hq.nb L[k] (List.getElem_mem hkl)⟩⟩
          generalize L[k] = x at *
          obtain ⟨num, xA, xc, body⟩ := x
          dsimp only at *
          have s5 : num % 256 = num := by omega
          have HVU : Hidden (bv (UInt8.ofNat num.toNat) = .int .u8 num) := ⟨by show Value.int .u8 ((UInt8.ofNat num.toNat).toNat : Int) = _; rw [u8_small (by omega), Int.toNat_of_nonneg hnb.1]⟩
          have HBD := Hidden.mk (And.intro hbody (And.intro hnbody hnb))
          have hal := (Below.refl wr.heap.size wr).alloc (Nat.le_refl _) (.cells #[.int .u8 num] 5)
          have HAL := Hidden.mk hal
          obtain ⟨bs, hbs⟩ : ∃ bs, UInt8.ofNat m :: (numsB (pgs L)).take k = bs := ⟨_, rfl⟩
          rw [hbs] at HBS HS
          have hown2 := own_below HS.out.own hal
          have hsz := HS.out.m.kp.size
          have hnum : IntKind.u8.wrap num = num := IntWalk.u8_in _ (by omega)
          obtain ⟨R, hR⟩ : ∃ R, runE (areaF a) 0 ((pgs L).take k) D = R := ⟨_, rfl⟩
          rw [hR] at HSN
          rw [hR]
          have HRR := Hidden.mk hR
          clear hc hbody hnbody hpk hnb hsn hnl hal hbs hpr hR
          by_cases hR0 : R.2 = 0
          · have HSN := Hidden.mk (HSN.out.trans (if_pos hR0))
            have HZ := Hidden.mk hR0
            rw [hR0]
            clear hR0
            go_upto_region 26 with (fail)
            go_wp2_with (at_builtin; refine wpList_append_lies _ rfl (.tmp 92) (.tmp 99) _ rfl wc.heap.size 5 i0 _ 1 1 Tryd.underlying41 hi0 hz0 hz1 hz2 rfl (by decide) u9 (k + 1) (bs.map bv) rfl hown2 ⟨wr.heap.size, 0, none⟩ 1 1 [.int .u8 num] rfl rfl (World.news_of_block (cs := #[.int .u8 num]) (t := 5) (fr := (0, 0)) (heap_alloc_new wr _)) (by simp [Value.oneCell']) (by omega) (by simp only [maxLen]; omega) (by omega) (by simp; omega) (wr.heap.size + 1) (by simp) ?_; intro g8 cap8 w8 hown8 hg8 hat8 hlt8)
            have hgG := grown_trans' HAL.out hg8
            have hkG : Keep (fun q => u9.ownBlock = some q) wr w8 := ⟨hgG.os, hgG.tape, hgG.output, hgG.size, fun q hq hn => hgG.block q hq (fun e => hn e.symm)⟩
            have hm8 : RdM w0 wc w8 F F' d R.1 := by
              have hm := HS.out.m
              rw [HRR.out] at hm
              exact ⟨hm.dev.keep hkG (fun q hq e => HS.out.nf q e hq) (fun q e => Nat.le_trans HM1.out.dev.bel.size (HS.out.own.lt q e).1), hm.kp.trans hkG (fun q e => .inr (HS.out.own.lt q e).1), hm.sub⟩
            have hpne : ∀ q, u9.ownBlock = some q → p ≠ q := fun q e e2 => DevIs.ne_own HS.out.pg.1 HS.out.own (by decide) (e2 ▸ e)
            have hpg8 : PgR w8 F' p d st n := ⟨(hkG.block p HS.out.pg.lt (fun e => hpne p e rfl)).trans HS.out.pg.1, HS.out.pg.2⟩
            have hnf8 : ¬ F' g8 := fun hf => by
              rcases hat8 with h' | h'
              · exact HS.out.nf _ h' hf
              · have := HS.out.m.dev.flt _ hf; omega
            have hown9 : w8.ownsRow wc.heap.size 5 1 (.slice (some ⟨g8, 0, none⟩) (k + 1 + 1) cap8) (k + 1 + 1) ((UInt8.ofNat m :: (numsB (pgs L)).take (k + 1)).map bv) := by
              rw [HBS.out, List.map_append]
              show w8.ownsRow _ _ 1 _ (k + 1 + 1) (_ ++ [bv (UInt8.ofNat num.toNat)])
              rw [HVU.out]; exact hown8
            have HW8 := Hidden.mk (And.intro hm8 (And.intro hpg8 (And.intro hnf8 hown9)))
            clear hgG hkG hm8 hpne hpg8 hnf8 hown9 hown8 hg8 hat8 hlt8 hown2 hsz
            obtain ⟨y1, y2, y3⟩ := HX8.out w8 F' HW8.out.1.kp HW8.out.1.sub
            obtain ⟨⟨p0, -, -⟩, -⟩ := three HW8.out.2.1.1
            have hdr := (Below.refl w8.heap.size w8).drew
            have HM9 := Hidden.mk (HW8.out.1.below hdr)
            have HP9 := Hidden.mk (HW8.out.2.1.below hdr)
            have HO9 := Hidden.mk (own_below HW8.out.2.2.2 hdr)
            have HWR := Hidden.mk (HM9.out.dev.write (2 + 23 * (a : Int) + (k : Int)) xA body.length xc body rfl (y2.drewN 1) y3)
            have HAF : Hidden (wrD R.1 (2 + 23 * (a : Int) + (k : Int)) body = areaF a k (num, body) R.1) := ⟨by
              show _ = wrD R.1 ((areaP a k : Nat) : Int) body
              rw [show ((areaP a k : Nat) : Int) = 2 + 23 * (a : Int) + (k : Int) by unfold areaP; omega]⟩
            rw [HAF.out] at HWR
            have s6 : IntKind.i64.wrap (23 * (a : Int)) = 23 * (a : Int) := IntWalk.i64_in _ (by omega)
            have s7 : IntKind.i64.wrap (2 + 23 * (a : Int)) = 2 + 23 * (a : Int) := IntWalk.i64_in _ (by omega)
            have s8 : IntKind.i64.wrap (2 + 23 * (a : Int) + (k : Int)) = 2 + 23 * (a : Int) + (k : Int) := IntWalk.i64_in _ (by omega)
            obtain ⟨R2, hR2⟩ : ∃ R2, areaF a k (num, body) R.1 = R2 := ⟨_, rfl⟩
            rw [hR2] at HWR HSN
            have HG8 := Hidden.mk HW8.out.2.2.1
            clear hdr y2 y3 hR2 HAF HS HW8 HBD HX8
            go_upto_region 28 with (fail)
            go_still_tail 14, (by kernel_rfl)
            change wpList _ _ _ _ _ w8.drew
            clear y1 p0 x0 x1
            have hsz9 : w8.drew.heap.size = w8.heap.size := rfl
            generalize w8.drew = w9 at *
            go_wp2_with fail
            rw [← HS2.out] at HWR
            refine HWR.out.mono ?_
            rintro e w6 ⟨rfl, F6, hm6⟩
            have HN : Hidden (RbSt w0 wc w6 F F6 p d st n a D (some ⟨pb, off, none⟩) L (.slice (some ⟨g8, 0, none⟩) (k + 1 + 1) cap8) (UInt8.ofNat m :: (numsB (pgs L)).take (k + 1)) (k + 1)) := ⟨⟨by rw [HSN.out]; exact HM9.out.next hm6, HP9.out.mod hm6, ownsRow_block HO9.out fun q hq => by
              obtain rfl : g8 = q := by simpa [Value.ownBlock] using hq
              exact hm6.kp.block g8 (HO9.out.lt g8 rfl).2 HG8.out, fun q hq hf => by
              obtain rfl : g8 = q := by simpa [Value.ownBlock] using hq
              rcases hm6.sub _ hf with h' | h'
              · exact HG8.out h'
              · have := (HO9.out.lt g8 rfl).2; omega⟩⟩
            clear hm6 HWR HM9 HP9 HO9 HBS HRR
            go_wp2_with fail
            go_roundg (m - (k + 1))
            case measure => omega
            case rel => exact ⟨k + 1, F6, by omega, rfl, by go_num, by rw [HSN.out], HN⟩
          · have HSN := Hidden.mk (HSN.out.trans (if_neg hR0))
            have y1 : ((R.2 : Int) == 0) = false := by simp; omega
            have y2 : (R.2 == 0) = false := by simpa using hR0
            clear hR0
            go_wp2_with (at_builtin; refine wpList_append_lies _ rfl (.tmp 92) (.tmp 99) _ rfl wc.heap.size 5 i0 _ 1 1 Tryd.underlying41 hi0 hz0 hz1 hz2 rfl (by decide) u9 (k + 1) (bs.map bv) rfl hown2 ⟨wr.heap.size, 0, none⟩ 1 1 [.int .u8 num] rfl rfl (World.news_of_block (cs := #[.int .u8 num]) (t := 5) (fr := (0, 0)) (heap_alloc_new wr _)) (by simp [Value.oneCell']) (by omega) (by simp only [maxLen]; omega) (by omega) (by simp; omega) (wr.heap.size + 1) (by simp) ?_; intro g8 cap8 w8 hown8 hg8 hat8 hlt8)
            have hgG := grown_trans' HAL.out hg8
            have hkG : Keep (fun q => u9.ownBlock = some q) wr w8 := ⟨hgG.os, hgG.tape, hgG.output, hgG.size, fun q hq hn => hgG.block q hq (fun e => hn e.symm)⟩
            have hm8 : RdM w0 wc w8 F F' d R.1 := by
              have hm := HS.out.m
              rw [HRR.out] at hm
              exact ⟨hm.dev.keep hkG (fun q hq e => HS.out.nf q e hq) (fun q e => Nat.le_trans HM1.out.dev.bel.size (HS.out.own.lt q e).1), hm.kp.trans hkG (fun q e => .inr (HS.out.own.lt q e).1), hm.sub⟩
            have hpne : ∀ q, u9.ownBlock = some q → p ≠ q := fun q e e2 => DevIs.ne_own HS.out.pg.1 HS.out.own (by decide) (e2 ▸ e)
            have hpg8 : PgR w8 F' p d st n := ⟨(hkG.block p HS.out.pg.lt (fun e => hpne p e rfl)).trans HS.out.pg.1, HS.out.pg.2⟩
            have hnf8 : ¬ F' g8 := fun hf => by
              rcases hat8 with h' | h'
              · exact HS.out.nf _ h' hf
              · have := HS.out.m.dev.flt _ hf; omega
            have hown9 : w8.ownsRow wc.heap.size 5 1 (.slice (some ⟨g8, 0, none⟩) (k + 1 + 1) cap8) (k + 1 + 1) ((UInt8.ofNat m :: (numsB (pgs L)).take (k + 1)).map bv) := by
              rw [HBS.out, List.map_append]
              show w8.ownsRow _ _ 1 _ (k + 1 + 1) (_ ++ [bv (UInt8.ofNat num.toNat)])
              rw [HVU.out]; exact hown8
            have HW8 := Hidden.mk (And.intro hm8 (And.intro hpg8 (And.intro hnf8 hown9)))
            clear hgG hkG hm8 hpne hpg8 hnf8 hown9 hown8 hg8 hat8 hlt8 hown2 hsz
            have HN : Hidden (RbSt w0 wc w8 F F' p d st n a D (some ⟨pb, off, none⟩) L (.slice (some ⟨g8, 0, none⟩) (k + 1 + 1) cap8) (UInt8.ofNat m :: (numsB (pgs L)).take (k + 1)) (k + 1)) := ⟨⟨by rw [HSN.out]; exact HW8.out.1, HW8.out.2.1, HW8.out.2.2.2, fun q hq => by
              obtain rfl : g8 = q := by simpa [Value.ownBlock] using hq
              exact HW8.out.2.2.1⟩⟩
            clear HW8 HS HBD HBS HRR
            go_roundg (m - (k + 1))
            case measure => omega
            case rel => exact ⟨k + 1, F', by omega, rfl, by go_num, by rw [HSN.out], HN⟩
      · obtain rfl : k = m := by omega
        have t4 : decide ((k : Int) < k) = false := by simp
        obtain ⟨R, hR⟩ : ∃ R, runE (areaF a) 0 (pgs L) D = R := ⟨_, rfl⟩
        have HTK : Hidden ((pgs L).take k = pgs L) := ⟨List.take_of_length_le (by rw [HPL.out]; omega)⟩
        have hnb : (numsB (pgs L)).take k = numsB (pgs L) := List.take_of_length_le (by simp [numsB, HPL.out])
        have HRR := Hidden.mk hR
        rw [HTK.out, hR]
        have HT0 : Hidden (RcT w0 wc wr F F' p d st n (k + 1) R.1 u9 (UInt8.ofNat k :: numsB (pgs L))) := ⟨by
          have h := HS.out
          exact ⟨by have h1 := h.m; rw [HTK.out, HRR.out] at h1; exact h1, h.pg, by rw [← hnb]; exact h.own, h.nf⟩⟩
        have HMB : Hidden (makeB (st + 1) (UInt8.ofNat k :: numsB (pgs L)) = markB (st + 1) (pgs L) ∧ (UInt8.ofNat k :: numsB (pgs L)).length = k + 1) := ⟨by unfold markB; rw [HPL.out], by simp [numsB, HPL.out]⟩
        generalize UInt8.ofNat k :: numsB (pgs L) = bs at *
        clear hR hnb HS HTK i0 hi0 hz0 hz1 hz2 HMU
        obtain ⟨wb, rfl⟩ : ∃ wb : World, wb = wc := ⟨_, rfl⟩
        obtain ⟨X1, hX1⟩ : ∃ X, andThen R flD = X := ⟨_, rfl⟩
        obtain ⟨X2, hX2⟩ : ∃ X, andThen X1 (markF a (markB (st + 1) (pgs L))) = X := ⟨_, rfl⟩
        obtain ⟨X3, hX3⟩ : ∃ X, andThen X2 flD = X := ⟨_, rfl⟩
        obtain ⟨X4, hX4⟩ : ∃ X, andThen X3 (runE pageF 0 (pgs L)) = X := ⟨_, rfl⟩
        have hrX : r = andThen X4 flD := by rw [HQ.out, HRR.out, hX1, hX2, hX3, hX4]
        have HRX := Hidden.mk hrX
        have H1 := Hidden.mk hX1
        have H2 := Hidden.mk hX2
        have H3 := Hidden.mk hX3
        have H4 := Hidden.mk hX4
        clear hX1 hX2 hX3 hX4 hrX HQ HRR
        go_upto_if 119 with (fail)
        go_cut [10] (fun ev wx => ev = .int .i64 (X1.2 : Int) ∧ ∃ F1, Hidden (RcT w0 wb wx F F1 p d st n (k + 1) X1.1 u9 bs))
        case first =>
          obtain ⟨⟨p0, -, -⟩, -⟩ := three HT0.out.pg.1
          by_cases hR0 : R.2 = 0
          · have d1 : ((R.2 : Int) == 0) = true := by simp [hR0]
            have hx := (andThen_ok (g := flD) hR0).symm.trans H1.out
            have HF := Hidden.mk HT0.out.m.dev.flush
            rw [hx] at HF
            simp only [d1]
            clear d1 hx hR0
            go_wp2_with fail
            refine HF.out.mono ?_
            rintro e w6 ⟨rfl, F6, hm6⟩
            have HN := Hidden.mk (HT0.out.next hm6)
            clear hm6
            go_wp2_with fail
            go_meet
            exact ⟨rfl, F6, HN⟩
          · have d1 : ((R.2 : Int) == 0) = false := by simp; omega
            have HX := Hidden.mk ((andThen_ne (g := flD) hR0).symm.trans H1.out)
            simp only [d1]
            clear d1 hR0
            go_wp2_with fail
            go_meet
            exact ⟨by rw [← HX.out], F', ⟨by rw [← HX.out]; exact HT0.out⟩⟩
        case rest =>
        obtain ⟨rfl, F1, HT1⟩ := hcut
        obtain ⟨wA, rfl⟩ : ∃ wA : World, wA = wc := ⟨_, rfl⟩
        obtain ⟨g9, c9, rfl, hg9, hrow9⟩ := row_of_owns HT1.out.own HMB.out.2 (by omega)
        have HMK := Hidden.mk (refMake_ok (st + 1) (some ⟨g9, 0, none⟩) (k + 1) c9 bs wA HMB.out.2 (by omega) (by omega) (by omega) hrow9.rd)
        have HML : Hidden ((markB (st + 1) (pgs L)).length = 32) := ⟨by rw [← HMB.out.1]; exact makeB_len _ _ (by rw [HMB.out.2]; omega)⟩
        rw [show ((st + 1 : Nat) : Int) = (st : Int) + 1 by omega, HMB.out.1] at HMK
        clear HT0 hg9 hrow9
        go_wp2_with fail
        refine HMK.out.mono ?_
        rintro e w2 ⟨g, rfl, hg, hrow, hb2⟩
        have HT2 := Hidden.mk (HT1.out.below hb2)
        have HG : Hidden (Row w2 5 g 32 (markB (st + 1) (pgs L)) ∧ ¬ F1 g) := ⟨hrow, fun hf => by have := HT1.out.m.dev.flt _ hf; omega⟩
        clear hg hrow hb2 HMK HT1
        go_upto_if 132 with (fail)
        go_cut [10] (fun ev wx => ev = .int .i64 (X1.2 : Int) ∧ w2 = wx)
        case first =>
          by_cases hR0 : X1.2 = 0
          · have d1 : ((X1.2 : Int) == 0) = true := by simp [hR0]
            have HZ := Hidden.mk hR0
            simp only [d1]
            clear d1 hR0
            go_wp2_with fail
            go_meet
            exact ⟨by rw [HZ.out]; rfl, rfl⟩
          · have d1 : ((X1.2 : Int) == 0) = false := by simp; omega
            simp only [d1]
            clear d1 hR0
            go_wp2_with fail
            go_meet
            exact ⟨rfl, rfl⟩
        case rest =>
        obtain ⟨rfl, rfl⟩ := hcut
        go_upto_if 135 with (fail)
        go_cut [10] (fun ev wx => ev = .int .i64 (X2.2 : Int) ∧ ∃ F2, Hidden (RcT w0 wb wx F F2 p d st n (k + 1) X2.1 (.slice (some ⟨g9, 0, none⟩) (k + 1) c9) bs))
        case first =>
          obtain ⟨⟨p0, -, -⟩, -⟩ := three HT2.out.pg.1
          by_cases hR0 : X1.2 = 0
          · have d1 : ((X1.2 : Int) == 0) = true := by simp [hR0]
            have hx : wrD X1.1 (a : Int) (markB (st + 1) (pgs L)) = X2 := (andThen_ok (g := markF a (markB (st + 1) (pgs L))) hR0).symm.trans H2.out
            have HF := Hidden.mk (HT2.out.m.dev.write (a : Int) (some ⟨g, 0, none⟩) 32 32 (markB (st + 1) (pgs L)) HML.out HG.out.1.rd (fun _ ad e hf => HG.out.2 (by obtain rfl := Option.some.inj e; exact hf)))
            rw [hx] at HF
            rw [← HS2.out] at HF
            simp only [d1]
            clear d1 hx hR0
            go_wp2_with fail
            refine HF.out.mono ?_
            rintro e w6 ⟨rfl, F6, hm6⟩
            have HN := Hidden.mk (HT2.out.next hm6)
            clear hm6
            go_wp2_with fail
            go_meet
            exact ⟨rfl, F6, HN⟩
          · have d1 : ((X1.2 : Int) == 0) = false := by simp; omega
            have HX := Hidden.mk ((andThen_ne (g := markF a (markB (st + 1) (pgs L))) hR0).symm.trans H2.out)
            simp only [d1]
            clear d1 hR0
            go_wp2_with fail
            go_meet
            exact ⟨by rw [← HX.out], F1, ⟨by rw [← HX.out]; exact HT2.out⟩⟩
        case rest =>
        obtain ⟨rfl, F2, HT3⟩ := hcut
        obtain ⟨wB, rfl⟩ : ∃ wB : World, wB = wc := ⟨_, rfl⟩
        clear HT2 HG HML HMB
        go_upto_if 144 with (fail)
        go_cut [10] (fun ev wx => ev = .int .i64 (X3.2 : Int) ∧ ∃ F3, Hidden (RcT w0 wb wx F F3 p d st n (k + 1) X3.1 (.slice (some ⟨g9, 0, none⟩) (k + 1) c9) bs))
        case first =>
          obtain ⟨⟨p0, -, -⟩, -⟩ := three HT3.out.pg.1
          by_cases hR0 : X2.2 = 0
          · have d1 : ((X2.2 : Int) == 0) = true := by simp [hR0]
            have hx := (andThen_ok (g := flD) hR0).symm.trans H3.out
            have HF := Hidden.mk HT3.out.m.dev.flush
            rw [hx] at HF
            simp only [d1]
            clear d1 hx hR0
            go_wp2_with fail
            refine HF.out.mono ?_
            rintro e w6 ⟨rfl, F6, hm6⟩
            have HN := Hidden.mk (HT3.out.next hm6)
            clear hm6
            go_wp2_with fail
            go_meet
            exact ⟨rfl, F6, HN⟩
          · have d1 : ((X2.2 : Int) == 0) = false := by simp; omega
            have HX := Hidden.mk ((andThen_ne (g := flD) hR0).symm.trans H3.out)
            simp only [d1]
            clear d1 hR0
            go_wp2_with fail
            go_meet
            exact ⟨by rw [← HX.out], F2, ⟨by rw [← HX.out]; exact HT3.out⟩⟩
        case rest =>
        obtain ⟨rfl, F3, HT4⟩ := hcut
        obtain ⟨wC, rfl⟩ : ∃ wC : World, wC = wc := ⟨_, rfl⟩
        clear HT3
        have HT5 : Hidden (RcT w0 wb wC F F3 p d st n (k + 1) (andThen X3 (runE pageF 0 ((pgs L).take 0))).1 (.slice (some ⟨g9, 0, none⟩) (k + 1) c9) bs ∧ (andThen X3 (runE pageF 0 ((pgs L).take 0))).2 = X3.2) := ⟨by
          rw [List.take_zero]
          have e : andThen X3 (runE pageF 0 []) = X3 := by
            unfold andThen
            split
            · rename_i h; exact Prod.ext rfl h.symm
            · rfl
          rw [e]; exact ⟨HT4.out, rfl⟩⟩
        clear HT4
        go_upto_block 6 with (fail)
        go_cut [10] (fun ev wx => ev = .int .i64 (X4.2 : Int) ∧ ∃ F4, Hidden (RcT w0 wb wx F F4 p d st n (k + 1) X4.1 (.slice (some ⟨g9, 0, none⟩) (k + 1) c9) bs))
        case first =>
          go_wp2_with fail
          go_loopg [10, 14] k (fun rr ev iv wy => ∃ (j : Nat) (F5 : Nat → Prop), j ≤ k ∧ rr = k - j ∧ iv = .int .i64 (j : Int) ∧ ev = .int .i64 ((andThen X3 (runE pageF 0 ((pgs L).take j))).2 : Nat) ∧ Hidden (RcT w0 wb wy F F5 p d st n (k + 1) (andThen X3 (runE pageF 0 ((pgs L).take j))).1 (.slice (some ⟨g9, 0, none⟩) (k + 1) c9) bs))
          case atStart => exact ⟨0, F3, by omega, rfl, rfl, by rw [HT5.out.2], ⟨HT5.out.1⟩⟩
          case round =>
            obtain ⟨j, F5, hj, rfl, rfl, rfl, hs⟩ := hrel
            have HS := Hidden.mk hs.out
            have HDN := Hidden.mk (pgY_done X3 (pgs L) j)
            have HSP := Hidden.mk (pgY_step X3 (pgs L) j)
            obtain ⟨Y, hY⟩ : ∃ Y, andThen X3 (runE pageF 0 ((pgs L).take j)) = Y := ⟨_, rfl⟩
            rw [hY] at HS HDN HSP
            rw [hY]
            clear hs HT5 hY
            by_cases hlt : j < k
            · have i0' : (0 : Int) ≤ j := by omega
              have i1 : (j : Int) < k := by omega
              have e1 : decide ((j : Int) < k) = true := by simp; omega
              by_cases hY0 : Y.2 = 0
              · have d1 : ((Y.2 : Int) == 0) = true := by simp [hY0]
                have s1 : IntKind.i64.wrap ((j : Int) + 1) = (j : Int) + 1 := IntWalk.i64_in _ (by omega)
                have hjl : j < L.length := by rw [HLM.out]; exact hlt
                have hjp : j < (pgs L).length := by rw [HPL.out]; exact hlt
                have hpr := HR1.out.mod HS.out.m.kp HS.out.m.sub
                obtain ⟨pb, off, rfl, hc⟩ := hpr.rd j hjl
                have x0 := hc 0 _ rfl
                have x1 := hc 1 _ rfl
                rw [Nat.add_zero] at x0
                have hbody := hpr.body L[j] (List.getElem_mem hjl)
                have hnbody := hpr.nb L[j] (List.getElem_mem hjl)
                have hpk : (pgs L)[j] = (L[j].num, L[j].body) := by simp [pgs]
                have hnb := HCO.out.each (L[j].num, L[j].body) (List.mem_map.2 ⟨L[j], List.getElem_mem hjl, rfl⟩)
                have HST := Hidden.mk ((HSP.out hjp hY0).trans (by rw [hpk]))
                have HXR := Hidden.mk (And.intro hbody hnbody)
                generalize L[j] = x at *
                obtain ⟨num, xA, xc, body⟩ := x
                dsimp only at *
                have s6 : IntKind.i64.wrap (48 + num) = 48 + num := IntWalk.i64_in _ (by omega)
                obtain ⟨⟨p0, -, -⟩, -⟩ := three HS.out.pg.1
                have hdr := (Below.refl wr.heap.size wr).drew
                have HM9 := Hidden.mk (HS.out.below hdr)
                have HWR := Hidden.mk (HM9.out.m.dev.write (48 + num) xA body.length xc body rfl (HXR.out.1.drewN 1) HXR.out.2)
                obtain ⟨Y2, hY2⟩ : ∃ Y2, wrD Y.1 (48 + num) body = Y2 := ⟨_, rfl⟩
                have HS2' : Hidden (andThen X3 (runE pageF 0 ((pgs L).take (j + 1))) = Y2) := ⟨by rw [HST.out]; exact hY2⟩
                rw [hY2] at HWR
                clear hc hbody hnbody hpk hnb hpr hdr hY2 HST HS HSP HDN HXR hY0
                go_upto_region 41 with (fail)
                go_still_tail 15, (by kernel_rfl)
                change wpList _ _ _ _ _ wr.drew
                clear p0 x0 x1
                generalize wr.drew = w9 at *
                go_wp2_with fail
                refine HWR.out.mono ?_
                rintro e w6 ⟨rfl, F6, hm6⟩
                have HN := Hidden.mk (HM9.out.next hm6)
                rw [← HS2'.out] at HN
                clear hm6 HWR HM9
                go_wp2_with fail
                go_roundg (k - (j + 1))
                case measure => omega
                case rel => exact ⟨j + 1, F6, by omega, rfl, by go_num, by rw [HS2'.out], HN⟩
              · have d1 : ((Y.2 : Int) == 0) = false := by simp; omega
                have d2 : (Y.2 == 0) = false := by simpa using hY0
                have hX := (HDN.out (.inl hY0)).trans H4.out
                have HX := Hidden.mk hX
                clear hY0 hX HDN HSP
                go_wp2_with fail
                go_meet
                exact ⟨by rw [← HX.out], F5, ⟨by rw [← HX.out]; exact HS.out⟩⟩
            · obtain rfl : j = k := by omega
              have e1 : decide ((j : Int) < j) = false := by simp
              have hX := (HDN.out (.inr (by rw [HPL.out]; omega))).trans H4.out
              have HX := Hidden.mk hX
              clear hX HDN HSP
              go_wp2_with fail
              go_meet
              exact ⟨by rw [← HX.out], F5, ⟨by rw [← HX.out]; exact HS.out⟩⟩
        case rest =>
        obtain ⟨rfl, F4, HT6⟩ := hcut
        obtain ⟨wD, rfl⟩ : ∃ wD : World, wD = wc := ⟨_, rfl⟩
        clear HT5
        have HFN : Hidden (∀ F7 w7 (X : Dv × Nat), RcT w0 wb w7 F F7 p d st n (k + 1) X.1 (.slice (some ⟨g9, 0, none⟩) (k + 1) c9) bs → r = X → (X.2 ≠ 0 → RcAns w0 w F p d st n L r (.returned (.int .i64 (X.2 : Int))) w7) ∧ (X.2 = 0 → RcAns w0 w F p d st n L r (.returned (.int .i64 0)) (w7.setCell ⟨p, 1, none⟩ (.int .i64 ((st : Int) + 1))))) := ⟨fun F7 w7 X ht hr => by
          have hm := HM1.out.next ht.m
          refine ⟨fun h0 => rcAns_bad (F' := F7) (by rw [hr]) (.inl (by rw [hr]; exact h0)) (by rw [hr]; exact hm.rc ht.pg), fun h0 => rcAns_ok (F' := F7) (by rw [hr, h0]; rfl) (by rw [hr]; exact h0) (by rw [HLM.out]; simpa using t2) ?_⟩
          rw [hr]
          have hps := ht.pg.set (st + 1)
          rw [show ((st + 1 : Nat) : Int) = (st : Int) + 1 by omega] at hps
          have hk : Keep (fun q => q = p) w7 (w7.setCell ⟨p, 1, none⟩ (.int .i64 ((st : Int) + 1))) := keep_cell _
          exact ⟨hm.dev.keep hk (fun q hq e => ht.pg.2 (e ▸ hq)) (fun q e => e ▸ H0.out), (hm.kp.wide (fun _ hq => .inl hq)).trans (hk.wide (G := fun q => F q ∨ q = p) (fun _ hq => .inr hq)) (fun _ hq => .inl hq), hm.sub, hps⟩⟩
        obtain ⟨⟨p0, -, -⟩, -⟩ := three HT6.out.pg.1
        by_cases hR0 : X4.2 = 0
        · have d1 : ((X4.2 : Int) == 0) = true := by simp [hR0]
          have hx := (andThen_ok (g := flD) hR0).symm.trans HRX.out.symm
          have HF := Hidden.mk HT6.out.m.dev.flush
          rw [hx] at HF
          clear hx hR0
          go_wp2_with fail
          clear d1
          refine HF.out.mono ?_
          rintro e w6 ⟨rfl, F6, hm6⟩
          have HN := Hidden.mk (HFN.out F6 w6 r (HT6.out.next hm6) rfl)
          obtain ⟨⟨p0', p1', -⟩, pf⟩ := three (HT6.out.next hm6).pg.1
          have f1 := pf 1
          clear hm6 pf p0
          by_cases hr0 : r.2 = 0
          · have d1 : ((r.2 : Int) == 0) = true := by simp [hr0]
            have HZ := Hidden.mk (HN.out.2 hr0)
            rw [hr0]
            clear hr0 HN d1
            go_wp2_with fail
            go_ret
            exact HZ.out
          · have d1 : ((r.2 : Int) == 0) = false := by simp; omega
            have d2 : (r.2 == 0) = false := by simpa using hr0
            have HZ := Hidden.mk (HN.out.1 hr0)
            clear hr0 HN
            go_wp2_with fail
            go_ret
            exact HZ.out
        · have d1 : ((X4.2 : Int) == 0) = false := by simp; omega
          have d2 : (X4.2 == 0) = false := by simpa using hR0
          have hx := (andThen_ne (g := flD) hR0).symm.trans HRX.out.symm
          have HZ := Hidden.mk ((HFN.out F4 wD X4 HT6.out hx.symm).1 hR0)
          clear hx hR0
          go_wp2_with fail
          go_ret
          exact HZ.out
end
end Go.Proofs.YtbnobjlphmkgeaaDoor
/- PagesPlays: what the law has at hand: both devices, both Pages. -/
namespace Go.Proofs.YtbnobjlphmkgeaaDoor
open Go.RowKit Go.Maps Go.ChangeMaps

/-- both devices and both Pages; the devices may stand apart in the midst of a step -/
structure Pg2 (w0 w : World) (Fp Fr : Nat → Prop) (dp dr pp pr n sp sr : Nat) (Dp Dr : Dv) : Prop where
  dv : Dv2 w0 w Fp Fr dp dr Dp Dr
  pg : PgH w Fp pp dp sp n
  rg : PgR w Fr pr dr sr n
  x1 : ¬ Fr pp
  x2 : ¬ Fp pr
  ne : pp ≠ pr
  b1 : w0.heap.size ≤ pp
  b2 : w0.heap.size ≤ pr
section
variable {w0 w w' : World} {Fp Fr F' : Nat → Prop} {dp dr pp pr n sp sr st' : Nat} {Dp Dr D' : Dv}
theorem Pg2.below (a : Pg2 w0 w Fp Fr dp dr pp pr n sp sr Dp Dr) (hb : Below w.heap.size w w') : Pg2 w0 w' Fp Fr dp dr pp pr n sp sr Dp Dr :=
  ⟨a.dv.below hb, a.pg.below hb, a.rg.below hb, a.x1, a.x2, a.ne, a.b1, a.b2⟩
theorem Pg2.rdb (a : Pg2 w0 w Fp Fr dp dr pp pr n sp sr Dp Dr) : RDB w0 w Fr dr Dr := ⟨a.dv.r, a.dv.rn, a.dv.p.bel⟩
theorem far_of {F F' : Nat → Prop} {q : Nat} (hF : ∀ k, F' k → F k ∨ w.heap.size ≤ k) (hq : ¬ F q) (hl : q < w.heap.size) : ¬ F' q := fun h => by
  rcases hF q h with h' | h'
  · exact hq h'
  · omega
/-- the program's Commit -/
theorem Pg2.cm (a : Pg2 w0 w Fp Fr dp dr pp pr n sp sr Dp Dr) (hm : CmM w0 w w' Fp F' pp dp st' n D') : Pg2 w0 w' F' Fr dp dr pp pr n st' sr D' Dr := by
  obtain ⟨Y, hY⟩ := a.dv.r
  refine ⟨⟨hm.dev, ⟨Y, hY.keep hm.kp (fun q hq hf => ?_)⟩, fun q hq hr => ?_, a.dv.rn⟩, hm.pg, ⟨(hm.kp.block _ a.rg.lt (fun hf => ?_)).trans a.rg.1, a.rg.2⟩, a.x1, far_of hm.sub a.x2 a.rg.lt, a.ne, a.b1, a.b2⟩
  · rcases hf with hf | hf
    · exact a.dv.dj q hf hq
    · exact a.x1 (hf ▸ hq)
  · rcases hm.sub q hq with h' | h'
    · exact a.dv.dj q h' hr
    · have := a.dv.rlt q hr; omega
  · rcases hf with hf | hf
    · exact a.x2 hf
    · exact a.ne hf.symm
/-- the reference's Commit -/
theorem Pg2.rc (a : Pg2 w0 w Fp Fr dp dr pp pr n sp sr Dp Dr) (hm : RcM w0 w w' Fr F' pr dr st' n D') : Pg2 w0 w' Fp F' dp dr pp pr n sp st' Dp D' := by
  have hp := a.dv.p
  refine ⟨⟨hp.keep (G := fun k => Fr k ∨ k = pr) hm.kp (fun q hq hf => ?_) (fun q hf => ?_), hm.dev.dev, fun q hq hr => ?_, hm.dev.new⟩, ⟨(hm.kp.block _ a.pg.lt (fun hf => ?_)).trans a.pg.1, a.pg.2⟩, hm.pg, far_of hm.sub a.x1 a.pg.lt, a.x2, a.ne, a.b1, a.b2⟩
  · rcases hf with hf | hf
    · exact a.dv.dj q hq hf
    · exact a.x2 (hf ▸ hq)
  · rcases hf with hf | hf
    · exact a.dv.rn q hf
    · exact hf ▸ a.b2
  · rcases hm.sub q hr with h' | h'
    · exact a.dv.dj q hq h'
    · have := hp.flt q hq; omega
  · rcases hf with hf | hf
    · exact a.x1 hf
    · exact a.ne hf
/-- the program's device alone -/
theorem Pg2.stP (a : Pg2 w0 w Fp Fr dp dr pp pr n sp sr Dp Dr) (hd : DevB w0 w' F' dp D') (hk : Keep Fp w w') (hs : ∀ q, F' q → Fp q ∨ w.heap.size ≤ q) : Pg2 w0 w' F' Fr dp dr pp pr n sp sr D' Dr :=
  ⟨a.dv.stepP hd hk hs, a.pg.keep hk hs, ⟨(hk.block _ a.rg.lt a.x2).trans a.rg.1, a.rg.2⟩, a.x1, far_of hs a.x2 a.rg.lt, a.ne, a.b1, a.b2⟩
/-- the reference's device alone -/
theorem Pg2.stR (a : Pg2 w0 w Fp Fr dp dr pp pr n sp sr Dp Dr) {Y' : RLay} (hr : RdIs w' F' dr D' Y') (hk : Keep Fr w w') (hs : ∀ q, F' q → Fr q ∨ w.heap.size ≤ q) : Pg2 w0 w' Fp F' dp dr pp pr n sp sr Dp D' :=
  ⟨a.dv.stepR hr hk hs, ⟨(hk.block _ a.pg.lt a.x1).trans a.pg.1, a.pg.2⟩, a.rg.keep hk hs, far_of hs a.x1 a.pg.lt, a.x2, a.ne, a.b1, a.b2⟩
end
end Go.Proofs.YtbnobjlphmkgeaaDoor
/- What a law keeps of a step: four numbers in a block of their own. -/
namespace Go.Proofs.YtbnobjlphmkgeaaDoor
open Go.RowKit Go.Maps Go.ChangeMaps

/-- the four numbers of a step, so far as they are read -/
def vq (s : List Int) (j q : Nat) : Int := if q < j then s.getD q 0 else 0
def vArr (s : List Int) (j : Nat) : Array Value := #[.int .i64 (vq s j 0), .int .i64 (vq s j 1), .int .i64 (vq s j 2), .int .i64 (vq s j 3)]
def vObj (s : List Int) (j : Nat) : Obj := .cells (vArr s j) 39 (0, 0)
theorem vArr_set (s : List Int) (j : Nat) (hj : j < 4) : (vArr s j).setIfInBounds j (.int .i64 (s.getD j 0)) = vArr s (j + 1) := by
  match j, hj with
  | 0, _ => rfl
  | 1, _ => rfl
  | 2, _ => rfl
  | 3, _ => rfl
theorem vArr_at (s : List Int) (j q : Nat) (hq : q < 4) : ∃ u, (vArr s j)[q]? = some u := ⟨(vArr s j)[q]'hq, Array.getElem?_eq_getElem _⟩
theorem vq_end {s : List Int} {j q : Nat} (hj : j ≤ s.length) (hj4 : j ≤ 4) (h : ¬ (j < s.length ∧ j < 4)) (hq : q < 4) : vq s j q = s.getD q 0 := by
  unfold vq
  by_cases hqj : q < j
  · rw [if_pos hqj]
  · rw [if_neg hqj, List.getD_eq_getElem?_getD, List.getElem?_eq_none (by omega)]; rfl
theorem getD_in {s : List Int} (h : ∀ y ∈ s, -9223372036854775808 ≤ y ∧ y ≤ 9223372036854775807) (q : Nat) : -9223372036854775808 ≤ s.getD q 0 ∧ s.getD q 0 ≤ 9223372036854775807 := by
  rw [List.getD_eq_getElem?_getD]
  by_cases hq : q < s.length
  · rw [List.getElem?_eq_getElem hq]; exact h _ (List.getElem_mem hq)
  · rw [List.getElem?_eq_none (by omega)]; exact ⟨by decide, by decide⟩
theorem Own2.c1 {w : World} {Fp Fr : Nat → Prop} {q : Nat} {a b c d : Value} {t : TypeId} (h : Own2 w Fp Fr q (.cells #[a, b, c, d] t (0, 0))) : w.cell? ⟨q, 1, none⟩ = some b ∧ w.cell? ⟨q, 2, none⟩ = some c := ⟨(fourF h.1).1.2.1, (fourF h.1).1.2.2.1⟩
end Go.Proofs.YtbnobjlphmkgeaaDoor
/- PagesPlays: the law's state: both devices, both Pages, and v, the four numbers of a step; the pages that are picked. -/
namespace Go.Proofs.YtbnobjlphmkgeaaDoor
open Go.RowKit Go.Maps Go.ChangeMaps

theorem pgX_info : (Tryd.prog.info? 43).map (fun i => (i.zero, i.size, i.bytes)) = some (some (.agg #[.int .i64 0, .slice none 0 0]), 2, 32) := by kernel_rfl
section
variable {w0 w w' : World} {Fp Fr F' G : Nat → Prop} {dp dr pp pr n sp sr st' av p : Nat} {Dp Dr D' : Dv} {o o' : Obj}
theorem Pg2.far (a : Pg2 w0 w Fp Fr dp dr pp pr n sp sr Dp Dr) (hk : Keep G w w') (h1 : ∀ q, Fp q → ¬ G q) (h2 : ∀ q, Fr q → ¬ G q) (h3 : ¬ G pp) (h4 : ¬ G pr) (h5 : ∀ q, G q → w0.heap.size ≤ q) : Pg2 w0 w' Fp Fr dp dr pp pr n sp sr Dp Dr := by
  obtain ⟨Y, hY⟩ := a.dv.r
  exact ⟨⟨a.dv.p.keep hk h1 h5, ⟨Y, hY.keep hk h2⟩, a.dv.dj, a.dv.rn⟩, ⟨(hk.block _ a.pg.lt h3).trans a.pg.1, a.pg.2⟩, ⟨(hk.block _ a.rg.lt h4).trans a.rg.1, a.rg.2⟩, a.x1, a.x2, a.ne, a.b1, a.b2⟩
/-- the program's pages are opened anew -/
theorem Pg2.opP (a : Pg2 w0 w Fp Fr dp dr pp pr n sp sr Dp Dr) (hm : PdM w0 w w' Fp F' dp D') (hp : PgH w' F' p dp st' n) (hn : w.heap.size ≤ p) : Pg2 w0 w' F' Fr dp dr p pr n st' sr D' Dr :=
  have b := a.stP hm.dev hm.kp hm.sub
  ⟨b.dv, hp, b.rg, fun h => by have := a.dv.rlt _ h; omega, b.x2, fun e => by have := a.rg.lt; omega, Nat.le_trans a.dv.p.bel.size hn, b.b2⟩
theorem Pg2.opR (a : Pg2 w0 w Fp Fr dp dr pp pr n sp sr Dp Dr) (hm : RdM w0 w w' Fr F' dr D') (hp : PgR w' F' p dr st' n) (hn : w.heap.size ≤ p) : Pg2 w0 w' Fp F' dp dr pp p n sp st' Dp D' := by
  obtain ⟨Y', hY'⟩ := hm.dev.dev
  have b := a.stR hY' hm.kp hm.sub
  exact ⟨b.dv, b.pg, hp, b.x1, fun h => by have := a.dv.p.flt _ h; omega, fun e => by have := a.pg.lt; omega, b.b1, Nat.le_trans a.dv.p.bel.size hn⟩
end
/-- .. and v -/
structure Pgv (w0 w : World) (Fp Fr : Nat → Prop) (dp dr pp pr n sp sr av : Nat) (Dp Dr : Dv) (o : Obj) : Prop where
  pg : Pg2 w0 w Fp Fr dp dr pp pr n sp sr Dp Dr
  ow : Own2 w Fp Fr av o
  n1 : av ≠ pp
  n2 : av ≠ pr
  nw : w0.heap.size ≤ av
section
variable {w0 w w' : World} {Fp Fr F' G : Nat → Prop} {dp dr pp pr n sp sr st' av p : Nat} {Dp Dr D' : Dv} {o o' : Obj}
theorem Pgv.lt (a : Pgv w0 w Fp Fr dp dr pp pr n sp sr av Dp Dr o) : av < w.heap.size := (Array.getElem?_eq_some_iff.1 a.ow.1).1
theorem Pgv.below (a : Pgv w0 w Fp Fr dp dr pp pr n sp sr av Dp Dr o) (hb : Below w.heap.size w w') : Pgv w0 w' Fp Fr dp dr pp pr n sp sr av Dp Dr o := ⟨a.pg.below hb, a.ow.below hb, a.n1, a.n2, a.nw⟩
theorem Pgv.set (a : Pgv w0 w Fp Fr dp dr pp pr n sp sr av Dp Dr o) (hk : Keep (fun q => q = av) w w') (ho : w'.heap[av]? = some o') : Pgv w0 w' Fp Fr dp dr pp pr n sp sr av Dp Dr o' :=
  ⟨a.pg.far hk (fun _ hq e => a.ow.2.1 (e ▸ hq)) (fun _ hq e => a.ow.2.2 (e ▸ hq)) (fun e => a.n1 e.symm) (fun e => a.n2 e.symm) (fun _ e => e ▸ a.nw), ⟨ho, a.ow.2⟩, a.n1, a.n2, a.nw⟩
theorem Own2.kept (h : Own2 w Fp Fr av o) (hk : Keep G w w') (hg : ¬ G av) (hs : ∀ q, F' q → Fp q ∨ w.heap.size ≤ q) : Own2 w' F' Fr av o := by
  have hl := (Array.getElem?_eq_some_iff.1 h.1).1
  exact ⟨(hk.block av hl hg).trans h.1, fun hf => by
    rcases hs av hf with h' | h'
    · exact h.2.1 h'
    · omega, h.2.2⟩
theorem Own2.keptR (h : Own2 w Fp Fr av o) (hk : Keep G w w') (hg : ¬ G av) (hs : ∀ q, F' q → Fr q ∨ w.heap.size ≤ q) : Own2 w' Fp F' av o := by
  have hl := (Array.getElem?_eq_some_iff.1 h.1).1
  exact ⟨(hk.block av hl hg).trans h.1, h.2.1, fun hf => by
    rcases hs av hf with h' | h'
    · exact h.2.2 h'
    · omega⟩
theorem Pgv.cm (a : Pgv w0 w Fp Fr dp dr pp pr n sp sr av Dp Dr o) (hm : CmM w0 w w' Fp F' pp dp st' n D') : Pgv w0 w' F' Fr dp dr pp pr n st' sr av D' Dr o :=
  ⟨a.pg.cm hm, a.ow.kept hm.kp (fun h => by rcases h with h | h; exact a.ow.2.1 h; exact a.n1 h) hm.sub, a.n1, a.n2, a.nw⟩
theorem Pgv.rc (a : Pgv w0 w Fp Fr dp dr pp pr n sp sr av Dp Dr o) (hm : RcM w0 w w' Fr F' pr dr st' n D') : Pgv w0 w' Fp F' dp dr pp pr n sp st' av Dp D' o :=
  ⟨a.pg.rc hm, a.ow.keptR hm.kp (fun h => by rcases h with h | h; exact a.ow.2.2 h; exact a.n2 h) hm.sub, a.n1, a.n2, a.nw⟩
theorem Pgv.stP (a : Pgv w0 w Fp Fr dp dr pp pr n sp sr av Dp Dr o) (hd : DevB w0 w' F' dp D') (hk : Keep Fp w w') (hs : ∀ q, F' q → Fp q ∨ w.heap.size ≤ q) : Pgv w0 w' F' Fr dp dr pp pr n sp sr av D' Dr o :=
  ⟨a.pg.stP hd hk hs, a.ow.stepP hk hs, a.n1, a.n2, a.nw⟩
theorem Pgv.stR (a : Pgv w0 w Fp Fr dp dr pp pr n sp sr av Dp Dr o) {Y' : RLay} (hr : RdIs w' F' dr D' Y') (hk : Keep Fr w w') (hs : ∀ q, F' q → Fr q ∨ w.heap.size ≤ q) : Pgv w0 w' Fp F' dp dr pp pr n sp sr av Dp D' o :=
  ⟨a.pg.stR hr hk hs, a.ow.stepR hk hs, a.n1, a.n2, a.nw⟩
theorem Pgv.opP (a : Pgv w0 w Fp Fr dp dr pp pr n sp sr av Dp Dr o) (hm : PdM w0 w w' Fp F' dp D') (hp : PgH w' F' p dp st' n) (hn : w.heap.size ≤ p) : Pgv w0 w' F' Fr dp dr p pr n st' sr av D' Dr o :=
  ⟨a.pg.opP hm hp hn, a.ow.stepP hm.kp hm.sub, fun e => by have := a.lt; omega, a.n2, a.nw⟩
theorem Pgv.opR (a : Pgv w0 w Fp Fr dp dr pp pr n sp sr av Dp Dr o) (hm : RdM w0 w w' Fr F' dr D') (hp : PgR w' F' p dr st' n) (hn : w.heap.size ≤ p) : Pgv w0 w' Fp F' dp dr pp p n sp st' av Dp D' o :=
  ⟨a.pg.opR hm hp hn, a.ow.stepR hm.kp hm.sub, a.n1, fun e => by have := a.lt; omega, a.nw⟩
theorem Pgv.four {v0 v1 v2 v3 : Int} {t : TypeId} (a : Pgv w0 w Fp Fr dp dr pp pr n sp sr av Dp Dr (.cells #[.int .i64 v0, .int .i64 v1, .int .i64 v2, .int .i64 v3] t (0, 0))) : w.cell? ⟨av, 0, none⟩ = some (.int .i64 v0) ∧ w.cell? ⟨av, 1, none⟩ = some (.int .i64 v1) ∧ w.cell? ⟨av, 2, none⟩ = some (.int .i64 v2) ∧ w.cell? ⟨av, 3, none⟩ = some (.int .i64 v3) := (fourF a.ow.1).1
end
/-- pages that are a row of one's own, their bodies what came in -/
theorem pgsR_in {w0 w : World} {F : Nat → Prop} {A : Option Addr} {X : List PgX} (hx : RdX pcells 2 w A X) (hA : 0 < X.length → ∀ ad, A = some ad → ¬ F ad.block) (hF : ∀ q, F q → w0.heap.size ≤ q) (ho : ∀ x ∈ X, PgOk w0 x) (hb : Below w0.heap.size w0 w) : PgsR w F A X :=
  ⟨hx, hA, fun x h => (ho x h).rd.below hb, fun x h hl ad e hf => by
    obtain ⟨b, off, e2, hlt⟩ := (ho x h).rd.lt hl
    rw [e] at e2
    obtain rfl := Option.some.inj e2
    have := hF _ hf
    dsimp only at *
    omega⟩
end Go.Proofs.YtbnobjlphmkgeaaDoor
/- What comes in: the program's own slices, opened. -/
namespace Go.Proofs.YtbnobjlphmkgeaaDoor
open Go.RowKit Go.ChangeShapes Go.WideShapes Go.ChangeAt

section
variable {H : Type} {enc : TypeId × Value → H} {w : World} {v : Value} {d : DataW H} {ps : List MemPlace} {base : Nat} {r : Reach}
set_option maxRecDepth 20000 in
theorem open_pages (hv : Value.okWide Tryd.prog w r base 23 v) (h : DataW.Trod enc Tryd.prog w 0 (fun _ => true) true 23 v d ps) (hz : (d.weights Tryd.prog 23).all (· ≤ reachBytes) = true) :
    ∃ (A : Option Addr) (c : Nat) (L : List PgX), v = .slice A L.length c ∧ L.length ≤ c ∧ c ≤ 140737488351232 ∧ (∀ x ∈ L, PgOk w x) ∧ RdX pcells 2 w A L := by
  have hb : decide (1 ≤ Tryd.prog.bytesOf 43) = true := by kernel_rfl
  have hC : Tryd.prog.cellsOf 43 = 2 := by kernel_rfl
  refine open_seq (P := Tryd.prog) pcells 2 PgOk Tryd.underlying23 hC (by omega) (of_decide_eq_true hb) (fun n cs x hl ht hz => ?_) hv h hz
  obtain ⟨v0, v1, y0, y1, m, rfl, t0, t1, z0, z1⟩ := open_two Tryd.underlying43 ⟨rfl, by kernel_rfl⟩ ⟨rfl, by kernel_rfl⟩ hl ht hz
  obtain ⟨a, ha, -, wa⟩ := DataW.trod_int Tryd.underlying3 t0
  obtain ⟨A, c, l, hb, hc, hm, hr⟩ := open_bytes_in Tryd.underlying41 Tryd.underlying5 (by kernel_rfl) (by kernel_rfl) t1 z1
  simp only [List.cons.injEq, and_true] at ha
  have hw := wf_i64' wa
  exact ⟨⟨a, A, c, l⟩, by rw [ha, hb]; rfl, hw.1, hw.2, hc, hm, hr⟩
set_option maxRecDepth 20000 in
/-- booleans that came in -/
theorem open_bools (hv : Value.okWide Tryd.prog w r base 24 v) (h : DataW.Trod enc Tryd.prog w 0 (fun _ => true) true 24 v d ps) (hz : (d.weights Tryd.prog 24).all (· ≤ reachBytes) = true) :
    ∃ (A : Option Addr) (c : Nat) (L : List Bool), v = .slice A L.length c ∧ L.length ≤ c ∧ c ≤ 140737488351232 ∧ (∀ x ∈ L, True) ∧ RdX (fun b => [.bool b]) 1 w A L := by
  have hb : decide (1 ≤ Tryd.prog.bytesOf 4) = true := by kernel_rfl
  have hC : Tryd.prog.cellsOf 4 = 1 := by kernel_rfl
  refine open_seq (P := Tryd.prog) (fun b => [.bool b]) 1 (fun _ _ => True) Tryd.underlying24 hC (by omega) (of_decide_eq_true hb) (fun n cs x hl ht hz => ?_) hv h hz
  match cs, hl with
  | [c0], _ =>
    obtain ⟨b, hb, _⟩ := DataW.trod_bool Tryd.underlying4 ht
    exact ⟨b, by simpa using hb, trivial⟩
end
end Go.Proofs.YtbnobjlphmkgeaaDoor
/- What comes in: slices of slices of pages, of numbers, of bytes. -/
namespace Go.Proofs.YtbnobjlphmkgeaaDoor
open Go.RowKit Go.ChangeShapes Go.WideShapes Go.ChangeAt

section
variable {H : Type} {enc : TypeId × Value → H} {P : Program} {w : World}
/-- a slice within something else -/
theorem open_seq_in {X : Type} [Inhabited X] (cells : X → List Value) (C : Nat) (ok : World → X → Prop) {t e : TypeId} {cs : List Value} {d : DataW H × List MemPlace} {n0 : Nat} (ht : P.underlying t = some (.slice e)) (hC : P.cellsOf e = C) (hC0 : 0 < C) (hb : 1 ≤ P.bytesOf e)
    (hel : ∀ n cs x, cs.length = C → DataW.trod enc P w 0 (fun _ => true) true n e cs = some x → (x.1.weights P e).all (· ≤ reachBytes) = true → ∃ y : X, cs = cells y ∧ ok w y)
    (hf : DataW.trod enc P w 0 (fun _ => true) true n0 t cs = some d) (hz : (d.1.weights P t).all (· ≤ reachBytes) = true) :
    ∃ (A : Option Addr) (c : Nat) (L : List X), cs = [.slice A L.length c] ∧ L.length ≤ c ∧ c ≤ 140737488351232 ∧ (∀ x ∈ L, ok w x) ∧ RdX cells C w A L := by
  rcases Go.Deep.open_slice ht hf with ⟨hcs, _⟩ | ⟨a, len0, m, m2, n, D, Pl, hcs, _, hl, hm, hmm, hx, hi⟩
  · exact ⟨none, 0, [], by simpa using hcs, by simp, by omega, fun x hx => by simp at hx, fun i hi => by simp at hi⟩
  · simp only [if_true] at hmm
    subst hmm
    rw [hx] at hz
    rw [DataW.weights, ht] at hz
    simp only [List.all_cons, List.all_append, Bool.and_eq_true, decide_eq_true_eq, List.length_map, List.length_range] at hz
    have hreach : m2 ≤ 140737488351232 := by
      have h3 : reachBytes = 140737488351232 := by decide
      have h4 := hz.1
      rw [h3] at h4
      have h5 : (len0 + (m2 - len0)) * 1 ≤ (len0 + (m2 - len0)) * P.bytesOf e := Nat.mul_le_mul_left _ hb
      omega
    have hex : ∀ i, i < len0 → ∃ y : X, ok w y ∧ w.cells? 0 (a.add (i * C)) C = some (cells y) := fun i hil => by
      obtain ⟨cs', h1, h2⟩ := hi i (by omega)
      obtain ⟨y, hy, hok⟩ := hel n cs' _ (by rw [← hC]; exact (World.cells?_some h1).2.1) h2 (weights_all _ _ hz.2.1 _ (List.mem_map.2 ⟨i, List.mem_range.2 hil, rfl⟩))
      refine ⟨y, hok, ?_⟩
      rw [← hy, ← hC]; exact h1
    obtain ⟨Y, hY⟩ := Go.Deep.choose_lt (α := X) (p := fun i y => ok w y ∧ w.cells? 0 (a.add (i * C)) C = some (cells y)) hex
    have hlen : ((List.range len0).map Y).length = len0 := by simp
    refine ⟨some a, m2, (List.range len0).map Y, by rw [hlen]; simpa using hcs, by rw [hlen]; exact hl, hreach, fun x hx => ?_, fun i hil => ?_⟩
    · obtain ⟨i, hi', rfl⟩ := List.mem_map.1 hx
      exact (hY i (List.mem_range.1 hi')).1
    · rw [hlen] at hil
      obtain ⟨_, h2⟩ := hY i hil
      obtain ⟨_, hcl, hat⟩ := World.cells?_some h2
      have hYi : ((List.range len0).map Y)[i]'(by rw [hlen]; exact hil) = Y i := by simp
      rw [hYi]
      obtain ⟨b, off, spot⟩ := a
      have hcell : ∀ q u, (cells (Y i))[q]? = some u → w.cell? ((⟨b, off, spot⟩ : Addr).add (i * C + q)) = some u := fun q u hq => by
        have hql : q < C := by have := (List.getElem?_eq_some_iff.1 hq).1; omega
        rw [← Go.Deep.add_add, hat q hql, hq]
      have hs : spot = none := by
        obtain ⟨_, h20⟩ := hY 0 (by omega)
        obtain ⟨_, hcl0, hat0⟩ := World.cells?_some h20
        have h0 := hat0 0 hC0
        rw [List.getElem?_eq_getElem (by omega), Nat.zero_mul] at h0
        simpa [Addr.add] using World.cell?_spot h0
      subst hs
      refine ⟨b, off, rfl, fun q u hq => ?_⟩
      have := hcell q u hq
      rw [Addr.add_lit, ← Nat.add_assoc] at this
      exact this
end
/-- a list of lists -/
structure SubX (X : Type) where
  A : Option Addr
  cap : Nat
  L : List X
  deriving Inhabited
def scells {X : Type} (x : SubX X) : List Value := [.slice x.A x.L.length x.cap]
structure SubOk {X : Type} (cells : X → List Value) (C : Nat) (ok : World → X → Prop) (w : World) (x : SubX X) : Prop where
  cap : x.L.length ≤ x.cap
  le : x.cap ≤ 140737488351232
  ok : ∀ y ∈ x.L, ok w y
  rd : RdX cells C w x.A x.L
section
variable {H : Type} {enc : TypeId × Value → H} {w : World} {v : Value} {d : DataW H} {ps : List MemPlace} {base : Nat} {r : Reach}
end
end Go.Proofs.YtbnobjlphmkgeaaDoor
/- What comes in: slices of ints. -/
namespace Go.Proofs.YtbnobjlphmkgeaaDoor
open Go.RowKit Go.ChangeShapes Go.WideShapes Go.ChangeAt

def icell (x : Int) : List Value := [.int .i64 x]
section
variable {H : Type} {enc : TypeId × Value → H} {w : World} {v : Value} {d : DataW H} {ps : List MemPlace} {base : Nat} {r : Reach}
set_option maxRecDepth 20000 in
theorem open_ints (hv : Value.okWide Tryd.prog w r base 40 v) (h : DataW.Trod enc Tryd.prog w 0 (fun _ => true) true 40 v d ps) (hz : (d.weights Tryd.prog 40).all (· ≤ reachBytes) = true) :
    ∃ (A : Option Addr) (c : Nat) (L : List Int), v = .slice A L.length c ∧ L.length ≤ c ∧ c ≤ 140737488351232 ∧ (∀ x ∈ L, -9223372036854775808 ≤ x ∧ x ≤ 9223372036854775807) ∧ RdX icell 1 w A L := by
  have hb : decide (1 ≤ Tryd.prog.bytesOf 3) = true := by kernel_rfl
  have hC : Tryd.prog.cellsOf 3 = 1 := by kernel_rfl
  refine open_seq (P := Tryd.prog) icell 1 (fun _ x => -9223372036854775808 ≤ x ∧ x ≤ 9223372036854775807) Tryd.underlying40 hC (by omega) (of_decide_eq_true hb) (fun n cs x hl ht hz => ?_) hv h hz
  match cs, hl with
  | [c0], _ =>
    obtain ⟨a, ha, -, wa⟩ := DataW.trod_int Tryd.underlying3 ht
    obtain ⟨lo, hi⟩ := wf_i64' wa
    exact ⟨a, by simpa [icell] using ha, lo, hi⟩
end
end Go.Proofs.YtbnobjlphmkgeaaDoor
/- What comes in: slices of slices of bytes, of numbers. -/
namespace Go.Proofs.YtbnobjlphmkgeaaDoor
open Go.RowKit Go.ChangeShapes Go.WideShapes Go.ChangeAt

section
variable {H : Type} {enc : TypeId × Value → H} {w : World} {v : Value} {d : DataW H} {ps : List MemPlace} {base : Nat} {r : Reach}
set_option maxRecDepth 20000 in
theorem open_introws (hv : Value.okWide Tryd.prog w r base 22 v) (h : DataW.Trod enc Tryd.prog w 0 (fun _ => true) true 22 v d ps) (hz : (d.weights Tryd.prog 22).all (· ≤ reachBytes) = true) :
    ∃ (A : Option Addr) (c : Nat) (L : List (SubX Int)), v = .slice A L.length c ∧ L.length ≤ c ∧ c ≤ 140737488351232 ∧ (∀ x ∈ L, SubOk icell 1 (fun _ y => -9223372036854775808 ≤ y ∧ y ≤ 9223372036854775807) w x) ∧ RdX scells 1 w A L := by
  have hb : decide (1 ≤ Tryd.prog.bytesOf 3) = true := by kernel_rfl
  have hb2 : decide (1 ≤ Tryd.prog.bytesOf 40) = true := by kernel_rfl
  have hC : Tryd.prog.cellsOf 3 = 1 := by kernel_rfl
  have hC2 : Tryd.prog.cellsOf 40 = 1 := by kernel_rfl
  refine open_seq (P := Tryd.prog) scells 1 (SubOk icell 1 (fun _ y => -9223372036854775808 ≤ y ∧ y ≤ 9223372036854775807)) Tryd.underlying22 hC2 (by omega) (of_decide_eq_true hb2) (fun n cs x hl ht hz => ?_) hv h hz
  obtain ⟨A, c, L, e, h1, h2, h3, h4⟩ := open_seq_in (P := Tryd.prog) icell 1 (fun _ y => -9223372036854775808 ≤ y ∧ y ≤ 9223372036854775807) Tryd.underlying40 hC (by omega) (of_decide_eq_true hb) (fun n cs x hl ht hz => by
    match cs, hl with
    | [c0], _ =>
      obtain ⟨a, ha, -, wa⟩ := DataW.trod_int Tryd.underlying3 ht
      obtain ⟨lo, hi⟩ := wf_i64' wa
      exact ⟨a, by simpa [icell] using ha, lo, hi⟩) ht hz
  exact ⟨⟨A, c, L⟩, e, h1, h2, h3, h4⟩
end
end Go.Proofs.YtbnobjlphmkgeaaDoor
/- The contracts of errors.As at a target that points to an api.Errno, of plain.Told and of vaultsame.Error. After the guide's worked example on errors.As at a concrete target. -/
namespace Go.Proofs.YtbnobjlphmkgeaaDoor
open Go.RowKit Go.Extern.Stop Go.Stop Go.Extern

theorem rl_valueOfP (t : Addr) (w : World) : (ReflectliteValue.unpack (.iface 109 (.pointer (some t)))).run Tryd.prog w
    = .ok (.agg #[.pointer (some ⟨1, 109, none⟩), .pointer (some ⟨w.heap.size, 0, none⟩), .int .u64 150]) (w.alloc (.cells #[.pointer (some t)] 109)) := by kernel_rfl
theorem rl_typeP (a : Addr) (w : World) : (ReflectliteValue.methodAny (ReflectliteValue.valueError "reflectlite.Value.Type" 0) (fun t _ _ _ => ReflectliteType.toType t) #[.agg #[.pointer (some ⟨1, 109, none⟩), .pointer (some a), .int .u64 150]]).run Tryd.prog w
    = .ok (.iface 131 (.agg #[.pointer (some ⟨1, 109, none⟩)])) w := by kernel_rfl
theorem rl_kindP (w : World) : ((ReflectliteType.abiMethod fun t => (fun a : Nat => Value.int IntKind.u8 (a : Int)) <$> Rtype.kind t) #[.pointer (some ⟨1, 109, none⟩)]).run Tryd.prog w = .ok (.int .u8 22) w := by kernel_rfl
theorem rl_kindE (w : World) : ((ReflectliteType.abiMethod fun t => (fun a : Nat => Value.int IntKind.u8 (a : Int)) <$> Rtype.kind t) #[.pointer (some ⟨1, 69, none⟩)]).run Tryd.prog w = .ok (.int .u8 2) w := by kernel_rfl
theorem rl_m (z : Sem Value) (f : TypeId → Addr → Nat → Nat → Sem Value) (v : Value) :
    ReflectliteValue.method z f #[v] = (do match ← ReflectliteValue.parts v with | none => z | some (t, a, fl) => f t a fl (fl % 32)) := rfl
theorem rl_partsP (a : Addr) (w : World) : (ReflectliteValue.parts (.agg #[.pointer (some ⟨1, 109, none⟩), .pointer (some a), .int .u64 150])).run Tryd.prog w = .ok (some (109, a, 150)) w := by kernel_rfl
theorem rl_isNilP (a p : Addr) (W : World) (ha : W.cell? a = some (.pointer (some p))) :
    (ReflectliteValue.method (ReflectliteValue.valueError "reflectlite.Value.IsNil" 0) ReflectliteValue.isNil #[.agg #[.pointer (some ⟨1, 109, none⟩), .pointer (some a), .int .u64 150]]).run Tryd.prog W = .ok (.bool false) W := by
  rw [rl_m]
  simp only [Sem.run_bind, rl_partsP, Result.andThen]
  simp [ReflectliteValue.isNil, loadVar, isAgg, underlying, Tryd.underlying109, ha, Result.andThen]
theorem rl_elemP (w : World) : (ReflectliteType.method ReflectliteType.elem #[.agg #[.pointer (some ⟨1, 109, none⟩)]]).run Tryd.prog w = .ok (.iface 131 (.agg #[.pointer (some ⟨1, 69, none⟩)])) w := by kernel_rfl
theorem rl_implE (w : World) : (ReflectliteType.relation "Implements" ReflectliteType.implements_ #[.agg #[.pointer (some ⟨1, 69, none⟩)], .iface 131 (.agg #[.pointer (some ⟨1, 27, none⟩)])]).run Tryd.prog w = .ok (.bool true) w := by kernel_rfl
theorem rl_typeOfE (v : Value) (w : World) : (ReflectliteType.typeOf #[.iface 69 v]).run Tryd.prog w = .ok (.iface 131 (.agg #[.pointer (some ⟨1, 69, none⟩)])) w := by kernel_rfl
theorem rl_assignE (w : World) : (ReflectliteType.relation "AssignableTo" ReflectliteType.assignableTo #[.agg #[.pointer (some ⟨1, 69, none⟩)], .iface 131 (.agg #[.pointer (some ⟨1, 69, none⟩)])]).run Tryd.prog w = .ok (.bool true) w := by kernel_rfl
theorem rl_valueOfE (k : Int) (w : World) : (ReflectliteValue.unpack (.iface 69 (.int .i64 k))).run Tryd.prog w
    = .ok (.agg #[.pointer (some ⟨1, 69, none⟩), .pointer (some ⟨w.heap.size, 0, none⟩), .int .u64 130]) (w.alloc (.cells #[.int .i64 k] 69)) := by kernel_rfl
theorem rl_elemOfP (w : World) : (Rtype.elem? 109).run Tryd.prog w = .ok (some 69) w := by kernel_rfl
theorem rl_mkE (p : Addr) (w : World) : (ReflectliteValue.mk 69 p ReflectliteValue.flagAddr).run Tryd.prog w = .ok (.agg #[.pointer (some ⟨1, 69, none⟩), .pointer (some p), .int .u64 386]) w := by kernel_rfl
theorem rl_elemVP (a p : Addr) (W : World) (ha : W.cell? a = some (.pointer (some p))) :
    (ReflectliteValue.method (ReflectliteValue.valueError "reflectlite.Value.Elem" 0) ReflectliteValue.elem #[.agg #[.pointer (some ⟨1, 109, none⟩), .pointer (some a), .int .u64 150]]).run Tryd.prog W
      = .ok (.agg #[.pointer (some ⟨1, 69, none⟩), .pointer (some p), .int .u64 386]) W := by
  rw [rl_m]
  simp only [Sem.run_bind, rl_partsP, Result.andThen]
  simp [ReflectliteValue.elem, loadVar, isAgg, underlying, Tryd.underlying109, ha, Result.andThen, rl_elemOfP, rl_mkE]
theorem rl_s (v x : Value) : ReflectliteValue.set #[v, x] = (do
    let (some (dst, a, fl), some (src, b, _)) := (← ReflectliteValue.parts v, ← ReflectliteValue.parts x)
      | unsupported (.noEntry "extern/(internal/reflectlite.Value).Set.zeroValue")
    if fl / ReflectliteValue.flagAddr % 2 == 0 then unsupported (.noEntry "extern/(internal/reflectlite.Value).Set.unaddressable")
    let val ← loadVar src b
    if ← Rtype.directlyAssignable dst src then storeVar dst a val
    else if ← Rtype.implements dst src then
      if (← Rtype.kind src) == 20 then
        match val with
        | .nilIface => unsupported (.noEntry "extern/reflectlite: a nil value of one interface type handed on as a value of another")
        | _ => storeVar dst a val
      else storeVar dst a (.iface src val)
    else panicString ("reflectlite.Set: value of type " ++ (← Rtype.spelt src) ++ " is not assignable to type " ++ (← Rtype.spelt dst))
    pure (.tuple #[])) := rfl
theorem rl_partsEa (a : Addr) (w : World) : (ReflectliteValue.parts (.agg #[.pointer (some ⟨1, 69, none⟩), .pointer (some a), .int .u64 386])).run Tryd.prog w = .ok (some (69, a, 386)) w := by kernel_rfl
theorem rl_partsE (a : Addr) (w : World) : (ReflectliteValue.parts (.agg #[.pointer (some ⟨1, 69, none⟩), .pointer (some a), .int .u64 130])).run Tryd.prog w = .ok (some (69, a, 130)) w := by kernel_rfl
theorem rl_directE (w : World) : (Rtype.directlyAssignable 69 69).run Tryd.prog w = .ok true w := by kernel_rfl
theorem rl_setE (ta b : Addr) (k : Int) (old : Value) (W : World) (hb : W.cell? b = some (.int .i64 k)) (ht : W.cell? ta = some old) (hf : W.frozen? ta = false) :
    (ReflectliteValue.set #[.agg #[.pointer (some ⟨1, 69, none⟩), .pointer (some ta), .int .u64 386], .agg #[.pointer (some ⟨1, 69, none⟩), .pointer (some b), .int .u64 130]]).run Tryd.prog W
      = .ok (.tuple #[]) (W.setCell ta (.int .i64 k)) := by
  rw [rl_s]
  simp only [Sem.run_bind, rl_partsEa, rl_partsE, Result.andThen]
  simp [ReflectliteValue.flagAddr, loadVar, isAgg, underlying, Tryd.underlying69, hb, Result.andThen, rl_directE, storeVar, Value.cells, storeCells, Addr.add]
  rw [run_store Tryd.prog W ta _ _ (by rfl)]
  simp [ht, hf]

/-- what the row's condition gives: the variable errors.errorType -/
def HasType (w : World) : Prop := w.cell? ⟨0, 0, none⟩ = some (.iface 131 (.agg #[.pointer (some ⟨1, 27, none⟩)]))
theorem HasType.below {B : Nat} {w w' : World} (h : HasType w) (hB : 0 < B) (hb : Below B w w') : HasType w' := (hb.cell (p := ⟨0, 0, none⟩) hB).trans h
theorem HasType.lt {w : World} (h : HasType w) : 0 < w.heap.size := block_lt_of_cell h
end Go.Proofs.YtbnobjlphmkgeaaDoor
/- The contracts of errors.As at a target that points to an api.Errno, of plain.Told and of vaultsame.Error. -/
namespace Go.Proofs.YtbnobjlphmkgeaaDoor
open Go.RowKit Go.Extern.Stop Go.Stop Go.Extern

theorem rl_methKind (n : Nat) (h : Value) (w : World) : (Go.method (n + 1) 131 (.agg #[h]) "Kind").run Tryd.prog w = .ok (107, h) w := by kernel_rfl
theorem rl_methElem (n : Nat) (h : Value) (w : World) : (Go.method (n + 1) 131 (.agg #[h]) "Elem").run Tryd.prog w = .ok (117, .agg #[h]) w := by kernel_rfl
theorem rl_methImpl (n : Nat) (h : Value) (w : World) : (Go.method (n + 1) 131 (.agg #[h]) "Implements").run Tryd.prog w = .ok (118, .agg #[h]) w := by kernel_rfl
theorem rl_methAssign (n : Nat) (h : Value) (w : World) : (Go.method (n + 1) 131 (.agg #[h]) "AssignableTo").run Tryd.prog w = .ok (115, .agg #[h]) w := by kernel_rfl

set_option maxRecDepth 100000 in
set_option maxHeartbeats 4000000 in
theorem as_errno (k : Int) (t : Addr) (old : Value) (w : World) (hg : HasType w) (ht0 : w.cell? t = some old) (hf0 : w.frozen? t = false) :
    Calls Tryd.prog 58 #[.iface 69 (.int .i64 k), .iface 109 (.pointer (some t))] w fun ev w' => ev = .returned (.bool true) ∧ w' = ((((w.alloc (.cells #[.pointer (some t)] 109)).alloc (.cells #[.pointer (some ⟨1, 109, none⟩), .pointer (some ⟨w.heap.size, 0, none⟩), .int .u64 150] 117)).alloc (.cells #[.pointer (some ⟨1, 109, none⟩), .pointer (some ⟨w.heap.size, 0, none⟩), .int .u64 150] 117)).alloc (.cells #[.int .i64 k] 69)).setCell t (.int .i64 k) := by
  have h6 := @run_callFunc_extern Tryd.prog 64 _ (fun args => ReflectliteValue.unpack (args.getD 0 (.tuple #[]))) Tryd.func64 (by kernel_rfl) (by kernel_rfl) (by kernel_rfl) (by kernel_rfl)
  have h7 := @run_callFunc_extern Tryd.prog 65 _ (ReflectliteValue.methodAny (ReflectliteValue.valueError "reflectlite.Value.Type" 0) (fun t _ _ _ => ReflectliteType.toType t)) Tryd.func65 (by kernel_rfl) (by kernel_rfl) (by kernel_rfl) (by kernel_rfl)
  have h8 := @run_callFunc_extern Tryd.prog 66 _ (ReflectliteValue.method (ReflectliteValue.valueError "reflectlite.Value.IsNil" 0) ReflectliteValue.isNil) Tryd.func66 (by kernel_rfl) (by kernel_rfl) (by kernel_rfl) (by kernel_rfl)
  have h27 := @run_callFunc_extern Tryd.prog 107 _ (ReflectliteType.abiMethod fun t => do pure (.int .u8 (← Rtype.kind t))) Tryd.func107 (by kernel_rfl) (by kernel_rfl) (by kernel_rfl) (by kernel_rfl)
  have h37 := @run_callFunc_extern Tryd.prog 117 _ (ReflectliteType.method ReflectliteType.elem) Tryd.func117 (by kernel_rfl) (by kernel_rfl) (by kernel_rfl) (by kernel_rfl)
  have h38 := @run_callFunc_extern Tryd.prog 118 _ (ReflectliteType.relation "Implements" ReflectliteType.implements_) Tryd.func118 (by kernel_rfl) (by kernel_rfl) (by kernel_rfl) (by kernel_rfl)
  have h10 := @run_callFunc_extern Tryd.prog 72 _ ReflectliteType.typeOf Tryd.func72 (by kernel_rfl) (by kernel_rfl) (by kernel_rfl) (by kernel_rfl)
  have h35 := @run_callFunc_extern Tryd.prog 115 _ (ReflectliteType.relation "AssignableTo" ReflectliteType.assignableTo) Tryd.func115 (by kernel_rfl) (by kernel_rfl) (by kernel_rfl) (by kernel_rfl)
  have h11 := @run_callFunc_extern Tryd.prog 73 _ (ReflectliteValue.method (ReflectliteValue.valueError "reflectlite.Value.Elem" 0) ReflectliteValue.elem) Tryd.func73 (by kernel_rfl) (by kernel_rfl) (by kernel_rfl) (by kernel_rfl)
  have h12 := @run_callFunc_extern Tryd.prog 74 _ ReflectliteValue.set Tryd.func74 (by kernel_rfl) (by kernel_rfl) (by kernel_rfl) (by kernel_rfl)
  have tO := rl_typeOfE
  have aE := rl_assignE
  have vE := rl_valueOfE
  have f6 := rl_valueOfP
  have f7 := rl_typeP
  have mK := rl_methKind
  have mE := rl_methElem
  have mI := rl_methImpl
  have mA := rl_methAssign
  have kP := rl_kindP
  have kE := rl_kindE
  have eP := rl_elemP
  have iE := rl_implE
  have n8 := rl_isNilP ⟨w.heap.size, 0, none⟩ t ((w.alloc (.cells #[.pointer (some t)] 109)).alloc (.cells #[.pointer (some ⟨1, 109, none⟩), .pointer (some ⟨w.heap.size, 0, none⟩), .int .u64 150] 117)) (by simp)
  have hlt : 0 < w.heap.size := hg.lt
  unfold HasType at hg
  have hg2 : ((w.alloc (.cells #[.pointer (some t)] 109)).alloc (.cells #[.pointer (some ⟨1, 109, none⟩), .pointer (some ⟨w.heap.size, 0, none⟩), .int .u64 150] 117)).cell? ⟨0, 0, none⟩ = some (.iface 131 (.agg #[.pointer (some ⟨1, 27, none⟩)])) := by
    rw [World.cell?_alloc_lt _ _ ⟨0, 0, none⟩ (by simp), World.cell?_alloc_lt _ _ ⟨0, 0, none⟩ hlt]; exact hg
  have htl : t.block < w.heap.size := by
    rcases Nat.lt_or_ge t.block w.heap.size with h | h
    · exact h
    · simp [World.cell?, Array.getElem?_eq_none h] at ht0
  have el := rl_elemVP ⟨w.heap.size, 0, none⟩ t (((w.alloc (.cells #[.pointer (some t)] 109)).alloc (.cells #[.pointer (some ⟨1, 109, none⟩), .pointer (some ⟨w.heap.size, 0, none⟩), .int .u64 150] 117)).alloc (.cells #[.pointer (some ⟨1, 109, none⟩), .pointer (some ⟨w.heap.size, 0, none⟩), .int .u64 150] 117)) (by rw [World.cell?_alloc_lt _ _ ⟨w.heap.size, 0, none⟩ (by simp; omega)]; simp)
  have st := rl_setE t ⟨w.heap.size + 1 + 1 + 1, 0, none⟩ k old ((((w.alloc (.cells #[.pointer (some t)] 109)).alloc (.cells #[.pointer (some ⟨1, 109, none⟩), .pointer (some ⟨w.heap.size, 0, none⟩), .int .u64 150] 117)).alloc (.cells #[.pointer (some ⟨1, 109, none⟩), .pointer (some ⟨w.heap.size, 0, none⟩), .int .u64 150] 117)).alloc (.cells #[.int .i64 k] 69))
    (by rw [World.cell?_alloc_at _ _ _ _ (by simp)]; rfl)
    (by rw [World.cell?_alloc_lt _ _ t (by simp; omega), World.cell?_alloc_lt _ _ t (by simp; omega), World.cell?_alloc_lt _ _ t (by simp; omega), World.cell?_alloc_lt _ _ t htl]; exact ht0)
    (by rw [World.frozen?_alloc_old _ _ t (by simp; omega), World.frozen?_alloc_old _ _ t (by simp; omega), World.frozen?_alloc_old _ _ t (by simp; omega), World.frozen?_alloc_old _ _ t (Nat.ne_of_lt htl)]; exact hf0)
  go_enter Tryd.func58, Tryd.ntmps58
  go_wp2
  refine wp_loop_rounds 1 ?_
  rw [rounds_succ]
  go_wp2
  go_ret
  exact ⟨rfl, rfl⟩
end Go.Proofs.YtbnobjlphmkgeaaDoor
/- The contracts of plain.Told and of vaultsame.Error. -/
namespace Go.Proofs.YtbnobjlphmkgeaaDoor
open Go.RowKit

theorem told_nil (w : World) : Calls Tryd.prog 38 #[.nilIface] w fun e w' => e = .returned (.int .i64 0) ∧ w = w' := by
  go_enter Tryd.func38, Tryd.ntmps38
  go_wp2_with fail
  go_ret
  exact ⟨rfl, rfl⟩
theorem told_errno (k : Int) (w : World) (hg : HasType w) : Calls Tryd.prog 38 #[.iface 69 (.int .i64 k)] w fun e w' => e = .returned (.int .i64 k) ∧ Below w.heap.size w w' := by
  have hW : Below w.heap.size w (w.alloc (.cells #[.int .i64 0] 69)) := (Below.refl _ _).alloc (Nat.le_refl _) _
  have hg1 := hg.below hg.lt hW
  have HC := Hidden.mk (as_errno k ⟨w.heap.size, 0, none⟩ (.int .i64 0) _ hg1 (by simp) (by simp))
  clear hg1
  go_enter Tryd.func38, Tryd.ntmps38
  go_wp2_with fail
  refine HC.out.mono ?_
  rintro e w' ⟨rfl, hw'⟩
  have hB : Below w.heap.size w w' := by
    rw [hw']
    exact ((((hW.alloc hW.size _).alloc (by simp; omega) _).alloc (by simp; omega) _).alloc (by simp; omega) _).setCell (p := ⟨w.heap.size, 0, none⟩) (Nat.le_refl _) _
  have hc : w'.cell? ⟨w.heap.size, 0, none⟩ = some (.int .i64 k) := by
    rw [hw']
    refine World.cell?_setCell_same' _ _ _ ?_
    rw [(((((Below.refl _ (w.alloc (.cells #[.int .i64 0] 69))).alloc (Nat.le_refl _) _).alloc (by simp) _).alloc (by simp) _).alloc (by simp) _).cell (p := ⟨w.heap.size, 0, none⟩) (by simp)]
    simp
  clear hw' HC hW
  go_wp2_with fail
  go_ret
  exact ⟨rfl, hB⟩
theorem err_nil (x : Int) (w : World) : Calls Tryd.prog 9 #[.nilIface, .int .i64 x] w fun e w' => e = .returned (.bool ((0 : Int) == x)) ∧ Below w.heap.size w w' := by
  go_enter Tryd.func9, Tryd.ntmps9
  go_wp2_with fail
  refine (told_nil _).mono ?_
  rintro e w' ⟨rfl, rfl⟩
  go_wp2_with fail
  go_ret
  exact ⟨rfl, Below.refl _ _⟩
theorem err_some (k x : Int) (w : World) (hg : HasType w) : Calls Tryd.prog 9 #[.iface 69 (.int .i64 k), .int .i64 x] w fun e w' => e = .returned (.bool (k == x)) ∧ Below w.heap.size w w' := by
  go_enter Tryd.func9, Tryd.ntmps9
  go_wp2_with fail
  refine (told_errno k _ hg).mono ?_
  rintro e w' ⟨rfl, hb⟩
  go_wp2_with fail
  go_ret
  exact ⟨rfl, hb⟩
/-- .. of an error that is nil or a number -/
theorem err_any (n : Nat) (x : Int) (w : World) (hg : HasType w) : Calls Tryd.prog 9 #[errV n, .int .i64 x] w fun e w' => e = .returned (.bool ((n : Int) == x)) ∧ Below w.heap.size w w' := by
  unfold errV
  by_cases h : n = 0
  · rw [if_pos h, h]; exact err_nil x w
  · rw [if_neg h]; exact err_some n x w hg
end Go.Proofs.YtbnobjlphmkgeaaDoor
