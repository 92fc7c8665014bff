/- Contracts and plain laws, put together: HeapPlays1. -/
import Derived.Test.YtbnobjlphmkgeaaGreatDoorHeapPlaysFrameM10
/- HeapPlays: the walk. -/
namespace Go.Proofs.YtbnobjlphmkgeaaGreatDoor
open Go.RowKit Go.Maps Go.ChangeMaps

set_option maxRecDepth 1000000 in
set_option maxHeartbeats 8000000 in
theorem heapPlays_walk (A : Option Addr) (c : Nat) (b : Bytes) (OA : Option Addr) (oc : Nat) (L : List OpX) (w : World) (hg : HasType w) (hbc : b.length ≤ c) (hcm : c ≤ 140737488351232) (hrd : Rd w A b) (hL : RdX ocells 6 w OA L) (hLo : ∀ x ∈ L, OpOk w x) :
    Calls Tryz.prog 3 #[.slice A b.length c, .slice OA L.length oc] w fun e w' => e = .returned (.bool true) ∧ Below w.heap.size w w' := by
  obtain ⟨m, hm⟩ : ∃ m, L.length = m := ⟨_, rfl⟩
  obtain ⟨n, hn⟩ : ∃ n, b.length = n := ⟨_, rfl⟩
  have HL := Hidden.mk (And.intro hL (And.intro hLo (And.intro hm hg)))
  rw [hn] at hbc
  have HA := Hidden.mk (And.intro hn (And.intro hbc hrd))
  have hn2 : n ≤ 140737488351232 := by omega
  rw [hm, hn]
  have HF3 : Hidden (rightB n = false → fineE b = 3) := ⟨fun h => by unfold fineE; rw [hn, if_pos h]⟩
  have HRF : Hidden (rightB n = true → ∀ W, Below w.heap.size w W → Calls Tryz.prog 8 #[.slice A n c] W fun e w' => e = .returned (.int .i64 (fineE b : Int)) ∧ Below W.heap.size W w') := ⟨fun h W hW => refFine_yes A n c b W hn h hbc (hrd.below hW)⟩
  have HLD : Hidden (∀ W, Below w.heap.size w W → Calls Tryz.prog 9 #[.slice A n c] W fun e w' => ∃ hv, e = .returned (.tuple #[hv, errV (fineE b)]) ∧ Below W.heap.size W w' ∧ (fineE b = 0 → ∃ h F, hv = .pointer (some ⟨h, 0, none⟩) ∧ Hp w w' F h b ∧ ∀ k, F k → W.heap.size ≤ k)) := ⟨fun W hW => hload_any A n c b w W hn hbc (hrd.below hW) hW⟩
  have HTY := Hidden.mk HL.out.2.2.2
  have HLO : Hidden (∀ W, Below w.heap.size w W → Calls Tryz.prog 11 #[.slice A n c] W fun e w' => ∃ h F p off c', e = .returned (.tuple #[.pointer (some ⟨h, 0, none⟩), .slice (some ⟨p, off, none⟩) (loadL b).length c']) ∧ (loadL b).length ≤ c' ∧ Hp W w' F h (loadL b) ∧ Rd w' (some ⟨p, off, none⟩) (loadL b) ∧ ¬ F p) := ⟨fun W hW => loaded_ok A n c b W hn hbc (hrd.below hW)⟩
  have HGL := Hidden.mk (loadL_good b)
  have HGF : Hidden (fineE b = 0 → Good b) := ⟨good_fine⟩
  generalize fineE b = fe at *
  generalize loadL b = lb at *
  clear hL hLo hm hg hn hbc hrd hcm
  go_enter Tryz.func3, Tryz.ntmps3
  go_wp2_with fail
  refine (ref_right_any (n : Int) w).mono ?_
  rintro e w1 ⟨rfl, rfl⟩
  obtain ⟨rb, hrb⟩ : ∃ x, rightB (n : Int) = x := ⟨_, rfl⟩
  rw [hrb]
  have HRB0 := Hidden.mk hrb
  clear hrb
  cases rb with
  | false =>
    as_aux_lemma =>
      have HE := HF3.out HRB0.out
      subst HE
      clear HF3 HRF
      have HC := Hidden.mk (HLD.out w (Below.refl w.heap.size w))
      try dsimp only
      go_wp2_with fail
      refine HC.out.mono ?_
      rintro e w2 ⟨hv, rfl, hb2, hh2⟩
      have HB2 := Hidden.mk ((Below.refl w.heap.size w).trans (hb2.mono (Below.refl w.heap.size w).size))
      have HH2 := Hidden.mk hh2
      have HER := Hidden.mk (err_any 3 (3 : Int) w2 (HL.out.2.2.2.below HL.out.2.2.2.lt HB2.out))
      rw [show (((3 : Nat) : Int) == (3 : Int)) = true from rfl] at HER
      clear hh2 HC
      try dsimp only
      go_wp2_with fail
      refine HER.out.mono ?_
      rintro e w3 ⟨rfl, hb3⟩
      have HB3 := Hidden.mk (HB2.out.trans (hb3.mono HB2.out.size))
      have HC := Hidden.mk (HLO.out w3 HB3.out)
      clear hb3 HER
      try dsimp only
      go_wp2_with fail
      refine HC.out.mono ?_
      rintro e w4 ⟨h, F, p, off, c', rfl, hc', hp, hr, hnf⟩
      have HN : Hidden (HpLp w w4 F h p off c' lb.length lb) := ⟨⟨⟨hp.hd, hp.fh, hp.len, fun k hk => Nat.le_trans HB3.out.size (hp.new k hk), hp.flt, HB3.out.trans (hp.bel.mono HB3.out.size)⟩, HGL.out, rfl, ⟨hr, hnf, by have := HGL.out.bd; omega⟩, hc'⟩⟩
      obtain ⟨NL, hNL⟩ : ∃ x, lb.length = x := ⟨_, rfl⟩
      rw [hNL] at HN ⊢
      clear hc' hp hr hnf HC hNL
      have hNb := HN.out.good.bd
      rw [HN.out.len] at hNb
      try dsimp only
      go_upto_block 0 with (fail)
      refine hp_loop _ _ _ _ _ _ _ _ _ _ _ _ _ _ _ _ _ _ _ _ _ _ _ _ _ _ _ _ _ _ _ _ _ _ _ _ _ _ _ _ _ _ _ _ _ _ _ _ _ _ _ _ _ _ _ _ _ _ _ _ _ _ _ _ _ _ _ _ _ _ _ _ _ _ _ _ _ _ _ _ _ _ _ _ _ _ _ _ _ _ _ _ _ _ _ _ _ _ _ _ _ _ _ _ _ _ _ _ _ _ _ _ _ _ _ _ _ _ _ _ _ _ _ _ _ _ _ _ _ _ _ _ _ _ _ _ _ _ _ _ _ _ _ _ _ _ _ _ _ _ _ _ _ _ _ _ _ _ _ _ _ _ _ _ _ _ _ _ _ _ _ _ _ _ _ _ _ _ _ _ _ _ _ _ _ _ _ _ _ _ _ _ _ _ _ _ _ _ _ _ _ _ _ _ _ _ _ _ _ _ _ _ _ _ _ _ _ _ _ _ _ _ _ _ _ _ _ _ _ _ _ _ _ _ _ _ _ _ _ _ _ _ _ _ _ _ _ _ _ _ _ _ _ _ _ _ _ _ _ _ _ _ _ _ _ _ _ _ _ _ _ _ _ _ _ _ _ _ _ _ _ _ _ _ _ _ _ _ _ _ _ _ _ _ _ _ _ _ _ _ _ _ _ _ _ _ _ _ _ _ _ _ _ _ _ _ _ _ _ _ _ _ _ _ _ _ _ _ _ _ _ _ _ _ _ _ _ _ _ _ _ _ _ _ _ _ _ _ _ _ _ _ _ _ _ _ _ _ _ _ _ _ _ _ _ _ _ _ _ _ _ OA oc m L w _ F h p off c' NL lb HTY HL hNb HN ⟨fun _ _ _ _ _ h => h⟩ ?_
      intros
      rename_i wx_ hb_
      try dsimp only
      go_wp2_with fail
      go_ret
      exact ⟨rfl, hb_.out⟩
  | true =>
    have HC0 := Hidden.mk (HRF.out HRB0.out w (Below.refl _ _))
    try dsimp only
    go_wp2_with fail
    refine HC0.out.mono ?_
    rintro e w20 ⟨rfl, hb20⟩
    have HB20 := Hidden.mk hb20
    clear hb20 HC0 HRF HF3
    by_cases hz : fe = 0
    · as_aux_lemma =>
        subst hz
        have HC := Hidden.mk (HLD.out w20 (HB20.out))
        try dsimp only
        go_wp2_with fail
        refine HC.out.mono ?_
        rintro e w2 ⟨hv, rfl, hb2, hh2⟩
        have HB2 := Hidden.mk ((HB20.out).trans (hb2.mono (HB20.out).size))
        have HH2 := Hidden.mk hh2
        have HER := Hidden.mk (err_any 0 (0 : Int) w2 (HL.out.2.2.2.below HL.out.2.2.2.lt HB2.out))
        rw [show (((0 : Nat) : Int) == (0 : Int)) = true from rfl] at HER
        clear hh2 HC
        obtain ⟨h, F, rfl, hp, hk⟩ := HH2.out (by trivial)
        have hgb := HGF.out (by trivial)
        have HSZ := Hidden.mk HB20.out.size
        try dsimp only
        go_wp2_with fail
        refine HER.out.mono ?_
        rintro e w3 ⟨rfl, hb3⟩
        have HB3 := Hidden.mk (HB2.out.trans (hb3.mono HB2.out.size))
        obtain ⟨pb, ob, rfl, hlt⟩ := HA.out.2.2.lt (by have := hgb.bd; have := HA.out.1; omega)
        have HN : Hidden (HpLp w w3 F h pb ob c n b) := ⟨⟨hp.below hb3, hgb, HA.out.1, ⟨HA.out.2.2.below HB3.out, fun hf => by have := hk _ hf; have := HSZ.out; omega, by have := hgb.bd; omega⟩, HA.out.2.1⟩⟩
        clear hp hk hgb hlt hb3 hb2 HER
        have hNb := HN.out.good.bd
        rw [HN.out.len] at hNb
        try dsimp only
        go_upto_block 0 with (fail)
        refine hp_loop _ _ _ _ _ _ _ _ _ _ _ _ _ _ _ _ _ _ _ _ _ _ _ _ _ _ _ _ _ _ _ _ _ _ _ _ _ _ _ _ _ _ _ _ _ _ _ _ _ _ _ _ _ _ _ _ _ _ _ _ _ _ _ _ _ _ _ _ _ _ _ _ _ _ _ _ _ _ _ _ _ _ _ _ _ _ _ _ _ _ _ _ _ _ _ _ _ _ _ _ _ _ _ _ _ _ _ _ _ _ _ _ _ _ _ _ _ _ _ _ _ _ _ _ _ _ _ _ _ _ _ _ _ _ _ _ _ _ _ _ _ _ _ _ _ _ _ _ _ _ _ _ _ _ _ _ _ _ _ _ _ _ _ _ _ _ _ _ _ _ _ _ _ _ _ _ _ _ _ _ _ _ _ _ _ _ _ _ _ _ _ _ _ _ _ _ _ _ _ _ _ _ _ _ _ _ _ _ _ _ _ _ _ _ _ _ _ _ _ _ _ _ _ _ _ _ _ _ _ _ _ _ _ _ _ _ _ _ _ _ _ _ _ _ _ _ _ _ _ _ _ _ _ _ _ _ _ _ _ _ _ _ _ _ _ _ _ _ _ _ _ _ _ _ _ _ _ _ _ _ _ _ _ _ _ _ _ _ _ _ _ _ _ _ _ _ _ _ _ _ _ _ _ _ _ _ _ _ _ _ _ _ _ _ _ _ _ _ _ _ _ _ _ _ _ _ _ _ _ _ _ _ _ _ _ _ _ _ _ _ _ _ _ _ _ _ _ _ _ _ _ _ _ _ _ _ _ _ _ _ _ _ _ _ _ _ _ _ _ _ _ OA oc m L w _ F h pb ob c n b HTY HL hNb HN ⟨fun _ _ _ _ _ h => h⟩ ?_
        intros
        rename_i wx_ hb_
        try dsimp only
        go_wp2_with fail
        go_ret
        exact ⟨rfl, hb_.out⟩
    · as_aux_lemma =>
        have d1 : ((fe : Int) != 0) = true := by simpa using hz
        have d2 : (fe != 0) = true := by simpa using hz
        clear hz
        have HC := Hidden.mk (HLD.out w20 (HB20.out))
        try dsimp only
        go_wp2_with fail
        refine HC.out.mono ?_
        rintro e w2 ⟨hv, rfl, hb2, hh2⟩
        have HB2 := Hidden.mk ((HB20.out).trans (hb2.mono (HB20.out).size))
        have HH2 := Hidden.mk hh2
        have HER := Hidden.mk (err_any fe (fe : Int) w2 (HL.out.2.2.2.below HL.out.2.2.2.lt HB2.out))
        rw [beq_self_eq_true] at HER
        clear hh2 HC
        try dsimp only
        go_wp2_with fail
        refine HER.out.mono ?_
        rintro e w3 ⟨rfl, hb3⟩
        have HB3 := Hidden.mk (HB2.out.trans (hb3.mono HB2.out.size))
        have HC := Hidden.mk (HLO.out w3 HB3.out)
        clear hb3 HER
        try dsimp only
        go_wp2_with fail
        refine HC.out.mono ?_
        rintro e w4 ⟨h, F, p, off, c', rfl, hc', hp, hr, hnf⟩
        have HN : Hidden (HpLp w w4 F h p off c' lb.length lb) := ⟨⟨⟨hp.hd, hp.fh, hp.len, fun k hk => Nat.le_trans HB3.out.size (hp.new k hk), hp.flt, HB3.out.trans (hp.bel.mono HB3.out.size)⟩, HGL.out, rfl, ⟨hr, hnf, by have := HGL.out.bd; omega⟩, hc'⟩⟩
        obtain ⟨NL, hNL⟩ : ∃ x, lb.length = x := ⟨_, rfl⟩
        rw [hNL] at HN ⊢
        clear hc' hp hr hnf HC hNL
        have hNb := HN.out.good.bd
        rw [HN.out.len] at hNb
        try dsimp only
        go_upto_block 0 with (fail)
        refine hp_loop _ _ _ _ _ _ _ _ _ _ _ _ _ _ _ _ _ _ _ _ _ _ _ _ _ _ _ _ _ _ _ _ _ _ _ _ _ _ _ _ _ _ _ _ _ _ _ _ _ _ _ _ _ _ _ _ _ _ _ _ _ _ _ _ _ _ _ _ _ _ _ _ _ _ _ _ _ _ _ _ _ _ _ _ _ _ _ _ _ _ _ _ _ _ _ _ _ _ _ _ _ _ _ _ _ _ _ _ _ _ _ _ _ _ _ _ _ _ _ _ _ _ _ _ _ _ _ _ _ _ _ _ _ _ _ _ _ _ _ _ _ _ _ _ _ _ _ _ _ _ _ _ _ _ _ _ _ _ _ _ _ _ _ _ _ _ _ _ _ _ _ _ _ _ _ _ _ _ _ _ _ _ _ _ _ _ _ _ _ _ _ _ _ _ _ _ _ _ _ _ _ _ _ _ _ _ _ _ _ _ _ _ _ _ _ _ _ _ _ _ _ _ _ _ _ _ _ _ _ _ _ _ _ _ _ _ _ _ _ _ _ _ _ _ _ _ _ _ _ _ _ _ _ _ _ _ _ _ _ _ _ _ _ _ _ _ _ _ _ _ _ _ _ _ _ _ _ _ _ _ _ _ _ _ _ _ _ _ _ _ _ _ _ _ _ _ _ _ _ _ _ _ _ _ _ _ _ _ _ _ _ _ _ _ _ _ _ _ _ _ _ _ _ _ _ _ _ _ _ _ _ _ _ _ _ _ _ _ _ _ _ _ _ _ _ _ _ _ _ _ _ _ _ _ _ _ _ _ _ _ _ _ _ _ _ _ _ _ _ _ _ OA oc m L w _ F h p off c' NL lb HTY HL hNb HN ⟨fun _ _ _ _ _ h => h⟩ ?_
        intros
        rename_i wx_ hb_
        try dsimp only
        go_wp2_with fail
        go_ret
        exact ⟨rfl, hb_.out⟩
end Go.Proofs.YtbnobjlphmkgeaaGreatDoor
