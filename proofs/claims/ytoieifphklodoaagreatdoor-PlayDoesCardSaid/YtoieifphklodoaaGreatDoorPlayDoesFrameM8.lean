/- Contracts and plain laws, put together: PlayDoes1. -/
import Derived.Test.YtoieifphklodoaaGreatDoorPlayDoesFrameM7
import Derived.Deep.RegionHeld3
/- PlayDoes: the walk. -/
namespace Go.Proofs.YtoieifphklodoaaGreatDoor
open Go.RowKit Go.Maps Go.ChangeMaps

structure DoSt (w0 w : World) (F GH : Nat → Prop) (s p d h nn n : Nat) (S : Sto) (gb ob cb gk ok ck b : Nat) : Prop where
  pl : PlSt w0 w F GH s p d h nn n S
  st : S.st ≤ b
  rb : RdO w (XF F GH s p) gb ob S.l
  rk : RdO w (XF F GH s p) gk ok S.K
  cb : 32 * n ≤ cb
  ck : 32 * n ≤ ck
set_option maxRecDepth 100000 in
set_option maxHeartbeats 8000000 in
theorem playDoes_walk (n : Int) (OA : Option Addr) (oc : Nat) (L : List OpX) (w : World) (hg : HasType w) (hL : RdX ocells 6 w OA L) (hLo : ∀ x ∈ L, OpOk w x) :
    Calls Tryz.prog 5 #[.int .i64 n, .slice OA L.length oc] w fun e w' => e = .returned (.bool true) ∧ Below w.heap.size w w' := by
  obtain ⟨m, hm⟩ : ∃ m, L.length = m := ⟨_, rfl⟩
  have HL := Hidden.mk (And.intro hL (And.intro hLo (And.intro hm hg)))
  rw [hm]
  clear hL hLo hm hg
  by_cases hbad : n < 1 ∨ 300 < n
  · have HN := Hidden.mk (dnew_e1 n w hbad)
    clear hbad
    go_enter Tryz.func5, Tryz.ntmps5
    go_wp2_with fail
    refine HN.out.mono ?_
    rintro e w1 ⟨rfl, rfl⟩
    go_wp2_with fail
    go_ret
    exact ⟨rfl, Below.refl _ _⟩
  obtain ⟨nn, rfl⟩ : ∃ nn : Nat, n = nn := ⟨n.toNat, by omega⟩
  have h1 : 1 ≤ nn := by omega
  have h3 : nn ≤ 300 := by omega
  clear hbad
  have HN := Hidden.mk (dnewB nn w h1 h3)
  go_enter Tryz.func5, Tryz.ntmps5
  go_wp2_with fail
  refine HN.out.mono ?_
  rintro e w1 ⟨d, F0, rfl, hd⟩
  have HD := Hidden.mk hd
  clear hd HN
  by_cases h57 : nn < 57
  · have e1 : decide ((nn : Int) < 57) = true := by simp; omega
    have e2 : decide (nn < 57) = true := by simpa using h57
    clear h57
    go_wp2_with fail
    go_ret
    exact ⟨rfl, HD.out.bel⟩
  have e1 : decide ((nn : Int) < 57) = false := by simp; omega
  have e2 : decide (nn < 57) = false := by simpa using h57
  obtain ⟨np, hnp⟩ : ∃ np, np = nP (newD nn) := ⟨_, rfl⟩
  have HC := Hidden.mk (screate_ok nn np HD.out (by omega) h3 hnp)
  have hok := beg0_ok nn (by omega) h3 np hnp
  have hn9 := hok.gl.bd
  have hn2 := hok.n2
  rw [show (beg0 nn np).l.length = 32 * np from hok.ll] at hn9
  have HOK := Hidden.mk hok
  clear hnp hok h57
  go_wp2_with fail
  refine HC.out.mono ?_
  rintro e w2 ⟨s, p, h, gk, ck, F1, GH1, rfl, hmk⟩
  have HP2 : Hidden (PlSt w w2 F1 GH1 s p d h nn np (beg0 nn np)) := ⟨⟨hmk.dev, ⟨gk, ck, hmk.st⟩, HOK.out⟩⟩
  clear hmk HC e1 e2
  have HBY := Hidden.mk HP2.out.bytes_
  rw [show (beg0 nn np).l.length = 32 * np from HOK.out.ll] at HBY
  go_wp2_with fail
  refine HP2.out.heap_.mono ?_
  rintro e w3 ⟨rfl, rfl⟩
  go_wp2_with fail
  refine HBY.out.mono ?_
  rintro e w3 ⟨g3, c3, rfl, hg3, hr3, hb3⟩
  have HS3 : Hidden (DoSt w w3 F1 GH1 s p d h nn np (beg0 nn np) g3 0 c3 g3 0 c3 2) := ⟨by
    have hx := HP2.out.xlt
    have hne : 0 < (beg0 nn np).l.length := by rw [show (beg0 nn np).l.length = 32 * np from HOK.out.ll]; omega
    have hc := hr3.le.1
    rw [show (beg0 nn np).l.length = 32 * np from HOK.out.ll] at hc
    have hr : RdO w3 (XF F1 GH1 s p) g3 0 (beg0 nn np).l := ⟨hr3.rd, fun hq => by have := hx _ hq; omega, hne⟩
    exact ⟨HP2.out.below hb3, Nat.le_refl _, hr, hr, hc, hc⟩⟩
  have q288 : decide (((32 * np : Nat) : Int) < 288) = false := by simp; omega
  have q288' : decide (32 * (np : Int) < 288) = false := by simp; omega
  have q288'' : decide (32 * np < 288) = false := by simp; omega
  clear hg3 hr3 hb3 HP2 HBY HD
  go_wp2_with fail
  clear q288 q288' q288''
  go_loopg [8, 9, 10] 60 (fun r bv kv iv wr => ∃ (k : Nat) (F GH : Nat → Prop) (S : Sto) (gb ob cb gk ok ck : Nat), k ≤ 60 ∧ r = 60 - k ∧ iv = .int .i64 (k : Int) ∧ bv = .slice (some ⟨gb, ob, none⟩) (32 * np) cb ∧ kv = .slice (some ⟨gk, ok, none⟩) (32 * np) ck ∧ Hidden (DoSt w wr F GH s p d h nn np S gb ob cb gk ok ck (2 + k)))
  case atStart => exact ⟨0, F1, GH1, _, g3, 0, c3, g3, 0, c3, by omega, rfl, rfl, rfl, rfl, HS3⟩
  case round =>
    obtain ⟨k, F, GH, S, gb, ob, cb, gk', ok', ck', hk, rfl, rfl, rfl, rfl, hst⟩ := hrel
    have HS := Hidden.mk hst.out
    clear hst HS3
    have hBw := HS.out.pl.dev.bel
    by_cases hlt : k < m
    rotate_left
    · have e1 : decide ((k : Int) < m) = false := by simp; omega
      have e1' : decide (k < m) = false := by simpa using hlt
      have HBW := Hidden.mk hBw
      clear hlt hBw
      go_wp2_with fail
      go_ret
      exact ⟨rfl, HBW.out⟩
    have e1 : decide ((k : Int) < m) = true := by simp; omega
    have e1' : decide (k < m) = true := by simpa using hlt
    by_cases h60 : k < 60
    rotate_left
    · have e2 : decide ((k : Int) < 60) = false := by simp; omega
      have e2' : decide (k < 60) = false := by simpa using h60
      have HBW := Hidden.mk hBw
      clear h60 hBw
      go_wp2_with fail
      go_ret
      exact ⟨rfl, HBW.out⟩
    have e2 : decide ((k : Int) < 60) = true := by simp; omega
    have e2' : decide (k < 60) = true := by simpa using h60
    have i0 : (0 : Int) ≤ k := by omega
    have i1 : (k : Int) < m := by omega
    have s1 : IntKind.i64.wrap ((k : Int) + 1) = (k : Int) + 1 := IntWalk.i64_in _ (by omega)
    have hkl : k < L.length := by rw [HL.out.2.2.1]; exact hlt
    obtain ⟨pb, off, rfl, x0, x1, x2, x3, x4, x5⟩ := ops_at (HL.out.1.below hBw) k hkl
    have HKO := Hidden.mk (HL.out.2.1 _ (List.getElem_mem hkl))
    have HCS := Hidden.mk (doS_cases (n := np) (S := S) L[k])
    have HFA : Hidden ((doS np S L[k]).2 ≠ 0 → (doS np S L[k]).1.l = S.l) := ⟨doS_fault⟩
    have HC6 : Hidden (L[k].what = 6 → ((doS np S L[k]).2 = 0 ↔ (dL S.l S.K np).length ≤ 23) ∧ ((doS np S L[k]).2 = 0 ∨ (doS np S L[k]).2 = 4) ∧ (doS np S L[k]).1.l = S.l ∧ ((doS np S L[k]).2 = 0 → (doS np S L[k]).1.K = S.l) ∧ ((doS np S L[k]).2 ≠ 0 → (doS np S L[k]).1.K = S.K)) := ⟨fun e6 => by
      have hsd := HS.out.pl.ok.said (by have := HS.out.st; omega)
      unfold doS
      rw [if_pos e6]
      by_cases hz : (cmS np S.st S.D S.l S.K).2 = 0
      · rw [if_pos hz]; exact ⟨⟨fun _ => hsd.1.1 hz, fun _ => rfl⟩, .inl rfl, rfl, fun _ => rfl, fun h => absurd rfl h⟩
      · rw [if_neg hz]
        exact ⟨hsd.1, hsd.2, rfl, fun h => absurd h hz, fun _ => rfl⟩⟩
    have HDO : Hidden (∀ W F GH, PlSt w W F GH s p d h nn np S → Calls Tryz.prog 11 #[.pointer (some ⟨s, 0, none⟩), opV L[k]] W fun e w' => e = .returned (errV (doS np S L[k]).2) ∧ ∃ F' GH', PlM w W w' F F' GH GH' s p d h nn np (doS np S L[k]).1) := ⟨fun W F GH hW => hW.do_ (by have := HS.out.st; omega) L[k] HKO.out⟩
    have HST : Hidden ((doS np S L[k]).1.st ≤ 2 + (k + 1)) := ⟨by have := doS_st np S L[k]; have := HS.out.st; omega⟩
    have HBX := Hidden.mk (HS.out.pl.fresh_)
    unfold opV at HDO
    generalize doS np S L[k] = R at *
    generalize L[k] = o at *
    obtain ⟨what, handle, at_, len, name, bA, bc, body⟩ := o
    dsimp only at *
    have hal := (Below.refl wr.heap.size wr).alloc (Nat.le_refl _) (.cells #[.int .i64 what, .int .i64 handle, .int .i64 at_, .int .i64 len, sv name, .slice bA body.length bc] 36)
    have h6 := six6_cells wr (.int .i64 what) (.int .i64 handle) (.int .i64 at_) (.int .i64 len) (sv name) (.slice bA body.length bc) 36
    have hlt1 : wr.heap.size < (wr.alloc (.cells #[.int .i64 what, .int .i64 handle, .int .i64 at_, .int .i64 len, sv name, .slice bA body.length bc] 36)).heap.size := by simp
    have HP1 := Hidden.mk (HS.out.pl.below hal)
    have HRB := Hidden.mk (HS.out.rb.below hal)
    have HRK := Hidden.mk (HS.out.rk.below hal)
    have hcb := HS.out.cb
    have hck := HS.out.ck
    have HBO : Hidden (body.length ≤ bc ∧ bc ≤ 140737488351232 ∧ name.length ≤ 140737488351232 ∧ Rd (wr.alloc (.cells #[.int .i64 what, .int .i64 handle, .int .i64 at_, .int .i64 len, sv name, .slice bA body.length bc] 36)) bA body) := ⟨HKO.out.cap, HKO.out.le, HKO.out.name, HKO.out.rd.below (hBw.trans (hal.mono hBw.size))⟩
    clear hal HS HKO hBw
    go_upto_region 15 with (fail)
    generalize wr.alloc (.cells #[.int .i64 what, .int .i64 handle, .int .i64 at_, .int .i64 len, sv name, .slice bA body.length bc] 36) = W1 at *
    generalize wr.heap.size = bx at *
    have H6 := Hidden.mk (And.intro h6 hlt1)
    obtain ⟨c0, c1, c2, c3', c4, c5⟩ := h6
    have hll := HP1.out.ok.ll
    have hgl := HP1.out.ok.gl
    have hX := HP1.out.xlt
    have HLL := Hidden.mk (And.intro hll (And.intro hgl hX))
    have hlk := HP1.out.ok.lk
    have HLK := Hidden.mk hlk
    clear x0 x1 x2 x3 x4 x5 hlt1 e1 e1' e2 e2' hll hgl hX hlk
    go_upto_block 2 with (fail)
    go_cut [9, 12, 13] (fun kv nv ev wx => Hidden (DoCut W1 wx (XF F GH s p) np R.2 R.1.l R.1.K kv nv ev))
    case first =>
      by_cases z1 : what = 1
      · as_aux_lemma =>
          have HR := Hidden.mk (HCS.out.1 z1)
          clear HCS HC6 HFA HDO HST
          subst z1
          have HCC := Hidden.mk (ralloc_all gb ob (32 * np) cb S.l len at_ W1 HLL.out.1 HLL.out.2.1 hcb HRB.out.rd)
          go_wp2_with fail
          refine HCC.out.mono ?_
          rintro e w5 ⟨hb5, ⟨h0, ⟨g5, c5', rfl, hc5, hg5, hr5⟩⟩ | ⟨h0, rfl⟩⟩
          · have HF := Hidden.mk (docut_new (Lx := allocL S.l len at_) HRK.out hck hb5 HLL.out.2.2 hg5 hc5 hr5 (by have := HRB.out.ne; rw [(stepR_alloc HLL.out.2.1 _ _).len]; exact this))
            have HZ := Hidden.mk h0
            clear hb5 h0 hc5 hg5 hr5 HCC
            go_wp2_with fail
            go_meet
            exact ⟨by rw [HR.out, HZ.out]; exact HF.out⟩
          · have HF := Hidden.mk (docut_bad (Lx := allocL S.l len at_) (nv := .slice none 0 0) HRK.out hck hb5 h0)
            clear hb5 h0 HCC
            go_wp2_with fail
            go_meet
            exact ⟨by rw [HR.out]; exact HF.out⟩
      by_cases z2 : what = 2
      · as_aux_lemma =>
          have HR := Hidden.mk (HCS.out.2.1 z2)
          clear HCS HC6 HFA HDO HST
          subst z2
          have HCC := Hidden.mk (rfree_all gb ob (32 * np) cb S.l handle W1 HLL.out.1 HLL.out.2.1 hcb HRB.out.rd)
          go_wp2_with fail
          refine HCC.out.mono ?_
          rintro e w5 ⟨hb5, ⟨h0, ⟨g5, c5', rfl, hc5, hg5, hr5⟩⟩ | ⟨h0, rfl⟩⟩
          · have HF := Hidden.mk (docut_new (Lx := freeL S.l handle) HRK.out hck hb5 HLL.out.2.2 hg5 hc5 hr5 (by have := HRB.out.ne; rw [(stepR_free HLL.out.2.1 _).len]; exact this))
            have HZ := Hidden.mk h0
            clear hb5 h0 hc5 hg5 hr5 HCC
            go_wp2_with fail
            go_meet
            exact ⟨by rw [HR.out, HZ.out]; exact HF.out⟩
          · have HF := Hidden.mk (docut_bad (Lx := freeL S.l handle) (nv := .slice none 0 0) HRK.out hck hb5 h0)
            clear hb5 h0 HCC
            go_wp2_with fail
            go_meet
            exact ⟨by rw [HR.out]; exact HF.out⟩
      by_cases z3 : what = 3
      · as_aux_lemma =>
          have HR := Hidden.mk (HCS.out.2.2.1 z3)
          clear HCS HC6 HFA HDO HST
          subst z3
          have HCC := Hidden.mk (rwrite_all gb ob (32 * np) cb S.l handle at_ bA body.length bc body W1 HLL.out.1 HLL.out.2.1 hcb HRB.out.rd rfl (Nat.le_trans HBO.out.1 HBO.out.2.1) HBO.out.2.2.2)
          go_wp2_with fail
          refine HCC.out.mono ?_
          rintro e w5 ⟨hb5, ⟨h0, ⟨g5, c5', rfl, hc5, hg5, hr5⟩⟩ | ⟨h0, rfl⟩⟩
          · have HF := Hidden.mk (docut_new (Lx := writeL S.l handle at_ body) HRK.out hck hb5 HLL.out.2.2 hg5 hc5 hr5 (by have := HRB.out.ne; rw [(stepR_write HLL.out.2.1 _ _ _).len]; exact this))
            have HZ := Hidden.mk h0
            clear hb5 h0 hc5 hg5 hr5 HCC
            go_wp2_with fail
            go_meet
            exact ⟨by rw [HR.out, HZ.out]; exact HF.out⟩
          · have HF := Hidden.mk (docut_bad (Lx := writeL S.l handle at_ body) (nv := .slice none 0 0) HRK.out hck hb5 h0)
            clear hb5 h0 HCC
            go_wp2_with fail
            go_meet
            exact ⟨by rw [HR.out]; exact HF.out⟩
      by_cases z4 : what = 4
      · as_aux_lemma =>
          have HR := Hidden.mk (HCS.out.2.2.2.1 z4)
          clear HCS HC6 HFA HDO HST
          subst z4
          have HCC := Hidden.mk (rset_all gb ob (32 * np) cb S.l name handle W1 HBO.out.2.2.1 HLL.out.1 HLL.out.2.1 hcb HRB.out.rd)
          go_wp2_with fail
          refine HCC.out.mono ?_
          rintro e w5 ⟨hb5, ⟨h0, ⟨g5, c5', rfl, hc5, hg5, hr5⟩⟩ | ⟨h0, rfl⟩⟩
          · have HF := Hidden.mk (docut_new (Lx := setL S.l name handle) HRK.out hck hb5 HLL.out.2.2 hg5 hc5 hr5 (by have := HRB.out.ne; rw [(stepR_set HLL.out.2.1 _ _).len]; exact this))
            have HZ := Hidden.mk h0
            clear hb5 h0 hc5 hg5 hr5 HCC
            go_wp2_with fail
            go_meet
            exact ⟨by rw [HR.out, HZ.out]; exact HF.out⟩
          · have HF := Hidden.mk (docut_bad (Lx := setL S.l name handle) (nv := .slice none 0 0) HRK.out hck hb5 h0)
            clear hb5 h0 HCC
            go_wp2_with fail
            go_meet
            exact ⟨by rw [HR.out]; exact HF.out⟩
      by_cases z5 : what = 5
      · as_aux_lemma =>
          have HR := Hidden.mk (HCS.out.2.2.2.2.1 z5)
          clear HCS HC6 HFA HDO HST
          subst z5
          have HCC := Hidden.mk (runset_all gb ob (32 * np) cb S.l name W1 HBO.out.2.2.1 HLL.out.1 HLL.out.2.1 hcb HRB.out.rd)
          go_wp2_with fail
          refine HCC.out.mono ?_
          rintro e w5 ⟨hb5, ⟨h0, ⟨g5, c5', rfl, hc5, hg5, hr5⟩⟩ | ⟨h0, rfl⟩⟩
          · have HF := Hidden.mk (docut_new (Lx := unL S.l name) HRK.out hck hb5 HLL.out.2.2 hg5 hc5 hr5 (by have := HRB.out.ne; rw [(stepR_unset HLL.out.2.1 _).len]; exact this))
            have HZ := Hidden.mk h0
            clear hb5 h0 hc5 hg5 hr5 HCC
            go_wp2_with fail
            go_meet
            exact ⟨by rw [HR.out, HZ.out]; exact HF.out⟩
          · have HF := Hidden.mk (docut_bad (Lx := unL S.l name) (nv := .slice none 0 0) HRK.out hck hb5 h0)
            clear hb5 h0 HCC
            go_wp2_with fail
            go_meet
            exact ⟨by rw [HR.out]; exact HF.out⟩
      by_cases z6 : what = 6
      · as_aux_lemma =>
          have HR6 := Hidden.mk (HC6.out z6)
          clear HCS HFA HDO HST HC6
          subst z6
          go_wp2_with fail
          go_loopg [14, 15] np (fun r mv jv wx => ∃ j : Nat, j ≤ np ∧ r = np - j ∧ jv = .int .i64 (j : Int) ∧ mv = .int .i64 ((dL S.l S.K j).length : Int) ∧ Hidden (Below W1.heap.size W1 wx))
          case atStart => exact ⟨0, by omega, rfl, rfl, rfl, ⟨Below.refl _ _⟩⟩
          case round =>
            obtain ⟨j, hj, rfl, rfl, rfl, hst⟩ := hrel
            have HB5 := Hidden.mk hst.out
            clear hst
            have hdl := dL_le S.l S.K j
            have sj1 : IntKind.i64.wrap (32 * (j : Int)) = 32 * (j : Int) := IntWalk.i64_in _ (by omega)
            by_cases hjn : j < np
            · have j1 : decide ((j : Int) < np) = true := by simp; omega
              have j1' : decide (j < np) = true := by simpa using hjn
              have j2 : decide (32 * (j : Int) < 32 * (np : Int)) = true := by simp; omega
              have j3 : decide (32 * j < 32 * np) = true := by simp; omega
              have sj2 : IntKind.i64.wrap (32 * (j : Int) + 32) = 32 * (j : Int) + 32 := IntWalk.i64_in _ (by omega)
              have sj3 : IntKind.i64.wrap ((j : Int) + 1) = (j : Int) + 1 := IntWalk.i64_in _ (by omega)
              have sj4 : IntKind.i64.wrap (((dL S.l S.K j).length : Int) + 1) = ((dL S.l S.K j).length : Int) + 1 := IntWalk.i64_in _ (by omega)
              have hcut1 := fun W => run_cut gb ob (32 * np) cb (32 * j) (32 * j + 32) (by omega) (by omega) (by omega) W
              have hcut2 := fun W => run_cut gk' ok' (32 * np) ck' (32 * j) (32 * j + 32) (by omega) (by omega) (by omega) W
              rw [show (((32 * j : Nat)) : Int) = 32 * (j : Int) by omega, show ((((32 * j + 32 : Nat)) : Int)) = 32 * (j : Int) + 32 by omega, show 32 * j + 32 - 32 * j = 32 by omega] at hcut1 hcut2
              have hr1 := (HRB.out.rd.below HB5.out).cut (32 * j) 32 (by rw [HLL.out.1]; omega)
              have hr2 := (HRK.out.rd.below HB5.out).cut (32 * j) 32 (by rw [HLK.out]; omega)
              rw [Option.map_some, Addr.add_lit] at hr1 hr2
              have hpg : ∀ x : Bytes, (x.drop (32 * j)).take 32 = pgB x j := fun x => by unfold pgB; rw [Nat.mul_comm]
              rw [hpg] at hr1 hr2
              have HCV : Hidden (∀ W, Below wr.heap.size wr W → (convert 34 9 (.slice (some ⟨gb, ob + 32 * j, none⟩) 32 (cb - 32 * j))).run Tryz.prog W = .ok (sv (pgB S.l j)) W ∧ (convert 34 9 (.slice (some ⟨gk', ok' + 32 * j, none⟩) 32 (ck' - 32 * j))).run Tryz.prog W = .ok (sv (pgB S.K j)) W) := ⟨fun W hW => ⟨conv_text W _ 32 _ _ (pgB_len HLL.out.1 hjn) (hr1.below hW), conv_text W _ 32 _ _ (pgB_len HLK.out hjn) (hr2.below hW)⟩⟩
              have HD := Hidden.mk (dL_succ S.l S.K j)
              have HDF : Hidden (difB S.l S.K j = (pgB S.l j != pgB S.K j)) := ⟨rfl⟩
              generalize hDe : dL S.l S.K j = DE at *
              generalize pgB S.l j = P1 at *
              generalize pgB S.K j = P2 at *
              clear hr1 hr2 hDe hpg
              go_upto_region 35 with (fail)
              go_region_held3 (fun W => (convert 34 9 (.slice (some ⟨gb, ob + 32 * j, none⟩) 32 (cb - 32 * j))).run Tryz.prog W = .ok (sv P1) W ∧ (convert 34 9 (.slice (some ⟨gk', ok' + 32 * j, none⟩) 32 (ck' - 32 * j))).run Tryz.prog W = .ok (sv P2) W) (first | exact HCV.out _ (Below.refl _ _).drew | exact HCV.out _ (Below.refl _ _)) (fail)
              have HBD : Hidden (Below W1.heap.size W1 wr.drew) := ⟨HB5.out.trans (((Below.refl _ wr).drew).mono HB5.out.size)⟩
              rename_i hheld_
              clear hheld_
              generalize wr.drew = wd at *
              clear HB5 HCV hcut1 hcut2
              cases hq : (P1 == P2) with
              | true =>
                have HSS : Hidden (dL S.l S.K (j + 1) = DE) := ⟨by rw [HD.out, HDF.out, bne, hq]; simp⟩
                clear HD HDF
                go_wp2_with fail
                go_roundg (np - (j + 1))
                case measure => omega
                case rel => exact ⟨j + 1, by omega, rfl, by go_num, by rw [HSS.out], HBD⟩
              | false =>
                have HSS : Hidden (dL S.l S.K (j + 1) = DE ++ [j]) := ⟨by rw [HD.out, HDF.out, bne, hq]; simp⟩
                clear HD HDF
                go_wp2_with fail
                go_roundg (np - (j + 1))
                case measure => omega
                case rel => exact ⟨j + 1, by omega, rfl, by go_num, by rw [HSS.out, List.length_append]; simp, HBD⟩
            · obtain rfl : np = j := by omega
              have j1 : decide ((np : Int) < np) = false := by simp
              have j2 : decide (32 * (np : Int) < 32 * (np : Int)) = false := by simp
              have j3 : decide (32 * np < 32 * np) = false := by simp
              obtain ⟨a1, a2, a3, a4, a5⟩ := HR6.out
              generalize (dL S.l S.K np).length = q at *
              by_cases h23 : q ≤ 23
              · have d1 : decide ((23 : Int) < (q : Int)) = false := by simp; omega
                have d1' : decide (23 < q) = false := by simp; omega
                have h0 := a1.2 h23
                have HF : Hidden (DoCut W1 wr (XF F GH s p) np R.2 R.1.l R.1.K (.slice (some ⟨gb, ob, none⟩) (32 * np) cb) (.slice (some ⟨gb, ob, none⟩) (32 * np) cb) (.int .i64 0)) := ⟨by
                  rw [h0, a3, a4 h0]
                  exact docut_old HRB.out hcb HB5.out hcb HRB.out⟩
                clear a1 a2 a3 a4 a5 h23 h0
                go_wp2_with fail
                go_meet
                exact HF
              · have d1 : decide ((23 : Int) < (q : Int)) = true := by simp; omega
                have d1' : decide (23 < q) = true := by simp; omega
                have h0 : R.2 ≠ 0 := fun hz => h23 (a1.1 hz)
                have h4 : R.2 = 4 := a2.resolve_left h0
                have HF : Hidden (DoCut W1 wr (XF F GH s p) np R.2 R.1.l R.1.K (.slice (some ⟨gk', ok', none⟩) (32 * np) ck') (.slice (some ⟨gb, ob, none⟩) (32 * np) cb) (.int .i64 4)) := ⟨by
                  rw [a5 h0, h4]
                  exact docut_bad HRK.out hck HB5.out (by decide)⟩
                clear a1 a2 a3 a4 a5 h23 h0 h4
                go_wp2_with fail
                go_meet
                exact HF
      by_cases z7 : what = 7
      · as_aux_lemma =>
          have HR := Hidden.mk (HCS.out.2.2.2.2.2.1 z7)
          clear HCS HC6 HFA HDO HST
          subst z7
          go_wp2_with fail
          go_meet
          exact ⟨by rw [HR.out]; exact docut_old HRK.out hck (Below.refl _ _) hck HRK.out⟩
      by_cases z8 : what = 8
      · as_aux_lemma =>
          have HR := Hidden.mk (HCS.out.2.2.2.2.2.2.1 z8)
          clear HCS HC6 HFA HDO HST
          subst z8
          have HCC := Hidden.mk (rstep_any gb ob (32 * np) cb S.l W1 HLL.out.1 HLL.out.2.1 hcb HRB.out.rd)
          go_wp2_with fail
          refine HCC.out.mono ?_
          rintro e w5 ⟨g5, o5, c5', rfl, hc5, hg5, hr5, hb5⟩
          have HF : Hidden (DoCut W1 w5 (XF F GH s p) np 0 (stepL S.l) S.K (.slice (some ⟨gk', ok', none⟩) (32 * np) ck') (.slice (some ⟨g5, o5, none⟩) (32 * np) c5') (.int .i64 0)) := ⟨⟨rfl, hb5, ⟨gk', ok', ck', rfl, hck, HRK.out.below hb5⟩, fun _ => ⟨g5, o5, c5', rfl, hc5, hr5, fun hx => by
            rcases hg5 with rfl | hg5
            · exact HRB.out.nx hx
            · have := HLL.out.2.2 _ hx; omega, by rw [(stepR_moved (step_moved HLL.out.2.1).1).len]; exact HRB.out.ne⟩⟩⟩
          clear hc5 hg5 hr5 hb5 HCC
          go_wp2_with fail
          go_meet
          exact ⟨by rw [HR.out]; exact HF.out⟩
      by_cases z9 : what = 9
      · as_aux_lemma =>
          have HR := Hidden.mk (HCS.out.2.2.2.2.2.2.2.1 z9)
          clear HCS HC6 HFA HDO HST
          subst z9
          have HCC := Hidden.mk (rlive_ok gb ob (32 * np) cb S.l W1 HLL.out.1 HLL.out.2.1 hcb HRB.out.rd)
          have HSW : Hidden (∀ j, j ≤ (deadL S.l).length → Good (sweepT S.l ((deadL S.l).take j)) ∧ (sweepT S.l ((deadL S.l).take j)).length = 32 * np) := ⟨fun j hj => by
            have := sweep_at HLL.out.2.1 j hj
            exact ⟨this.good, this.len.trans HLL.out.1⟩⟩
          have HFR : Hidden (∀ j (hj : j < (deadL S.l).length), freeE (sweepT S.l ((deadL S.l).take j)) ((deadL S.l)[j] : Int) = 0) := ⟨fun j hj => sweep_free HLL.out.2.1 hj⟩
          have HSU : Hidden (∀ j (hj : j < (deadL S.l).length), sweepT S.l ((deadL S.l).take (j + 1)) = freeL (sweepT S.l ((deadL S.l).take j)) ((deadL S.l)[j] : Int)) := ⟨fun j hj => sweepT_succ S.l (deadL S.l) j hj⟩
          have HEN : Hidden (sweepL S.l = sweepT S.l ((deadL S.l).take (deadL S.l).length)) := ⟨by rw [List.take_length]; rfl⟩
          have HSZ : Hidden (sweepT S.l ((deadL S.l).take 0) = S.l) := ⟨rfl⟩
          have hd40 : (deadL S.l).length ≤ 40 := Nat.le_trans (deadE_len _ _) (entsL_len _ _ 40)
          generalize sweepL S.l = SW at *
          generalize sweepT S.l = ST at *
          generalize deadL S.l = DD at *
          go_wp2_with fail
          refine HCC.out.mono ?_
          rintro e w5 ⟨v1, v2, rfl, -, hown, hb5⟩
          obtain ⟨A5, cd, rfl, -, -⟩ := own_split hown
          have HDX := Hidden.mk (own_rdX3 (f := ncell) (fun _ => rfl) rfl hown)
          have HB5 := Hidden.mk hb5
          clear hown hb5 HCC
          go_wp2_with fail
          go_loopg [12, 18] DD.length (fun r nv jv wx => ∃ (j gn on cn : Nat), j ≤ DD.length ∧ r = DD.length - j ∧ jv = .int .i64 (j : Int) ∧ nv = .slice (some ⟨gn, on, none⟩) (32 * np) cn ∧ Hidden (Below w5.heap.size w5 wx ∧ 32 * np ≤ cn ∧ RdO wx (XF F GH s p) gn on (ST (DD.take j))))
          case atStart => exact ⟨0, gb, ob, cb, by omega, rfl, rfl, rfl, ⟨Below.refl _ _, hcb, (HRB.out.below HB5.out).cong HSZ.out.symm⟩⟩
          case round =>
            obtain ⟨j, gn, on, cn, hj, rfl, rfl, rfl, hst⟩ := hrel
            have HN := Hidden.mk hst.out
            clear hst
            by_cases hjd : j < DD.length
            · have j1 : decide ((j : Int) < DD.length) = true := by simp; omega
              have j1' : decide (j < DD.length) = true := by simpa using hjd
              have k0 : (0 : Int) ≤ j := by omega
              have k1 : (j : Int) < DD.length := by omega
              have sj3 : IntKind.i64.wrap ((j : Int) + 1) = (j : Int) + 1 := IntWalk.i64_in _ (by omega)
              obtain ⟨pd, od, rfl, hcd⟩ := (HDX.out.below HN.out.1) j hjd
              have y0 := hcd 0 _ rfl
              rw [Nat.add_zero, Nat.mul_one] at y0
              obtain ⟨hgd, hld⟩ := HSW.out j hj
              have hF0 := HFR.out j hjd
              have HCF := Hidden.mk (rfree_all gn on (32 * np) cn (ST (DD.take j)) (DD[j] : Int) wr hld hgd HN.out.2.1 HN.out.2.2.rd)
              have HSJ := Hidden.mk (HSU.out j hjd)
              have HLJ := Hidden.mk (HSW.out (j + 1) hjd).2
              rw [hF0] at HCF
              generalize DD[j] = dj at *
              generalize hL2 : ST (DD.take (j + 1)) = L2 at *
              generalize ST (DD.take j) = L1 at *
              clear hcd hgd hld hF0
              go_wp2_with fail
              refine HCF.out.mono ?_
              rintro e w6 ⟨hb6, ⟨h0, ⟨g6, c6, rfl, hc6, hg6, hr6⟩⟩ | ⟨h0, rfl⟩⟩
              · have HN2 : Hidden (Below w5.heap.size w5 w6 ∧ 32 * np ≤ c6 ∧ RdO w6 (XF F GH s p) g6 0 L2) := ⟨HN.out.1.trans (hb6.mono HN.out.1.size), hc6, by rw [HSJ.out]; exact hr6, fun hx => by
                  have h1 := HLL.out.2.2 _ hx
                  have h2 := HB5.out.size
                  have h3 := HN.out.1.size
                  omega, by rw [HLJ.out]; omega⟩
                clear hb6 h0 hc6 hg6 hr6 HCF y0
                go_wp2_with fail
                go_roundg (DD.length - (j + 1))
                case measure => omega
                case rel => exact ⟨j + 1, g6, 0, c6, by omega, rfl, by go_num, rfl, by rw [hL2]; exact HN2⟩
              · exact absurd rfl h0
            · obtain rfl : j = DD.length := by omega
              have j1 : decide ((DD.length : Int) < DD.length) = false := by simp
              have j1' : decide (DD.length < DD.length) = false := by simp
              have HF : Hidden (DoCut W1 wr (XF F GH s p) np 0 SW S.K (.slice (some ⟨gk', ok', none⟩) (32 * np) ck') (.slice (some ⟨gn, on, none⟩) (32 * np) cn) (.int .i64 0)) := ⟨⟨rfl, HB5.out.trans (HN.out.1.mono HB5.out.size), ⟨gk', ok', ck', rfl, hck, HRK.out.below (HB5.out.trans (HN.out.1.mono HB5.out.size))⟩, fun _ => ⟨gn, on, cn, rfl, HN.out.2.1, by rw [HEN.out]; exact HN.out.2.2⟩⟩⟩
              clear HN
              go_wp2_with fail
              go_meet
              exact ⟨by rw [HR.out]; exact HF.out⟩
      have HR := Hidden.mk (HCS.out.2.2.2.2.2.2.2.2 z1 z2 z3 z4 z5 z6 z7 z8 z9)
      have q1 : (what == 1) = false := by simpa using z1
      have q2 : (what == 2) = false := by simpa using z2
      have q3 : (what == 3) = false := by simpa using z3
      have q4 : (what == 4) = false := by simpa using z4
      have q5 : (what == 5) = false := by simpa using z5
      have q6 : (what == 6) = false := by simpa using z6
      have q7 : (what == 7) = false := by simpa using z7
      have q8 : (what == 8) = false := by simpa using z8
      have q9 : (what == 9) = false := by simpa using z9
      clear HCS HC6 HFA HDO HST z1 z2 z3 z4 z5 z6 z7 z8 z9
      go_wp2_with fail
      go_meet
      exact ⟨by rw [HR.out]; exact docut_bad HRK.out hck (Below.refl _ _) (show (1 : Nat) ≠ 0 by decide)⟩
    case rest =>
    obtain ⟨rfl, hbc, ⟨gk2, ok2, ck2, rfl, hck2, hrk2⟩, hnx⟩ := hcut.out
    have HCT := Hidden.mk (And.intro hbc (And.intro hrk2 hnx))
    have HRB2 := Hidden.mk (HRB.out.below hbc)
    have HPC := Hidden.mk (HP1.out.below hbc)
    obtain ⟨c0, c1, c2, c3', c4, c5⟩ := H6.out.1.below hbc H6.out.2
    have hltc : bx < wc.heap.size := Nat.lt_of_lt_of_le H6.out.2 hbc.size
    clear hcut hbc hrk2 hnx HRB HRK HP1 HCS HC6 H6 HBO
    go_upto_if 182 with (fail)
    go_cut [8] (fun bv wx => ∃ gn on cn, bv = .slice (some ⟨gn, on, none⟩) (32 * np) cn ∧ wc = wx ∧ Hidden (32 * np ≤ cn ∧ RdO wc (XF F GH s p) gn on R.1.l))
    case first =>
      by_cases hE : R.2 = 0
      · obtain ⟨gn, on, cn, rfl, hcn, hrn⟩ := HCT.out.2.2 hE
        have d1 : ((R.2 : Int) == 0) = true := by simp [hE]
        have HF := Hidden.mk (And.intro hcn hrn)
        clear hE hcn hrn
        try simp only [d1]
        go_wp2_with fail
        go_meet
        exact ⟨gn, on, cn, rfl, rfl, HF⟩
      · have d1 : ((R.2 : Int) == 0) = false := by simpa using hE
        have HF := Hidden.mk (And.intro hcb (HRB2.out.cong (HFA.out hE).symm))
        clear hE
        try simp only [d1]
        go_wp2_with fail
        go_meet
        exact ⟨gb, ob, cb, rfl, rfl, HF⟩
    case rest =>
    as_aux_lemma =>
      obtain ⟨gn, on, cn, rfl, rfl, hrn⟩ := hcut
      have HRN := Hidden.mk hrn.out.2
      have hcn := hrn.out.1
      have HDC := Hidden.mk (HDO.out wc F GH HPC.out)
      clear hrn HDO
      go_wp2_with fail
      refine HDC.out.mono ?_
      rintro e w6 ⟨rfl, F6, GH6, hm6⟩
      have HP6 := Hidden.mk hm6.pl
      have HRB6 := Hidden.mk (HRN.out.turn hm6.xf.1 hm6.xf.2)
      have HRK6 := Hidden.mk (HCT.out.2.1.turn hm6.xf.1 hm6.xf.2)
      have HER := Hidden.mk (err_any R.2 (R.2 : Int) w6 (HL.out.2.2.2.below HL.out.2.2.2.lt HP6.out.dev.bel))
      rw [beq_self_eq_true] at HER
      clear hm6 HDC HCT HRB2 HPC HRN c0 c1 c2 c3' c4 c5 hltc
      go_wp2_with fail
      refine HER.out.mono ?_
      rintro e w7 ⟨rfl, hb7⟩
      have HP7 := Hidden.mk (HP6.out.below hb7)
      have HRB7 := Hidden.mk (HRB6.out.below hb7)
      have HRK7 := Hidden.mk (HRK6.out.below hb7)
      have hRl : R.1.l.length = 32 * np := HP7.out.ok.ll
      have eK : (R.1.l != R.1.l) = false := bne_self_eq_false R.1.l
      have eK' : (R.1.l == R.1.l) = true := beq_self_eq_true R.1.l
      clear hb7 HER HP6 HRB6 HRK6
      go_upto_region 54 with (fail)
      have hB0 : Below w7.heap.size w7 w7.drew := (Below.refl _ _).drew
      refine wp_region_held_drew (S := fun W => Rd W (some ⟨gn, on, none⟩) R.1.l) (by kernel_rfl) (HRB7.out.rd.below hB0) (fun hHeld => ?_)
      refine wpAnyH_take (i := 0) (oi := { dst := some 189, op := Op.move (Operand.tmp 19), type := 4, pos := "law.go:250", after := #[], guard := none }) (v := ?_) rfl (by kernel_rfl) (by kernel_rfl) (by kernel_rfl) (fun _ _ _ h => h) (Or.inl ⟨by rfl, ?_⟩) hHeld ?_
      rotate_left
      · intro w_ hSw
        go_simp
        try with_reducible rfl
      try simp only [Act.put, List.setIfInBounds_toArray, List.set_cons_zero, List.set_cons_succ]
      refine wpAnyH_take (i := 1) (oi := { dst := some 190, op := Op.unOp UnOp.not 4 (Operand.tmp 189), type := 4, pos := "law.go:250", after := #[{ on := 0, ground := Ground.data }], guard := none }) (v := ?_) rfl (by kernel_rfl) (by kernel_rfl) (by kernel_rfl) (fun _ _ _ h => h) (Or.inl ⟨by rfl, ?_⟩) hHeld ?_
      rotate_left
      · intro w_ hSw
        go_simp
        try with_reducible rfl
      try simp only [Act.put, List.setIfInBounds_toArray, List.set_cons_zero, List.set_cons_succ]
      refine wpAnyH_take (i := 2) (oi := { dst := some 191, op := Op.move (Operand.tmp 190), type := 4, pos := "law.go:250", after := #[{ on := 1, ground := Ground.data }], guard := none }) (v := ?_) rfl (by kernel_rfl) (by kernel_rfl) (by kernel_rfl) (fun _ _ _ h => h) (Or.inl ⟨by rfl, ?_⟩) hHeld ?_
      rotate_left
      · intro w_ hSw
        go_simp
        try with_reducible rfl
      try simp only [Act.put, List.setIfInBounds_toArray, List.set_cons_zero, List.set_cons_succ]
      refine wpAnyH_take (i := 3) (oi := { dst := some 192, op := Op.move (Operand.tmp 7), type := 30, pos := "law.go:250", after := #[{ on := 2, ground := Ground.guard }], guard := some (2, false) }) (v := ?_) rfl (by kernel_rfl) (by kernel_rfl) (by kernel_rfl) (fun _ _ _ h => h) (Or.inl ⟨by rfl, ?_⟩) hHeld ?_
      rotate_left
      · intro w_ hSw
        go_simp
        try with_reducible rfl
      try simp only [Act.put, List.setIfInBounds_toArray, List.set_cons_zero, List.set_cons_succ]
      refine wpAnyH_take (i := 7) (oi := { dst := some 196, op := Op.move (Operand.tmp 8), type := 34, pos := "law.go:250", after := #[{ on := 2, ground := Ground.guard }], guard := some (2, false) }) (v := ?_) rfl (by kernel_rfl) (by kernel_rfl) (by kernel_rfl) (fun _ _ _ h => h) (Or.inl ⟨by rfl, ?_⟩) hHeld ?_
      rotate_left
      · intro w_ hSw
        go_simp
        try with_reducible rfl
      try simp only [Act.put, List.setIfInBounds_toArray, List.set_cons_zero, List.set_cons_succ]
      refine wpAnyH_take (i := 8) (oi := { dst := some 197, op := Op.convert 34 9 (Operand.tmp 196), type := 9, pos := "law.go:250", after := #[{ on := 7, ground := Ground.data }, { on := 2, ground := Ground.guard }], guard := some (2, false) }) (v := ?_) rfl (by kernel_rfl) (by kernel_rfl) (by kernel_rfl) (fun _ _ _ h => h) (Or.inl ⟨by rfl, ?_⟩) hHeld ?_
      rotate_left
      · intro w_ hSw
        have hcv_ := conv_text w_ (some ⟨gn, on, none⟩) (32 * np) cn R.1.l hRl hSw
        go_simp
        try with_reducible rfl
      try simp only [Act.put, List.setIfInBounds_toArray, List.set_cons_zero, List.set_cons_succ]
      refine wpAnyH_ready (rs := [4]) (by kernel_rfl) (by simp) ?_
      refine AllReadyH.cons (o := { dst := some 193, op := Op.call { callee := Callee.value (Operand.func 16), args := #[Operand.tmp 192], argTypes := #[30] }, type := 43, pos := "law.go:250", after := #[{ on := 3, ground := Ground.data }, { on := 2, ground := Ground.chain }, { on := 2, ground := Ground.guard }], guard := some (2, false) }) rfl (fun K hK => ?_) (AllReadyH.nil)
      rw [if_pos (by rfl)]
      go_simp
      go_at_call 16
      refine ((HP7.out.below hB0).heap_).mono ?_
      rintro e w_9 ⟨rfl, rfl⟩
      dsimp only
      refine hK.out _ _ (hHeld) (fun hHeld => ?_)
      clear hK K
      try simp only [Act.put, List.setIfInBounds_toArray, List.set_cons_zero, List.set_cons_succ]
      refine wpAnyH_ready (rs := [5]) (by kernel_rfl) (by simp) ?_
      refine AllReadyH.cons (o := { dst := some 194, op := Op.call { callee := Callee.value (Operand.func 17), args := #[Operand.tmp 193], argTypes := #[43] }, type := 34, pos := "law.go:250", after := #[{ on := 4, ground := Ground.data }, { on := 4, ground := Ground.chain }, { on := 2, ground := Ground.guard }], guard := some (2, false) }) rfl (fun K hK => ?_) (AllReadyH.nil)
      rw [if_pos (by rfl)]
      go_simp
      go_at_call 17
      refine ((HP7.out.below hB0).bytes_).mono ?_
      rintro e w8 ⟨g8, c8, rfl, -, hr8, hb8⟩
      dsimp only
      refine hK.out _ _ (hHeld.below hb8) (fun hHeld => ?_)
      clear hK K
      try simp only [Act.put, List.setIfInBounds_toArray, List.set_cons_zero, List.set_cons_succ]
      refine wpAnyH_strong (S' := fun W => Row W 5 g8 c8 R.1.l ∧ Rd W (some ⟨gn, on, none⟩) R.1.l) (fun _ h => h.2) _ _ _ _ ?_
      replace hHeld := And.intro hr8 hHeld
      refine wpAnyH_take (i := 6) (oi := { dst := some 195, op := Op.convert 34 9 (Operand.tmp 194), type := 9, pos := "law.go:250", after := #[{ on := 5, ground := Ground.data }, { on := 2, ground := Ground.guard }], guard := some (2, false) }) (v := ?_) rfl (by kernel_rfl) (by kernel_rfl) (by kernel_rfl) (fun _ _ _ h => h) (Or.inl ⟨by rfl, ?_⟩) hHeld ?_
      rotate_left
      · intro w_ hSw
        have hcv_ := conv_text w_ (some ⟨g8, 0, none⟩) (32 * np) c8 R.1.l hRl hSw.1.rd
        go_simp
        try with_reducible rfl
      try simp only [Act.put, List.setIfInBounds_toArray, List.set_cons_zero, List.set_cons_succ]
      refine wpAnyH_take (i := 9) (oi := { dst := some 198, op := Op.binOp BinOp.neq 9 (Operand.tmp 195) (Operand.tmp 197) 9, type := 4, pos := "law.go:250", after := #[{ on := 6, ground := Ground.data }, { on := 8, ground := Ground.data }, { on := 2, ground := Ground.guard }], guard := some (2, false) }) (v := ?_) rfl (by kernel_rfl) (by kernel_rfl) (by kernel_rfl) (fun _ _ _ h => h) (Or.inl ⟨by rfl, ?_⟩) hHeld ?_
      rotate_left
      · intro w_ hSw
        go_simp
        try with_reducible rfl
      try simp only [Act.put, List.setIfInBounds_toArray, List.set_cons_zero, List.set_cons_succ]
      refine wpAnyH_take (i := 10) (oi := { dst := some 199, op := Op.pick (Operand.tmp 191) (Operand.const (Go.Value.bool true)) (Operand.tmp 198), type := 4, pos := "law.go:250", after := #[{ on := 2, ground := Ground.data }, { on := 9, ground := Ground.data }], guard := none }) (v := ?_) rfl (by kernel_rfl) (by kernel_rfl) (by kernel_rfl) (fun _ _ _ h => h) (Or.inl ⟨by rfl, ?_⟩) hHeld ?_
      rotate_left
      · intro w_ hSw
        go_simp
        try with_reducible rfl
      try simp only [Act.put, List.setIfInBounds_toArray, List.set_cons_zero, List.set_cons_succ]
      refine wpAnyH_done (by kernel_rfl) ?_ _
      clear hHeld
      have HN : Hidden (DoSt w w8 F6 GH6 s p d h nn np R.1 gn on cn gk2 ok2 ck2 (2 + (k + 1))) := ⟨(HP7.out.below hB0).below hb8, HST.out, (HRB7.out.below hB0).below hb8, (HRK7.out.below hB0).below hb8, hcn, hck2⟩
      clear hb8 hr8 hB0 HP7 HRB7 HRK7 HFA HST HBX
      go_wp2_with fail
      go_roundg (60 - (k + 1))
      case measure => omega
      case rel => exact ⟨k + 1, F6, GH6, R.1, gn, on, cn, gk2, ok2, ck2, by omega, rfl, by go_num, rfl, rfl, HN⟩
end Go.Proofs.YtoieifphklodoaaGreatDoor
