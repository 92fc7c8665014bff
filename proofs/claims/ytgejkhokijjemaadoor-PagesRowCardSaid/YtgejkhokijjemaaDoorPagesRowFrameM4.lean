/- Contracts and plain laws, put together: PagesRow1. -/
import Derived.Test.YtgejkhokijjemaaDoorPagesRowFrameM3
import Derived.Test.YtgejkhokijjemaaDoorPagesRowFrameM2
import Derived.Deep.DeepCutAuto
import Derived.Deep.CutBlock
import Derived.StillTailTactics
import Derived.BigQuiet
/- PagesRow: the walk. -/
namespace Go.Proofs.YtgejkhokijjemaaDoor
open Go.RowKit Go.Maps Go.ChangeMaps

theorem pread_at {w0 w : World} {F : Nat → Prop} {p d st n : Nat} {D : Dv} (h : DevB w0 w F d D) (hp : PgH w F p d st n) (hn : n = nP D) :
    Calls Tryd.prog 39 #[.pointer (some ⟨p, 0, none⟩), .int .i64 (n : Int)] w (SlAns w [] 1) := by
  subst hn
  have H := pread_any h hp (nP D : Int)
  have e1 : pgE D (nP D : Int) = 1 := by unfold pgE; rw [if_pos (.inr (Int.le_refl _))]
  have e2 : pgL D (nP D : Int) = [] := by unfold pgL; rw [e1]; rfl
  rw [e1, e2] at H
  exact H
/-- the pages can be opened again, and are what they were -/
theorem SfP.opens {nn n : Nat} {D : Dv} {st : Nat} {pg : Nat → Bytes} (h : SfP nn n D st pg) : (openP D).2 = 0 ∧ SfP nn n (openP D).1 st pg ∧ (openMk D).1 = st := by
  obtain ⟨l, hl⟩ := h.full
  obtain ⟨a, b, _, c, e, f⟩ := open_up hl.hold h.wf h.up
  refine ⟨a, ⟨⟨l, b⟩, e, c, f.trans h.len, ?_⟩, ?_⟩
  · rw [show nP (openP D).1 = nP D from by unfold nP; rw [f]]; exact h.n0
  · rw [hl.hold.opened]
set_option maxRecDepth 100000 in
set_option maxHeartbeats 4000000 in
theorem pagesRow_walk (n : Int) (A : Option Addr) (c : Nat) (L : List (SubX PgX)) (w : World) (hg : HasType w) (ho : ∀ x ∈ L, SubOk pcells 2 PgOk w x) (hr : RdX scells 1 w A L) (_hl : L.length ≤ c) (hl2 : L.length ≤ 140737488351232) :
    Calls Tryd.prog 5 #[.int .i64 n, .slice A L.length c] w fun e w' => e = .returned (.bool true) ∧ Below w.heap.size w w' := by
  have HR := Hidden.mk hr
  have HO := Hidden.mk ho
  have HG := Hidden.mk hg
  clear hg hr ho
  by_cases hn : n < 1 ∨ 300 < n
  · have HN := Hidden.mk hn
    clear hn
    go_enter Tryd.func5, Tryd.ntmps5
    go_wp2_with fail
    refine (dnew_e1 n _ HN.out).mono ?_
    rintro e w1 ⟨rfl, rfl⟩
    go_wp2_with fail
    go_ret
    exact ⟨rfl, Below.refl _ _⟩
  obtain ⟨nn, rfl⟩ : ∃ nn : Nat, n = nn := ⟨n.toNat, by omega⟩
  have hn1 : 1 ≤ nn := by omega
  have hn3 : nn ≤ 300 := by omega
  clear hn
  go_enter Tryd.func5, Tryd.ntmps5
  go_wp2_with fail
  refine (dnewB nn _ hn1 hn3).mono ?_
  rintro e w1 ⟨d, F, rfl, hd1⟩
  have HD1 := Hidden.mk hd1
  clear hd1
  by_cases h49 : nn < 49
  · have t1 : decide ((nn : Int) < 49) = true := by simp; omega
    have t2 : decide (nn < 49) = true := by simpa using h49
    clear h49
    go_wp2_with fail
    go_ret
    exact ⟨rfl, HD1.out.bel⟩
  have h49' : 49 ≤ nn := by omega
  have t1 : decide ((nn : Int) < 49) = false := by simp; omega
  have t2 : decide (nn < 49) = false := by simpa using h49
  obtain ⟨hfull, hup, hwf, hlen, hnp⟩ := format_full nn h49' hn3
  have HPF : Hidden (SfP nn (nP (newD nn)) (formatD (newD nn)) 2 (fun _ => List.replicate 32 0)) := ⟨⟨⟨_, hfull⟩, hwf, hup, hlen, hfull.hold.n0⟩⟩
  have HFM := Hidden.mk (pformat_ok HD1.out ⟨rfl, rfl⟩ (by simp [newD]; exact h49'))
  have HNP := Hidden.mk hnp
  have hnn1 : 1 ≤ nP (newD nn) := by omega
  have hnn2 : nP (newD nn) ≤ 200 := by omega
  generalize nP (newD nn) = np at *
  generalize formatD (newD nn) = Df at *
  clear h49 h49' hfull hup hwf hlen hnp
  go_wp2_with fail
  refine HFM.out.mono ?_
  rintro e w2 ⟨p, F2, rfl, hm2, hp2, hpn⟩
  have HM2 := Hidden.mk ((PdM.refl HD1.out).next hm2)
  have HP2 := Hidden.mk hp2
  have HPN := Hidden.mk (Nat.le_trans HD1.out.bel.size hpn)
  clear hm2 hp2 hpn HFM t1 t2
  go_wp2_with fail
  refine (pstamp_any HP2.out).mono ?_
  rintro e w' ⟨rfl, rfl⟩
  go_wp2_with fail
  refine (plen_any HP2.out).mono ?_
  rintro e w' ⟨rfl, rfl⟩
  have hml := mk_lists (np : Int) np rfl (by omega)
  have hl12 := Lst.made w2 F2 np (fun _ => List.replicate 32 0) HM2.out.dev.flt
  have hal := (Below.refl w2.heap.size w2).alloc (Nat.le_refl _) (.cells (Array.replicate np (.slice none 0 0)) 48)
  have HST : Hidden (DevB w (w2.alloc (.cells (Array.replicate np (.slice none 0 0)) 48)) F2 d Df ∧ PgH (w2.alloc (.cells (Array.replicate np (.slice none 0 0)) 48)) F2 p d 2 np ∧ Lst (w2.alloc (.cells (Array.replicate np (.slice none 0 0)) 48)) F2 w2.heap.size np 0 (fun _ => List.replicate 32 0)) := ⟨HM2.out.dev.below hal, HP2.out.below hal, hl12⟩
  have HGN := Hidden.mk HM2.out.dev.bel.size
  clear hl12 hal
  go_wp2_with fail
  generalize w2.alloc (.cells (Array.replicate np (.slice none 0 0)) 48) = w4 at *
  generalize w2.heap.size = go at *
  clear hml HM2 HP2
  go_loopg [10] np (fun m i wr => ∃ k : Nat, k ≤ np ∧ m = np - k ∧ i = .int .i64 (k : Int) ∧ Hidden (DevB w wr F2 d Df ∧ PgH wr F2 p d 2 np ∧ Lst wr F2 go np k (fun _ => List.replicate 32 0)))
  case atStart => exact ⟨0, by omega, rfl, rfl, HST⟩
  case round =>
    obtain ⟨k, hk, rfl, rfl, hst1⟩ := hrel
    obtain ⟨hd5, hp5, hl5⟩ := hst1.out
    have HPG := Hidden.mk hp5
    by_cases hlt : k < np
    · have i0 : (0 : Int) ≤ k := by omega
      have i1 : (k : Int) < np := by omega
      have s1 : IntKind.i64.wrap ((k : Int) + 1) = (k : Int) + 1 := IntWalk.i64_in _ (by omega)
      have hmz := fun W => mk_bytes 32 32 rfl (by omega) W
      have hal := (Below.refl wr.heap.size wr).alloc (Nat.le_refl _) (.cells (zeroRow 32) 5)
      have hgF : ¬ F2 wr.heap.size := fun hf => by have := hd5.flt _ hf; omega
      have hl6 := hl5.below hal
      have hd6 := hd5.below hal
      have hp6 := hp5.below hal
      obtain ⟨⟨vs, hsl⟩, hfz⟩ := hl6.slot hlt
      obtain ⟨⟨cur, hcur⟩, hnf⟩ := hl6.blk
      have hps := hl6.push hlt (row_zeros wr 32 (by simp [maxLen])) (by simp) hgF
      have hdp := hd6.keep (hl6.keepSet (k := k) (rowV wr.heap.size 32)) (fun q hq e => hnf (e ▸ hq)) (fun q hq => by rw [hq]; exact HGN.out)
      have hpp := hp6.setOther (q := k) (hp6.ne_cells hcur (by decide)) (rowV wr.heap.size 32)
      unfold rowV at hps hdp hpp
      have HN := Hidden.mk (And.intro hdp (And.intro hpp hps))
      clear hst1 hl5 hd5 hp5 hl6 hd6 hp6 hcur hnf hps hdp hpp hal hgF HST
      go_wp2_with fail
      refine (plen_any HPG.out).mono ?_
      rintro e w' ⟨rfl, rfl⟩
      go_wp2_with fail
      go_roundg (np - (k + 1))
      case measure => omega
      case rel => exact ⟨k + 1, by omega, rfl, by go_num, HN⟩
    · obtain rfl : np = k := by omega
      have t4 : decide ((np : Int) < np) = false := by simp
      have HS : Hidden (PrSt w wr F2 d go np p Df 2 (fun _ => List.replicate 32 0)) := ⟨⟨hd5, hp5, .of hl5, HGN.out, HPN.out⟩⟩
      clear hst1 hd5 hp5 hl5 HST
      go_wp2_with fail
      refine (plen_any HPG.out).mono ?_
      rintro e w' ⟨rfl, rfl⟩
      go_wp2_with fail
      go_loopg [7, 11, 12] 12 (fun m pv sv iv wr => ∃ (i st p : Nat) (F : Nat → Prop) (D : Dv) (pg : Nat → Bytes), i ≤ 12 ∧ i ≤ L.length ∧ st ≤ 2 + i ∧ m = 12 - i ∧ pv = .pointer (some ⟨p, 0, none⟩) ∧ sv = .int .i64 (st : Int) ∧ iv = .int .i64 (i : Int) ∧ Hidden (PrSt w wr F d go np p D st pg ∧ SfP nn np D st pg))
      case atStart => exact ⟨0, 2, p, F2, Df, _, by omega, by omega, by omega, rfl, rfl, rfl, rfl, ⟨HS.out, HPF.out⟩⟩
      case round =>
        clear t4 HPG HS HPF HPN HGN
        obtain ⟨i, st, p, F, D, pg, hi12, hil, hst, rfl, rfl, rfl, rfl, hq⟩ := hrel
        have HS := Hidden.mk hq.out.1
        have HP := Hidden.mk hq.out.2
        clear hq
        by_cases hlt : i < L.length
        · have u1 : decide ((i : Int) < L.length) = true := by simpa using hlt
          have u2 : decide (i < L.length) = true := by simpa using hlt
          by_cases h12 : i < 12
          · have u3 : decide ((i : Int) < 12) = true := by simp; omega
            have u4 : decide (i < 12) = true := by simpa using h12
            have i0 : (0 : Int) ≤ i := by omega
            have i1 : (i : Int) < L.length := by omega
            have s1 : IntKind.i64.wrap ((i : Int) + 1) = (i : Int) + 1 := IntWalk.i64_in _ (by omega)
            have s2 : IntKind.i64.wrap ((st : Int) + 1) = ((st + 1 : Nat) : Int) := IntWalk.i64_in _ (by omega)
            obtain ⟨pb, off, rfl, hc⟩ := HR.out i hlt
            have e0 := hc 0 _ rfl
            rw [Nat.add_zero, Nat.mul_one] at e0
            have plt := block_lt_of_cell e0
            have hok := HO.out L[i] (List.getElem_mem hlt)
            generalize L[i] = x at *
            obtain ⟨xA, xc, xl⟩ := x
            dsimp only at *
            have x0 := (HS.out.dev.bel.cell (p := ⟨pb, off + i, none⟩) plt).trans e0
            have hxl : xl.length ≤ 140737488351232 := Nat.le_trans hok.cap hok.le
            have HCM := Hidden.mk (pcommit_any HS.out.dev HS.out.pgh hnn2 (by omega) HS.out.pn xA xl.length xc xl rfl hok.cap (pgsR_of hok.rd hok.ok HS.out.dev.new HS.out.dev.bel))
            obtain ⟨hsf, hco⟩ := HP.out.commit2 (pgs xl)
            have hlp : (pgs xl).length = xl.length := by simp [pgs]
            have HSF := Hidden.mk hsf
            have HCO := Hidden.mk hco
            rw [hlp] at HSF
            generalize commitP st np (pgs xl) D = r1 at *
            have E0 := Hidden.mk e0
            have HRD2 : Hidden (RdX pcells 2 w xA xl) := ⟨hok.rd⟩
            have HOK2 : Hidden (∀ y ∈ xl, PgOk w y) := ⟨hok.ok⟩
            clear hsf hco hlp hc e0 hok HP
            go_wp2_with fail
            refine HCM.out.mono ?_
            rintro e w3 ⟨rfl, F3, hcm⟩
            have hst2 : st ≤ (if r1.2 = 0 ∧ xl.length ≠ 0 then st + 1 else st) ∧ (if r1.2 = 0 ∧ xl.length ≠ 0 then st + 1 else st) ≤ st + 1 := by split <;> omega
            obtain ⟨D1, k1⟩ := r1
            dsimp only at *
            have x1 := (hcm.dev.bel.cell (p := ⟨pb, off + i, none⟩) plt).trans E0.out
            have HNL := Hidden.mk (HS.out.nl.cm HS.out.pgh hcm.kp hcm.sub)
            have HC3 := Hidden.mk hcm
            have hgn := HS.out.gn
            have hpn := HS.out.pn
            obtain ⟨hge, hgn1, heq, hneq⟩ := errIs_errV k1
            clear hcm HCM HS x0
            go_upto_region 17 with (fail)
            go_cut [83] (fun s wx => s = .bool (decide (k1 = 0 ∧ xl.length ≠ 0)) ∧ w3 = wx)
            case first =>
              by_cases hk1 : k1 = 0
              · have z0 : (k1 == 0) = true := by simpa using hk1
                by_cases hl0 : xl.length = 0
                · have c6 : decide (0 < xl.length) = false := decide_eq_false (by omega)
                  have c7 : decide (k1 = 0 ∧ xl.length ≠ 0) = false := decide_eq_false (fun h => h.2 hl0)
                  clear hk1
                  go_wp2_with fail
                  go_meet
                  exact ⟨by rw [c7], rfl⟩
                · have c6 : decide (0 < xl.length) = true := decide_eq_true (by omega)
                  have c7 : decide (k1 = 0 ∧ xl.length ≠ 0) = true := decide_eq_true ⟨hk1, hl0⟩
                  clear hk1
                  go_wp2_with fail
                  go_meet
                  exact ⟨by rw [c7], rfl⟩
              · have z0 : (k1 == 0) = false := by simpa using hk1
                have c7 : decide (k1 = 0 ∧ xl.length ≠ 0) = false := decide_eq_false (fun h => hk1 h.1)
                clear hk1
                go_wp2_with fail
                go_meet
                exact ⟨by rw [c7], rfl⟩
            case rest =>
            obtain ⟨rfl, rfl⟩ := hcut
            go_upto_if 83 with (fail)
            go_cut [11] (fun s wx => s = .int .i64 ((if k1 = 0 ∧ xl.length ≠ 0 then st + 1 else st : Nat) : Int) ∧ w3 = wx)
            case first =>
              by_cases hb : k1 = 0 ∧ xl.length ≠ 0
              · rw [decide_eq_true hb]
                have HB := Hidden.mk hb
                clear hb
                go_wp2_with fail
                go_meet
                refine ⟨?_, rfl⟩
                rw [if_pos HB.out]
                first | done | rfl | rw [s2] | simp | (simp; omega)
              · rw [decide_eq_false hb]
                have HB := Hidden.mk hb
                clear hb
                go_wp2_with fail
                go_meet
                exact ⟨by rw [if_neg HB.out], rfl⟩
            case rest =>
              obtain ⟨rfl, rfl⟩ := hcut
              generalize (if k1 = 0 ∧ xl.length ≠ 0 then st + 1 else st) = st1 at *
              have HQ : Hidden (PrSt w w3 F3 d go np p D1 st1 pg) := ⟨⟨HC3.out.dev, HC3.out.pg, HNL.out, hgn, hpn⟩⟩
              have EX := Hidden.mk x1
              clear HC3 HNL hgn hpn x1
              go_wp2_with fail
              go_loopg [14] xl.length (fun m jv wx => ∃ j : Nat, j ≤ xl.length ∧ m = xl.length - j ∧ jv = .int .i64 (j : Int) ∧ Hidden (PrSt w wx F3 d go np p D1 st1 (fun i => if k1 = 0 then wantF pg (pgs xl) i j else pg i)))
              case atStart => exact ⟨0, by omega, rfl, rfl, ⟨by
                have e : (fun i => if k1 = 0 then wantF pg (pgs xl) i 0 else pg i) = pg := by funext i; split <;> rfl
                rw [e]; exact HQ.out⟩⟩
              case round =>
                obtain ⟨j, hj, rfl, rfl, hs⟩ := hrel
                go_upto_region 20 with (fail)
                go_cut [96] (fun s wy => s = .bool (decide (k1 = 0 ∧ j < xl.length)) ∧ wr = wy)
                case first =>
                  have x2 := (hs.out.dev.bel.cell (p := ⟨pb, off + i, none⟩) plt).trans E0.out
                  by_cases hlt3 : j < xl.length
                  · have v1 : decide ((j : Int) < xl.length) = true := by simpa using hlt3
                    have v2 : decide (j < xl.length) = true := by simpa using hlt3
                    by_cases hk1 : k1 = 0
                    · have z0 : (k1 == 0) = true := by simpa using hk1
                      have c7 : decide (k1 = 0 ∧ j < xl.length) = true := decide_eq_true ⟨hk1, hlt3⟩
                      clear hk1 hlt3 hs
                      go_wp2_with fail
                      go_meet
                      exact ⟨by rw [c7], rfl⟩
                    · have z0 : (k1 == 0) = false := by simpa using hk1
                      have c7 : decide (k1 = 0 ∧ j < xl.length) = false := decide_eq_false (fun h => hk1 h.1)
                      clear hk1 hlt3 hs
                      go_wp2_with fail
                      go_meet
                      exact ⟨by rw [c7], rfl⟩
                  · have v1 : decide ((j : Int) < xl.length) = false := by simp; omega
                    have v2 : decide (j < xl.length) = false := by simpa using hlt3
                    have c7 : decide (k1 = 0 ∧ j < xl.length) = false := decide_eq_false (fun h => hlt3 h.2)
                    clear hlt3 hs
                    go_wp2_with fail
                    go_meet
                    exact ⟨by rw [c7], rfl⟩
                case rest =>
                obtain ⟨rfl, rfl⟩ := hcut
                by_cases hb : k1 = 0 ∧ j < xl.length
                · rw [decide_eq_true hb]
                  obtain ⟨hk1, hlt3⟩ := hb
                  have j0 : (0 : Int) ≤ j := by omega
                  have j1 : (j : Int) < xl.length := by omega
                  have s3 : IntKind.i64.wrap ((j : Int) + 1) = (j : Int) + 1 := IntWalk.i64_in _ (by omega)
                  obtain ⟨qb, qo, rfl, hc2⟩ := HRD2.out j hlt3
                  have f0 := hc2 0 _ rfl
                  have f1 := hc2 1 _ rfl
                  rw [Nat.add_zero] at f0
                  have qlt := block_lt_of_cell f0
                  have hin := (HCO.out hk1).each (xl[j].num, xl[j].body) (List.mem_map.2 ⟨xl[j], List.getElem_mem hlt3, rfl⟩)
                  have hws := fun t => wantF_succ pg (pgs xl) t j (by simpa [pgs] using hlt3)
                  have hpj : (pgs xl)[j]'(by simpa [pgs] using hlt3) = (xl[j].num, xl[j].body) := by simp [pgs]
                  rw [hpj] at hws
                  have hbr := (HOK2.out xl[j] (List.getElem_mem hlt3)).rd
                  generalize xl[j] = y at *
                  obtain ⟨num, yA, yc, body⟩ := y
                  dsimp only at *
                  obtain ⟨kk, rfl⟩ := Int.eq_ofNat_of_zero_le hin.1
                  have hkk : kk < np := by have := hin.2.1; omega
                  have hbl : body.length = 32 := hin.2.2
                  have m0 : (0 : Int) ≤ kk := by omega
                  have m1 : (kk : Int) < np := by omega
                  have y0 := (hs.out.dev.bel.cell (p := ⟨qb, qo + j * 2, none⟩) qlt).trans f0
                  have y1 := (hs.out.dev.bel.cell (p := ⟨qb, qo + j * 2 + 1, none⟩) qlt).trans f1
                  rw [hbl] at y1
                  have x2 := (hs.out.dev.bel.cell (p := ⟨pb, off + i, none⟩) plt).trans E0.out
                  have HSD := hs.out.below ((Below.refl _ _).drew)
                  have HPUT := HSD.put (c := yc) hkk hbr hbl
                  have hfe : (fun t => if t = kk then body else if k1 = 0 then wantF pg (pgs xl) t j else pg t) = (fun t => if k1 = 0 then wantF pg (pgs xl) t (j + 1) else pg t) := by
                    funext t
                    rw [if_pos hk1, if_pos hk1, hws t]
                    by_cases h : t = kk
                    · rw [if_pos h, if_pos (by rw [h])]
                    · rw [if_neg h, if_neg (fun e => h (by omega))]
                  rw [hfe] at HPUT
                  have HN := Hidden.mk HPUT
                  obtain ⟨⟨vs, hsl⟩, hfz⟩ := HSD.nl.slot hkk
                  clear hk1 hlt3 hc2 f0 f1 qlt hin hws hpj hbr hfe HSD HPUT hs hbl
                  go_upto_region 22 with (fail)
                  go_still_tail 18, (by kernel_rfl)
                  change wpList _ _ _ _ _ wr.drew
                  generalize wr.drew = w2 at *
                  go_wp2_with fail
                  go_roundg (xl.length - (j + 1))
                  case measure => omega
                  case rel => exact ⟨j + 1, by omega, rfl, by go_num, HN⟩
                · rw [decide_eq_false hb]
                  have hfe : (fun t => if k1 = 0 then wantF pg (pgs xl) t j else pg t) = (if k1 = 0 then updPg pg (pgs xl) else pg) := by
                    funext t
                    by_cases hk1 : k1 = 0
                    · rw [if_pos hk1, if_pos hk1]
                      have : j = xl.length := by have : ¬ j < xl.length := fun h => hb ⟨hk1, h⟩; omega
                      unfold wantF
                      rw [List.take_of_length_le (by simp [pgs]; omega)]
                    · rw [if_neg hk1, if_neg hk1]
                  have hs2 := hs.out
                  rw [hfe] at hs2
                  have HQ2 := Hidden.mk hs2
                  have HSF2 := Hidden.mk HSF.out
                  clear hb hfe hs2 hs HQ HSF
                  generalize (if k1 = 0 then updPg pg (pgs xl) else pg) = pg2 at *
                  have c1 : ((st1 : Int) != (st1 : Int)) = false := by simp
                  go_wp2_with fail
                  refine (pstamp_any HQ2.out.pgh).mono ?_
                  rintro e w' ⟨rfl, rfl⟩
                  go_upto_if 123 with (fail)
                  go_cut [7] (fun qv wy => ∃ (q : Nat) (F4 : Nat → Prop) (D4 : Dv), qv = .pointer (some ⟨q, 0, none⟩) ∧ Hidden (PrSt w wy F4 d go np q D4 st1 pg2 ∧ SfP nn np D4 st1 pg2))
                  case first =>
                    have HOPN := Hidden.mk HSF2.out.opens
                    have HOP := Hidden.mk (popen_any HQ2.out.dev)
                    cases hrm : ((i : Int) % 3 == 2)
                    · go_wp2_with fail
                      go_meet
                      exact ⟨p, F3, D1, rfl, ⟨HQ2.out, HSF2.out⟩⟩
                    · go_wp2_with fail
                      refine HOP.out.mono ?_
                      rintro e w7 hans
                      obtain ⟨v7, F7, rfl, hm7, hok⟩ := hans.uni
                      obtain ⟨q, rfl, hp7, hqn⟩ := hok HOPN.out.1
                      rw [HOPN.out.1, errV0]
                      rw [HOPN.out.2.2, ← HSF2.out.n0] at hp7
                      have HN : Hidden (PrSt w w7 F7 d go np q (openP D1).1 st1 pg2) := ⟨⟨hm7.dev, hp7, HQ2.out.nl.keep hm7.kp hm7.sub, HQ2.out.gn, Nat.le_trans HQ2.out.dev.bel.size hqn⟩⟩
                      clear hans hok hp7 hqn hm7 HOP
                      go_wp2_with fail
                      go_meet
                      exact ⟨q, F7, _, rfl, ⟨HN.out, HOPN.out.2.1⟩⟩
                  case rest =>
                    obtain ⟨q, F4, D4, rfl, hq4⟩ := hcut
                    have HX := Hidden.mk hq4.out.2
                    have HY := Hidden.mk hq4.out.1
                    clear hq4 HQ2 HSF2 c1
                    go_wp2_with fail
                    go_loopg [17] np (fun m jv wy => ∃ t : Nat, t ≤ np ∧ m = np - t ∧ jv = .int .i64 (t : Int) ∧ Hidden (PrSt w wy F4 d go np q D4 st1 pg2))
                    case atStart => exact ⟨0, by omega, rfl, rfl, HY⟩
                    case round =>
                      obtain ⟨t, ht, rfl, rfl, hs⟩ := hrel
                      have HZ := Hidden.mk hs.out
                      clear hs
                      by_cases hlt4 : t < np
                      · have t0 : (0 : Int) ≤ t := by omega
                        have t1 : (t : Int) < np := by omega
                        have s4 : IntKind.i64.wrap ((t : Int) + 1) = (t : Int) + 1 := IntWalk.i64_in _ (by omega)
                        have hn0 := HX.out.n0
                        have HRD := Hidden.mk (pread_ok HZ.out.dev (by rw [← hn0]; exact HZ.out.pgh) t (by rw [← hn0]; exact hlt4) HX.out.up.2)
                        have hpl := HX.out.page t hlt4
                        rw [hpl.1] at HRD
                        have HPL := Hidden.mk hpl.2
                        have HLT := Hidden.mk hlt4
                        clear hn0 hpl hlt4
                        go_wp2_with fail
                        refine (plen_any HZ.out.pgh).mono ?_
                        rintro e w' ⟨rfl, rfl⟩
                        go_wp2_with fail
                        refine HRD.out.mono ?_
                        rintro e w5 ⟨g, cap, rfl, hg5, hr5, hb5⟩
                        have HZ5 := Hidden.mk (HZ.out.below hb5)
                        obtain ⟨yA, yc, y0, ye, -⟩ := HZ5.out.nl.cell t HLT.out
                        have hpl2 := HPL.out
                        have v1 := fun nq => conv_text (w5.drewN nq) (some ⟨g, 0, none⟩) 32 cap (pg2 t) hpl2 (hr5.rd.drewN nq)
                        have v2 := fun nq => conv_text (w5.drewN nq) yA 32 yc (pg2 t) hpl2 ((ye.rd HZ5.out.dev.bel).drewN nq)
                        clear hg5 hr5 hb5 ye hpl2 HRD HZ
                        go_wp2_with fail
                        go_quiet (fail)
                        go_wp2_with fail
                        go_roundg (np - (t + 1))
                        case measure => omega
                        case rel => exact ⟨t + 1, by omega, rfl, by go_num, ⟨HZ5.out.below (below_drewN (Below.refl _ _) _)⟩⟩
                      · obtain rfl : np = t := by omega
                        have t4 : decide ((np : Int) < np) = false := by simp
                        go_wp2_with fail
                        refine (plen_any HZ.out.pgh).mono ?_
                        rintro e w' ⟨rfl, rfl⟩
                        go_wp2_with fail
                        go_roundg (12 - (i + 1))
                        case measure => omega
                        case rel => exact ⟨i + 1, st1, q, F4, D4, pg2, by omega, by omega, by omega, rfl, rfl, rfl, by go_num, ⟨HZ.out, HX.out⟩⟩
          · have u3 : decide ((i : Int) < 12) = false := by simp; omega
            have u4 : decide (i < 12) = false := by simpa using h12
            have HRD := Hidden.mk (pread_at HS.out.dev HS.out.pgh HP.out.n0)
            clear hlt h12
            go_wp2_with fail
            refine (plen_any HS.out.pgh).mono ?_
            rintro e w' ⟨rfl, rfl⟩
            go_wp2_with fail
            refine HRD.out.mono ?_
            rintro e w5 ⟨g, cap, rfl, -, -, -, hb5⟩
            have hbel := HS.out.dev.bel.trans (hb5.mono HS.out.dev.bel.size)
            have HBEL := Hidden.mk hbel
            have hg5 := HG.out.below HG.out.lt hbel
            clear hb5 hbel
            go_wp2_with fail
            refine (err_any 1 1 _ hg5).mono ?_
            rintro e w6 ⟨rfl, hb6⟩
            have HB6 := Hidden.mk (HBEL.out.trans (hb6.mono HBEL.out.size))
            go_wp2_with fail
            go_ret
            exact ⟨rfl, HB6.out⟩
        · have u1 : decide ((i : Int) < L.length) = false := by simp; omega
          have u2 : decide (i < L.length) = false := by simpa using hlt
          have HRD := Hidden.mk (pread_at HS.out.dev HS.out.pgh HP.out.n0)
          clear hlt
          go_wp2_with fail
          refine (plen_any HS.out.pgh).mono ?_
          rintro e w' ⟨rfl, rfl⟩
          go_wp2_with fail
          refine HRD.out.mono ?_
          rintro e w5 ⟨g, cap, rfl, -, -, -, hb5⟩
          have hbel := HS.out.dev.bel.trans (hb5.mono HS.out.dev.bel.size)
          have HBEL := Hidden.mk hbel
          have hg5 := HG.out.below HG.out.lt hbel
          clear hb5 hbel
          go_wp2_with fail
          refine (err_any 1 1 _ hg5).mono ?_
          rintro e w6 ⟨rfl, hb6⟩
          have HB6 := Hidden.mk (HBEL.out.trans (hb6.mono HBEL.out.size))
          go_wp2_with fail
          go_ret
          exact ⟨rfl, HB6.out⟩
end Go.Proofs.YtgejkhokijjemaaDoor
