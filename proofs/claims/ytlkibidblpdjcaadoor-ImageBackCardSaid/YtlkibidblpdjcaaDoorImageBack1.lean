/- ImageBack: the walk. -/
import Derived.Test.YtlkibidblpdjcaaDoorImageBack0
import Derived.Deep.DeepCutAuto
import Derived.Deep.CutBlock
namespace Go.Proofs.YtlkibidblpdjcaaDoor
open Go.RowKit
set_option maxRecDepth 100000 in
set_option maxHeartbeats 4000000 in
theorem imageBack_walk (n : Int) (A B : Option Addr) (ca cb : Nat) (La : List EntX) (Lb : List RotX) (w : World) (hg : HasType w) (hra : RdX xcells 4 w A La) (hob : ∀ x ∈ Lb, RotOk w x) (hrb : RdX ycells 2 w B Lb) (hla : La.length ≤ 140737488351232) (hlb : Lb.length ≤ 140737488351232) :
    Calls Tryd.prog 6 #[.int .i64 n, .slice A La.length ca, .slice B Lb.length cb] w fun e w' => e = .returned (.bool true) ∧ Below w.heap.size w w' := by
  have HRA := Hidden.mk hra
  have HRB := Hidden.mk hrb
  have HOB := Hidden.mk hob
  have HG := Hidden.mk hg
  clear hg hra hrb hob
  go_enter Tryd.func6, Tryd.ntmps6
  go_wp2_with fail
  refine (new_ok 288 _ (by decide)).mono ?_
  rintro e w1 ⟨g1, rfl, hg1, hrow1, hb1⟩
  rw [show (288 : Int).toNat = 288 from rfl]
  clear hg1 hrow1
  go_wp2_with fail
  cases hr : rightB n with
  | false =>
    refine (new_e1 n _ hr).mono ?_
    rintro e w2 ⟨rfl, rfl⟩
    have hf := rightB_false.1 hr
    by_cases h288 : n < 288
    · have t1 : decide (n < 288) = true := by simpa using h288
      clear hf h288 hr
      go_wp2_with fail
      go_ret
      exact ⟨rfl, hb1⟩
    · have t1 : decide (n < 288) = false := by simp; omega
      have t2 : decide (6400 < n) = true := by simp; omega
      clear hf h288 hr
      go_wp2_with fail
      go_ret
      exact ⟨rfl, hb1⟩
  | true =>
    have hnb := rightB_true.1 hr
    obtain ⟨nn, rfl⟩ : ∃ nn : Nat, n = nn := ⟨n.toNat, by omega⟩
    refine (new_ok (nn : Int) _ hr).mono ?_
    rintro e w2 ⟨gb, rfl, hgb, hrow2, hb2⟩
    rw [Int.toNat_natCast] at hrow2 ⊢
    have hst2 : ImB w w2 nn gb nn (List.replicate nn 0) 0 := ⟨hrow2, by simp, noRoots_new nn (by omega), hb1.trans (hb2.mono hb1.size)⟩
    have H2 := Hidden.mk hst2
    clear hrow2 hb1 hb2 hgb hst2
    go_upto_block 0 with (fail)
    go_cut [9] (fun b wx => ∃ gb cap lb, b = .slice (some ⟨gb, 0, none⟩) nn cap ∧ nn ≤ cap ∧ ImB w wx nn gb cap lb 0)
    case first =>
      go_wp2_with fail
      go_loopg [9, 11] La.length (fun m b i wr => ∃ j gb cap lb, j ≤ La.length ∧ m = La.length - j ∧ b = .slice (some ⟨gb, 0, none⟩) nn cap ∧ i = .int .i64 (j : Int) ∧ nn ≤ cap ∧ ImB w wr nn gb cap lb 0)
      case atStart => exact ⟨0, gb, nn, _, by omega, rfl, rfl, rfl, Nat.le_refl _, H2.out⟩
      case round =>
        obtain ⟨j, gb, cap, lb, hj, rfl, rfl, rfl, hnc, hst⟩ := hrel
        by_cases hlt : j < La.length
        · by_cases h20 : j < 20
          · have i0 : (0 : Int) ≤ j := by omega
            have i1 : (j : Int) < La.length := by omega
            have i2 : (j : Int) < 20 := by omega
            obtain ⟨p, off, rfl, hcells⟩ := HRA.out j hlt
            have c0w := hcells 0 (.int .i64 La[j].h) rfl
            have c1w := hcells 1 (.int .i64 La[j].at_) rfl
            have c2w := hcells 2 (.int .i64 La[j].len) rfl
            have c3w := hcells 3 (.int .i64 La[j].tag) rfl
            rw [Nat.add_zero] at c0w
            have plt := block_lt_of_cell c0w
            generalize La[j] = x at *
            obtain ⟨eh, ea, el, et⟩ := x
            dsimp only at *
            have HBC : Hidden (∀ W, Below w.heap.size w W → W.cell? ⟨p, off + j * 4, none⟩ = some (.int .i64 eh) ∧ W.cell? ⟨p, off + j * 4 + 1, none⟩ = some (.int .i64 ea) ∧ W.cell? ⟨p, off + j * 4 + 2, none⟩ = some (.int .i64 el) ∧ W.cell? ⟨p, off + j * 4 + 3, none⟩ = some (.int .i64 et)) :=
              ⟨fun W hW => ⟨(hW.cell (p := ⟨p, off + j * 4, none⟩) plt).trans c0w, (hW.cell (p := ⟨p, off + j * 4 + 1, none⟩) plt).trans c1w, (hW.cell (p := ⟨p, off + j * 4 + 2, none⟩) plt).trans c2w, (hW.cell (p := ⟨p, off + j * 4 + 3, none⟩) plt).trans c3w⟩⟩
            have HPL := Hidden.mk plt
            have HST := Hidden.mk hst
            obtain ⟨k0, k1, k2, k3⟩ := HBC.out wr hst.bel
            clear hcells c0w c1w c2w c3w plt hst
            go_wp2_with fail
            refine (iput_any (some ⟨gb, 0, none⟩) nn cap lb eh ea el et _ HST.out.len hnc HST.out.row.rd).mono ?_
            rintro e w3 ⟨v, err, rfl, hb3, hans⟩
            obtain ⟨bb, ⟨hge, hgn, heq, hneq⟩, hb⟩ := hans.isNil
            have hst3 := HST.out.below hb3
            have HAns := Hidden.mk hb
            have HST3 := Hidden.mk hst3
            have HB3 := Hidden.mk hb3
            obtain ⟨m0, m1, m2, m3⟩ := HBC.out w3 hst3.bel
            clear k0 k1 k2 k3 hans hb hst3 hb3
            cases bb with
            | false =>
              go_wp2_with fail
              go_roundg (La.length - (j + 1))
              case measure => omega
              case rel => exact ⟨j + 1, gb, cap, lb, by omega, rfl, rfl, by go_num, hnc, HST3.out⟩
            | true =>
              obtain ⟨hh, ht, hl, hw, g, cp, rfl, hg, hrow⟩ := HAns.out rfl
              have hhb := handleB_true.1 hh
              have htb := tagB_true.1 ht
              have hlb' := lenB_true.1 hl
              have hwb := withinB_true.1 hw
              obtain ⟨kk, rfl⟩ : ∃ kk : Nat, eh = (kk : Int) + 1 := ⟨(eh - 1).toNat, by omega⟩
              have hkk : kk < 40 := by omega
              have hlen := HST.out.len
              have hbk := ent_back lb kk ea el et hkk (by omega) ⟨by omega, by omega⟩ ⟨by omega, by omega⟩ htb
              have hcl : (putEnt lb ((kk : Int) + 1) ea el et).length = nn := by rw [hbk.1, splice_len _ _ _ (by rw [entB_len]; omega)]; exact hlen
              have hother : ∀ q, q < 40 → q ≠ kk → rawE (putEnt lb ((kk : Int) + 1) ea el et) q = rawE lb q := fun q hq hne => by rw [hbk.1, rawE_splice _ _ _ _ (entB_len _ _ _) hkk hq (by omega), if_neg hne]
              have hno : NoRoots (putEnt lb ((kk : Int) + 1) ea el et) 0 := fun q h1 h2 => by rw [hbk.1, rawR_head _ _ _ _ (by rw [entB_len]; omega) (by omega)]; exact HST.out.no q h1 h2
              generalize putEnt lb ((kk : Int) + 1) ea el et = lc at *
              have hcp := hrow.le.1
              have hncp : nn ≤ cp := by omega
              have HBK := Hidden.mk hbk
              have HCL := Hidden.mk hcl
              have HOT := Hidden.mk hother
              have hstc : ImB w w3 nn g cp lc 0 := ⟨hrow, hcl, hno, HST3.out.bel⟩
              have HSC := Hidden.mk hstc
              have hget := iget_t (some ⟨g, 0, none⟩) nn cp lc kk w3 hcl hr hncp hrow.rd hkk hbk.2.1
              rw [hbk.2.2.1, hbk.2.2.2.1, hbk.2.2.2.2] at hget
              have HGET := Hidden.mk hget
              clear hh ht hl hw hg hrow hhb htb hlb' hlen hbk hcl hother hno hcp hstc hget
              go_wp2_with fail
              refine HGET.out.mono ?_
              rintro e w4 ⟨rfl, hb4⟩
              have hal4 : Below w4.heap.size w4 (w4.alloc (.cells #[.int .i64 ((kk : Int) + 1), .int .i64 ea, .int .i64 el, .int .i64 et] 66)) := (Below.refl _ _).alloc (Nat.le_refl _) _
              have hst5 := (HSC.out.below hb4).below hal4
              have hb35 := hb4.trans (hal4.mono hb4.size)
              obtain ⟨m0, m1, m2, m3⟩ := HBC.out _ hst5.bel
              have hx5 := below_four (Below.refl _ (w4.alloc (.cells #[.int .i64 ((kk : Int) + 1), .int .i64 ea, .int .i64 el, .int .i64 et] 66)))
              have hBx : w4.heap.size < (w4.alloc (.cells #[.int .i64 ((kk : Int) + 1), .int .i64 ea, .int .i64 el, .int .i64 et] 66)).heap.size := by simp
              have HX5 := Hidden.mk (And.intro hx5 (And.intro hBx (And.intro hst5 hb35)))
              clear hb4 hal4 hst5 hb35 hx5 hBx
              go_wp2_with fail
              generalize w4.alloc (.cells #[.int .i64 ((kk : Int) + 1), .int .i64 ea, .int .i64 el, .int .i64 et] 66) = w5 at *
              generalize w4.heap.size = Bx at *
              refine (idrop_ok (some ⟨g, 0, none⟩) nn cp lc kk _ HCL.out hr hncp HX5.out.2.2.1.row.rd hkk HBK.out.2.1).mono ?_
              rintro e w6 ⟨gd, cd, rfl, hgd, hrowd, hb6⟩
              have hdl : (splice lc (5 * kk) (List.replicate 5 0)).length = nn := by rw [splice_len _ _ _ (by rw [HCL.out]; simp; omega)]; exact HCL.out
              have hdE : hasE (rawE (splice lc (5 * kk) (List.replicate 5 0)) kk) = false := by rw [rawE_splice _ _ _ _ (by simp) hkk hkk (by rw [HCL.out]; omega), if_pos rfl]; decide
              have hdc := hrowd.le.1
              have hgetd := iget_f (some ⟨gd, 0, none⟩) nn cd _ kk w6 hdl hr (by omega) hrowd.rd hkk hdE
              have HGD := Hidden.mk hgetd
              have hst6 := HX5.out.2.2.1.below hb6
              obtain ⟨m0, m1, m2, m3⟩ := HBC.out _ hst6.bel
              have HX6 := Hidden.mk (And.intro hst6 hb6)
              clear hgd hrowd hdl hdE hdc hgetd hst6 hb6
              go_wp2_with fail
              refine HGD.out.mono ?_
              rintro e w7 ⟨rfl, hb7⟩
              have hal7 : Below w7.heap.size w7 (w7.alloc (.cells #[.int .i64 0, .int .i64 0, .int .i64 0, .int .i64 0] 66)) := (Below.refl _ _).alloc (Nat.le_refl _) _
              have hb57 := (HX6.out.2.trans (hb7.mono HX6.out.2.size)).trans (hal7.mono (Nat.le_trans HX6.out.2.size hb7.size))
              have HB57 := Hidden.mk hb57
              clear hb7 hal7 hb57
              go_wp2_with fail
              generalize w7.alloc (.cells #[.int .i64 0, .int .i64 0, .int .i64 0, .int .i64 0] 66) = w7a at *
              have hst7a := HX5.out.2.2.1.below HB57.out
              refine (err_some 5 5 _ (HG.out.below HG.out.lt hst7a.bel)).mono ?_
              rintro e w8 ⟨rfl, hb8⟩
              have hb58 := HB57.out.trans (hb8.mono HB57.out.size)
              have hst8 := HX5.out.2.2.1.below hb58
              obtain ⟨z0, z1, z2, z3⟩ := HX5.out.1
              have x0 := (hb58.cell (p := ⟨Bx, 0, none⟩) HX5.out.2.1).trans z0
              have x1 := (hb58.cell (p := ⟨Bx, 1, none⟩) HX5.out.2.1).trans z1
              have x2 := (hb58.cell (p := ⟨Bx, 2, none⟩) HX5.out.2.1).trans z2
              have x3 := (hb58.cell (p := ⟨Bx, 3, none⟩) HX5.out.2.1).trans z3
              obtain ⟨m0, m1, m2, m3⟩ := HBC.out _ hst8.bel
              have HST8 := Hidden.mk hst8
              have HLB8 := Hidden.mk (HST3.out.below (HX5.out.2.2.2.trans (hb58.mono HX5.out.2.2.2.size)))
              clear hst7a hb8 hb58 hst8 z0 z1 z2 z3
              go_wp2_with fail
              go_quiet (fail)
              clear x0 x1 x2 x3 m0 m1 m2 m3
              have hsc9 := HST8.out.below (below_drewN (Below.refl _ w8) nq)
              have hsb9 := HLB8.out.below (below_drewN (Below.refl _ w8) nq)
              go_wp2_with fail
              generalize w8.drewN nq = w9 at *
              have HC9 := Hidden.mk hsc9
              have HB9 := Hidden.mk hsb9
              clear hsc9 hsb9
              go_loopg [21] 40 (fun m i wx => ∃ t : Nat, t ≤ 40 ∧ m = 40 - t ∧ i = .int .i64 ((t : Int) + 1) ∧ Below w9.heap.size w9 wx)
              case atStart => exact ⟨0, by omega, rfl, rfl, Below.refl _ _⟩
              case round =>
                obtain ⟨t, ht, rfl, rfl, hbel⟩ := hrel
                by_cases htl : t < 40
                · have t0 : ((t : Int) + 1) ≤ 40 := by omega
                  have s1 : IntKind.i64.wrap ((t : Int) + 1 + 1) = (t : Int) + 1 + 1 := IntWalk.i64_in _ (by omega)
                  have HBL := Hidden.mk (HB9.out.below hbel)
                  have HCB : Hidden (∀ W, Below w9.heap.size w9 W → Rd W (some ⟨g, 0, none⟩) lc) := ⟨fun W hW => (HC9.out.below hW).row.rd⟩
                  by_cases htk : t = kk
                  · subst htk
                    have G2 : Hidden (∀ W, Below w9.heap.size w9 W → Calls Tryd.prog 29 #[.slice (some ⟨g, 0, none⟩) nn cp, .int .i64 ((t : Int) + 1)] W fun e w' => e = .returned (.tuple #[.agg #[.int .i64 ((t : Int) + 1), .int .i64 ea, .int .i64 el, .int .i64 et], .nilIface]) ∧ Below W.heap.size W w') := ⟨fun W hW => by
                      have := iget_t (some ⟨g, 0, none⟩) nn cp lc t W HCL.out hr hncp (HCB.out W hW) htl HBK.out.2.1
                      rwa [HBK.out.2.2.1, HBK.out.2.2.2.1, HBK.out.2.2.2.2] at this⟩
                    have hbq : ((t : Int) != (t : Int)) = false := by simp
                    cases hE : hasE (rawE lb t) with
                    | true =>
                      have G1 := Hidden.mk (iget_t (some ⟨gb, 0, none⟩) nn cap lb t wr HBL.out.len hr hnc HBL.out.row.rd htl hE)
                      generalize (rAt (rawE lb t) : Int) = b1 at *
                      generalize (rLen (rawE lb t) : Int) = b2 at *
                      generalize rTag (rawE lb t) = b3 at *
                      clear hE
                      go_wp2_with fail
                      refine (G1.out).mono ?_
                      rintro e w10 ⟨rfl, hb10⟩
                      have hB10 := hbel.trans (hb10.mono hbel.size)
                      go_wp2_with fail
                      have hal : Below w10.heap.size w10 (w10.alloc (.cells #[.int .i64 ((t : Int) + 1), .int .i64 b1, .int .i64 b2, .int .i64 b3] 66)) := (Below.refl _ _).alloc (Nat.le_refl _) _
                      refine (G2.out _ (hB10.trans (hal.mono hB10.size))).mono ?_
                      rintro e w11 ⟨rfl, hb11⟩
                      obtain ⟨x0, x1, x2, x3⟩ := below_four hb11
                      have hB11 : Below w9.heap.size w9 w11 := (hB10.alloc hB10.size _).trans (hb11.mono (by have := hB10.size; simp; omega))
                      have hsz : w10.heap.size < w11.heap.size := by have := hb11.size; simp at this; omega
                      have hB12 : Below w9.heap.size w9 (w11.alloc (.cells #[.int .i64 ((t : Int) + 1), .int .i64 ea, .int .i64 el, .int .i64 et] 66)) := hB11.alloc hB11.size _
                      obtain ⟨y0, y1, y2, y3⟩ := below_four (Below.refl _ (w11.alloc (.cells #[.int .i64 ((t : Int) + 1), .int .i64 ea, .int .i64 el, .int .i64 et] 66)))
                      have hal9 : Below w11.heap.size w11 (w11.alloc (.cells #[.int .i64 ((t : Int) + 1), .int .i64 ea, .int .i64 el, .int .i64 et] 66)) := (Below.refl _ _).alloc (Nat.le_refl _) _
                      replace x0 := (hal9.cell (p := ⟨w10.heap.size, 0, none⟩) hsz).trans x0
                      replace x1 := (hal9.cell (p := ⟨w10.heap.size, 1, none⟩) hsz).trans x1
                      replace x2 := (hal9.cell (p := ⟨w10.heap.size, 2, none⟩) hsz).trans x2
                      replace x3 := (hal9.cell (p := ⟨w10.heap.size, 3, none⟩) hsz).trans x3
                      have ch := (HBC.out _ (HC9.out.bel.trans (hB12.mono HC9.out.bel.size))).1
                      clear hal hb10 hb11 hal9 hB10 hB11 hsz
                      go_wp2_with fail
                      generalize w11.alloc (.cells #[.int .i64 ((t : Int) + 1), .int .i64 ea, .int .i64 el, .int .i64 et] 66) = w12 at *
                      generalize w10.heap.size = BX at *
                      generalize w11.heap.size = BY at *
                      go_quiet (fail)
                      go_wp2_with fail
                      go_roundg (40 - (t + 1))
                      case measure => omega
                      case rel => exact ⟨t + 1, by omega, rfl, by go_num, below_drewN hB12 _⟩
                    | false =>
                      have G1 := Hidden.mk (iget_f (some ⟨gb, 0, none⟩) nn cap lb t wr HBL.out.len hr hnc HBL.out.row.rd htl hE)
                      clear hE
                      go_wp2_with fail
                      refine (G1.out).mono ?_
                      rintro e w10 ⟨rfl, hb10⟩
                      have hB10 := hbel.trans (hb10.mono hbel.size)
                      go_wp2_with fail
                      have hal : Below w10.heap.size w10 (w10.alloc (.cells #[.int .i64 0, .int .i64 0, .int .i64 0, .int .i64 0] 66)) := (Below.refl _ _).alloc (Nat.le_refl _) _
                      refine (G2.out _ (hB10.trans (hal.mono hB10.size))).mono ?_
                      rintro e w11 ⟨rfl, hb11⟩
                      obtain ⟨x0, x1, x2, x3⟩ := below_four hb11
                      have hB11 : Below w9.heap.size w9 w11 := (hB10.alloc hB10.size _).trans (hb11.mono (by have := hB10.size; simp; omega))
                      have hsz : w10.heap.size < w11.heap.size := by have := hb11.size; simp at this; omega
                      have hB12 : Below w9.heap.size w9 (w11.alloc (.cells #[.int .i64 ((t : Int) + 1), .int .i64 ea, .int .i64 el, .int .i64 et] 66)) := hB11.alloc hB11.size _
                      obtain ⟨y0, y1, y2, y3⟩ := below_four (Below.refl _ (w11.alloc (.cells #[.int .i64 ((t : Int) + 1), .int .i64 ea, .int .i64 el, .int .i64 et] 66)))
                      have hal9 : Below w11.heap.size w11 (w11.alloc (.cells #[.int .i64 ((t : Int) + 1), .int .i64 ea, .int .i64 el, .int .i64 et] 66)) := (Below.refl _ _).alloc (Nat.le_refl _) _
                      replace x0 := (hal9.cell (p := ⟨w10.heap.size, 0, none⟩) hsz).trans x0
                      replace x1 := (hal9.cell (p := ⟨w10.heap.size, 1, none⟩) hsz).trans x1
                      replace x2 := (hal9.cell (p := ⟨w10.heap.size, 2, none⟩) hsz).trans x2
                      replace x3 := (hal9.cell (p := ⟨w10.heap.size, 3, none⟩) hsz).trans x3
                      have ch := (HBC.out _ (HC9.out.bel.trans (hB12.mono HC9.out.bel.size))).1
                      clear hal hb10 hb11 hal9 hB10 hB11 hsz
                      go_wp2_with fail
                      generalize w11.alloc (.cells #[.int .i64 ((t : Int) + 1), .int .i64 ea, .int .i64 el, .int .i64 et] 66) = w12 at *
                      generalize w10.heap.size = BX at *
                      generalize w11.heap.size = BY at *
                      go_quiet (fail)
                      go_wp2_with fail
                      go_roundg (40 - (t + 1))
                      case measure => omega
                      case rel => exact ⟨t + 1, by omega, rfl, by go_num, below_drewN hB12 _⟩
                  · have hbq : ((t : Int) != (kk : Int)) = true := by simp; omega
                    have hbq2 : ((t : Int) + 1 != (kk : Int) + 1) = true := by simp; omega
                    have hsm := HOT.out t htl htk
                    cases hE : hasE (rawE lb t) with
                    | true =>
                      have G1 := Hidden.mk (iget_t (some ⟨gb, 0, none⟩) nn cap lb t wr HBL.out.len hr hnc HBL.out.row.rd htl hE)
                      have G2 : Hidden (∀ W, Below w9.heap.size w9 W → Calls Tryd.prog 29 #[.slice (some ⟨g, 0, none⟩) nn cp, .int .i64 ((t : Int) + 1)] W fun e w' => e = .returned (.tuple #[.agg #[.int .i64 ((t : Int) + 1), .int .i64 (rAt (rawE lb t)), .int .i64 (rLen (rawE lb t)), .int .i64 (rTag (rawE lb t))], .nilIface]) ∧ Below W.heap.size W w') := ⟨fun W hW => by
                        have := iget_t (some ⟨g, 0, none⟩) nn cp lc t W HCL.out hr hncp (HCB.out W hW) htl (by rw [hsm]; exact hE)
                        rwa [hsm] at this⟩
                      generalize (rAt (rawE lb t) : Int) = b1 at *
                      generalize (rLen (rawE lb t) : Int) = b2 at *
                      generalize rTag (rawE lb t) = b3 at *
                      clear hE hsm htk
                      go_wp2_with fail
                      refine (G1.out).mono ?_
                      rintro e w10 ⟨rfl, hb10⟩
                      have hB10 := hbel.trans (hb10.mono hbel.size)
                      go_wp2_with fail
                      have hal : Below w10.heap.size w10 (w10.alloc (.cells #[.int .i64 ((t : Int) + 1), .int .i64 b1, .int .i64 b2, .int .i64 b3] 66)) := (Below.refl _ _).alloc (Nat.le_refl _) _
                      refine (G2.out _ (hB10.trans (hal.mono hB10.size))).mono ?_
                      rintro e w11 ⟨rfl, hb11⟩
                      obtain ⟨x0, x1, x2, x3⟩ := below_four hb11
                      have hB11 : Below w9.heap.size w9 w11 := (hB10.alloc hB10.size _).trans (hb11.mono (by have := hB10.size; simp; omega))
                      have hsz : w10.heap.size < w11.heap.size := by have := hb11.size; simp at this; omega
                      have hB12 : Below w9.heap.size w9 (w11.alloc (.cells #[.int .i64 ((t : Int) + 1), .int .i64 b1, .int .i64 b2, .int .i64 b3] 66)) := hB11.alloc hB11.size _
                      obtain ⟨y0, y1, y2, y3⟩ := below_four (Below.refl _ (w11.alloc (.cells #[.int .i64 ((t : Int) + 1), .int .i64 b1, .int .i64 b2, .int .i64 b3] 66)))
                      have hal9 : Below w11.heap.size w11 (w11.alloc (.cells #[.int .i64 ((t : Int) + 1), .int .i64 b1, .int .i64 b2, .int .i64 b3] 66)) := (Below.refl _ _).alloc (Nat.le_refl _) _
                      replace x0 := (hal9.cell (p := ⟨w10.heap.size, 0, none⟩) hsz).trans x0
                      replace x1 := (hal9.cell (p := ⟨w10.heap.size, 1, none⟩) hsz).trans x1
                      replace x2 := (hal9.cell (p := ⟨w10.heap.size, 2, none⟩) hsz).trans x2
                      replace x3 := (hal9.cell (p := ⟨w10.heap.size, 3, none⟩) hsz).trans x3
                      have ch := (HBC.out _ (HC9.out.bel.trans (hB12.mono HC9.out.bel.size))).1
                      clear hal hb10 hb11 hal9 hB10 hB11 hsz
                      go_wp2_with fail
                      generalize w11.alloc (.cells #[.int .i64 ((t : Int) + 1), .int .i64 b1, .int .i64 b2, .int .i64 b3] 66) = w12 at *
                      generalize w10.heap.size = BX at *
                      generalize w11.heap.size = BY at *
                      go_quiet (fail)
                      go_wp2_with fail
                      go_roundg (40 - (t + 1))
                      case measure => omega
                      case rel => exact ⟨t + 1, by omega, rfl, by go_num, below_drewN hB12 _⟩
                    | false =>
                      have G1 := Hidden.mk (iget_f (some ⟨gb, 0, none⟩) nn cap lb t wr HBL.out.len hr hnc HBL.out.row.rd htl hE)
                      have G2 : Hidden (∀ W, Below w9.heap.size w9 W → Calls Tryd.prog 29 #[.slice (some ⟨g, 0, none⟩) nn cp, .int .i64 ((t : Int) + 1)] W fun e w' => e = .returned (.tuple #[.agg #[.int .i64 0, .int .i64 0, .int .i64 0, .int .i64 0], .iface 112 (.int .i64 5)]) ∧ Below W.heap.size W w') := ⟨fun W hW => iget_f (some ⟨g, 0, none⟩) nn cp lc t W HCL.out hr hncp (HCB.out W hW) htl (by rw [hsm]; exact hE)⟩
                      clear hE hsm htk
                      go_wp2_with fail
                      refine (G1.out).mono ?_
                      rintro e w10 ⟨rfl, hb10⟩
                      have hB10 := hbel.trans (hb10.mono hbel.size)
                      go_wp2_with fail
                      have hal : Below w10.heap.size w10 (w10.alloc (.cells #[.int .i64 0, .int .i64 0, .int .i64 0, .int .i64 0] 66)) := (Below.refl _ _).alloc (Nat.le_refl _) _
                      refine (G2.out _ (hB10.trans (hal.mono hB10.size))).mono ?_
                      rintro e w11 ⟨rfl, hb11⟩
                      obtain ⟨x0, x1, x2, x3⟩ := below_four hb11
                      have hB11 : Below w9.heap.size w9 w11 := (hB10.alloc hB10.size _).trans (hb11.mono (by have := hB10.size; simp; omega))
                      have hsz : w10.heap.size < w11.heap.size := by have := hb11.size; simp at this; omega
                      have hB12 : Below w9.heap.size w9 (w11.alloc (.cells #[.int .i64 0, .int .i64 0, .int .i64 0, .int .i64 0] 66)) := hB11.alloc hB11.size _
                      obtain ⟨y0, y1, y2, y3⟩ := below_four (Below.refl _ (w11.alloc (.cells #[.int .i64 0, .int .i64 0, .int .i64 0, .int .i64 0] 66)))
                      have hal9 : Below w11.heap.size w11 (w11.alloc (.cells #[.int .i64 0, .int .i64 0, .int .i64 0, .int .i64 0] 66)) := (Below.refl _ _).alloc (Nat.le_refl _) _
                      replace x0 := (hal9.cell (p := ⟨w10.heap.size, 0, none⟩) hsz).trans x0
                      replace x1 := (hal9.cell (p := ⟨w10.heap.size, 1, none⟩) hsz).trans x1
                      replace x2 := (hal9.cell (p := ⟨w10.heap.size, 2, none⟩) hsz).trans x2
                      replace x3 := (hal9.cell (p := ⟨w10.heap.size, 3, none⟩) hsz).trans x3
                      have ch := (HBC.out _ (HC9.out.bel.trans (hB12.mono HC9.out.bel.size))).1
                      clear hal hb10 hb11 hal9 hB10 hB11 hsz
                      go_wp2_with fail
                      generalize w11.alloc (.cells #[.int .i64 0, .int .i64 0, .int .i64 0, .int .i64 0] 66) = w12 at *
                      generalize w10.heap.size = BX at *
                      generalize w11.heap.size = BY at *
                      go_quiet (fail)
                      go_wp2_with fail
                      go_roundg (40 - (t + 1))
                      case measure => omega
                      case rel => exact ⟨t + 1, by omega, rfl, by go_num, below_drewN hB12 _⟩
                · obtain rfl : t = 40 := by omega
                  have HF := Hidden.mk (HC9.out.below hbel)
                  clear hbel
                  go_wp2_with fail
                  go_roundg (La.length - (j + 1))
                  case measure => omega
                  case rel => exact ⟨j + 1, g, cp, lc, by omega, rfl, rfl, by go_num, hncp, HF.out⟩
          · have i1 : (j : Int) < La.length := by omega
            have i2 : decide ((j : Int) < 20) = false := by simp; omega
            have i3 : decide (j < 20) = false := by simp; omega
            have H := Hidden.mk hst
            clear hst
            go_wp2_with fail
            go_meet
            exact ⟨gb, cap, lb, rfl, hnc, H.out⟩
        · have i1 : decide ((j : Int) < La.length) = false := by simp; omega
          have i3 : decide (j < La.length) = false := by simp; omega
          have H := Hidden.mk hst
          clear hst
          go_wp2_with fail
          go_meet
          exact ⟨gb, cap, lb, rfl, hnc, H.out⟩
    case rest =>
      obtain ⟨gb, cap, lb, rfl, hnc, hst⟩ := hcut
      have H3 := Hidden.mk hst
      clear hst
      go_upto_block 4 with (fail)
      go_cut [] (fun wx => Below w.heap.size w wx)
      case first =>
        go_wp2_with fail
        go_loopg [9, 26] Lb.length (fun m b i wr => ∃ j gb cap lb, j ≤ Lb.length ∧ m = Lb.length - j ∧ b = .slice (some ⟨gb, 0, none⟩) nn cap ∧ i = .int .i64 (j : Int) ∧ nn ≤ cap ∧ ImB w wr nn gb cap lb j)
        case atStart => exact ⟨0, gb, cap, lb, by omega, rfl, rfl, rfl, hnc, H3.out⟩
        case round =>
          obtain ⟨j, gb, cap, lb, hj, rfl, rfl, rfl, hnc, hst⟩ := hrel
          by_cases hlt : j < Lb.length
          · by_cases h20 : j < 8
            · have i0 : (0 : Int) ≤ j := by omega
              have i1 : (j : Int) < Lb.length := by omega
              have i2 : (j : Int) < 8 := by omega
              obtain ⟨p, off, rfl, hcells⟩ := HRB.out j hlt
              have hsl := (HOB.out Lb[j] (List.getElem_mem hlt)).s
              have c0w := hcells 0 (sv Lb[j].s) rfl
              have c1w := hcells 1 (.int .i64 Lb[j].h) rfl
              rw [Nat.add_zero] at c0w
              have plt := block_lt_of_cell c0w
              generalize Lb[j] = x at *
              obtain ⟨rs, rh⟩ := x
              dsimp only at *
              have HBC : Hidden (∀ W, Below w.heap.size w W → W.cell? ⟨p, off + j * 2, none⟩ = some (sv rs) ∧ W.cell? ⟨p, off + j * 2 + 1, none⟩ = some (.int .i64 rh)) :=
                ⟨fun W hW => ⟨(hW.cell (p := ⟨p, off + j * 2, none⟩) plt).trans c0w, (hW.cell (p := ⟨p, off + j * 2 + 1, none⟩) plt).trans c1w⟩⟩
              have HST := Hidden.mk hst
              clear hcells c0w c1w plt hst
              go_wp2_with fail
              refine (iroots_ok (some ⟨gb, 0, none⟩) nn cap lb _ HST.out.len hr hnc HST.out.row.rd).mono ?_
              rintro e w3 ⟨v3, rfl, hown3, hb3⟩
              obtain ⟨A3, c3, rfl, hc3, -⟩ := own_rdX rcells_len hown3
              have hll : (rootsL lb).length ≤ 8 := rootsF_len _ _
              have hst3 := HST.out.below hb3
              obtain ⟨k0, k1⟩ := HBC.out w3 hst3.bel
              have HST3 := Hidden.mk hst3
              clear hown3 hb3 hst3
              go_wp2_with fail
              refine (root_back gb nn cap lb j rs rh _ hsl HST3.out.len hnc HST3.out.row.rd hr h20 HST3.out.no).mono ?_
              rintro e w4 (⟨xe, rfl, hb4⟩ | ⟨g, cp, lc, rfl, hncp, hrow, hlen, hno, hb4, hrest⟩)
              · have HST4 := Hidden.mk (HST3.out.below hb4)
                clear hb4 k0 k1
                go_wp2_with fail
                go_roundg (Lb.length - (j + 1))
                case measure => omega
                case rel => exact ⟨j + 1, gb, cap, lb, by omega, rfl, rfl, by go_num, hnc, HST4.out.up⟩
              · have hstc : ImB w w4 nn g cp lc (j + 1) := ⟨hrow, hlen, hno, HST3.out.bel.trans (hb4.mono HST3.out.bel.size)⟩
                have HSC := Hidden.mk hstc
                clear hb4 hrow hlen hno hstc k0 k1
                go_wp2_with fail
                refine (iroots_ok (some ⟨g, 0, none⟩) nn cp lc _ HSC.out.len hr hncp HSC.out.row.rd).mono ?_
                rintro e w5 ⟨v5, rfl, hown5, hb5⟩
                have hst5 := HSC.out.below hb5
                obtain ⟨k0, k1⟩ := HBC.out w5 hst5.bel
                have HST5 := Hidden.mk hst5
                clear hb5 hst5
                rcases hrest with ⟨hse, hL⟩ | ⟨hse, hL, hrh⟩
                · rw [hL] at hown5
                  obtain ⟨A5, c5, rfl, hc5, -⟩ := own_rdX rcells_len hown5
                  clear hown5 hL
                  go_wp2_with fail
                  go_quiet (fail)
                  have HF := Hidden.mk (HST5.out.below (below_drewN (Below.refl _ w5) nq))
                  clear k0 k1
                  go_wp2_with fail
                  go_roundg (Lb.length - (j + 1))
                  case measure => omega
                  case rel => exact ⟨j + 1, g, cp, lc, by omega, rfl, rfl, by go_num, hncp, HF.out⟩
                · rw [hL] at hown5
                  obtain ⟨A5, c5, rfl, hc5, hrd5⟩ := own_rdX rcells_len hown5
                  have hl1 : (rootsL lb ++ [(rs, rh.toNat)]).length = (rootsL lb).length + 1 := by simp
                  obtain ⟨q5, o5, rfl, hc5c⟩ := hrd5 (rootsL lb).length (by omega)
                  rw [hl1] at hc5 ⊢
                  have y0 := hc5c 0 (sv rs) (by simp [rcells])
                  have y1 := hc5c 1 (.int .i64 rh) (by simp [rcells, hrh])
                  rw [Nat.add_zero] at y0
                  clear hown5 hL hrd5 hc5c hl1
                  go_wp2_with fail
                  go_quiet (fail)
                  have HF := Hidden.mk (HST5.out.below (below_drewN (Below.refl _ w5) nq))
                  clear k0 k1 y0 y1
                  go_wp2_with fail
                  go_roundg (Lb.length - (j + 1))
                  case measure => omega
                  case rel => exact ⟨j + 1, g, cp, lc, by omega, rfl, rfl, by go_num, hncp, HF.out⟩
            · have i1 : (j : Int) < Lb.length := by omega
              have i2 : decide ((j : Int) < 8) = false := by simp; omega
              have i3 : decide (j < 8) = false := by simp; omega
              have H := Hidden.mk hst.bel
              clear hst
              go_wp2_with fail
              go_meet
              exact H.out
          · have i1 : decide ((j : Int) < Lb.length) = false := by simp; omega
            have i3 : decide (j < Lb.length) = false := by simp; omega
            have H := Hidden.mk hst.bel
            clear hst
            go_wp2_with fail
            go_meet
            exact H.out
      case rest =>
        go_wp2_with fail
        go_ret
        exact ⟨rfl, hcut⟩
end Go.Proofs.YtlkibidblpdjcaaDoor
