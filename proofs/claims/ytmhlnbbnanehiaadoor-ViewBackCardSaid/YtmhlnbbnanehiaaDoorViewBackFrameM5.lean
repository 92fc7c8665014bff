/- Contracts and plain laws, put together: ViewBack1. -/
import Derived.Test.YtmhlnbbnanehiaaDoorViewBackFrameM4
import Derived.Test.YtmhlnbbnanehiaaDoorViewBackFrameM1
import Derived.Test.YtmhlnbbnanehiaaDoorViewBackFrameM2
import Derived.Deep.DeepCutAuto
import Derived.Deep.CutBlock
/- ViewBack: the walk. -/
namespace Go.Proofs.YtmhlnbbnanehiaaDoor
open Go.RowKit Go.Maps Go.ChangeMaps

set_option maxRecDepth 100000 in
set_option maxHeartbeats 4000000 in
theorem viewBack_walk (n : Int) (A1 A2 A3 : Option Addr) (c1 c2 c3 m1 m2 m3 : Nat) (T : List Int) (B : List BX) (E : List Int) (w : World) (hg : HasType w) (ht : T.length = m1) (hb : B.length = m2) (he : E.length = m3)
    (hm1 : m1 ≤ 140737488351232) (hm2 : m2 ≤ 140737488351232) (hm3 : m3 ≤ 140737488351232) (h1 : RdX icell 1 w A1 T) (hr1 : ∀ x ∈ T, -9223372036854775808 ≤ x ∧ x ≤ 9223372036854775807) (h2 : RdX bcells 1 w A2 B) (ho : ∀ x ∈ B, BOk w x) (h3 : RdX icell 1 w A3 E) :
    Calls Tryd.prog 4 #[.int .i64 n, .slice A1 m1 c1, .slice A2 m2 c2, .slice A3 m3 c3] w fun e w' => e = .returned (.bool true) ∧ Below w.heap.size w w' := by
  have HG := Hidden.mk hg
  have HT := Hidden.mk (And.intro ht (And.intro h1 hr1))
  have HB := Hidden.mk (And.intro hb (And.intro h2 ho))
  have HE := Hidden.mk (And.intro he h3)
  obtain ⟨ib, bi0, bz0, bz1, bz2⟩ := info_parts byte_info
  clear hg ht hb he h1 hr1 h2 ho h3
  by_cases hn : n < 1 ∨ 300 < n
  · have HN := Hidden.mk hn
    clear hn
    go_enter Tryd.func4, Tryd.ntmps4
    go_wp2_with fail
    refine (dnew_e1 n _ HN.out).mono ?_
    rintro e w1 ⟨rfl, rfl⟩
    go_wp2_with fail
    go_ret
    exact ⟨rfl, Below.refl _ _⟩
  obtain ⟨nn, rfl⟩ : ∃ nn : Nat, n = nn := ⟨n.toNat, by omega⟩
  have hn1 : 1 ≤ nn := by omega
  have hn3 : nn ≤ 300 := by omega
  clear hn
  go_enter Tryd.func4, Tryd.ntmps4
  go_wp2_with fail
  refine (dnewB nn _ hn1 hn3).mono ?_
  rintro e w1 ⟨d, F, rfl, hd1⟩
  have HD1 := Hidden.mk hd1
  clear hd1
  by_cases h49 : nn < 49
  · have t1 : decide ((nn : Int) < 49) = true := by simp; omega
    have t2 : decide (nn < 49) = true := by simpa using h49
    clear h49
    go_wp2_with fail
    go_ret
    exact ⟨rfl, HD1.out.bel⟩
  have h49' : 49 ≤ nn := by omega
  have t1 : decide ((nn : Int) < 49) = false := by simp; omega
  have t2 : decide (nn < 49) = false := by simpa using h49
  obtain ⟨hfull, hup, hwf, hlen, hnp⟩ := format_full nn h49' hn3
  have HPF : Hidden (SfP nn (nP (newD nn)) (formatD (newD nn)) 2 (fun _ => List.replicate 32 0)) := ⟨⟨⟨_, hfull⟩, hwf, hup, hlen, hfull.hold.n0⟩⟩
  have HFM := Hidden.mk (pformat_ok HD1.out ⟨rfl, rfl⟩ (by simp [newD]; exact h49'))
  have hnn1 : 1 ≤ nP (newD nn) := by omega
  have hnn2 : nP (newD nn) ≤ 200 := by omega
  generalize nP (newD nn) = np at *
  generalize formatD (newD nn) = Df at *
  clear h49 h49' hfull hup hwf hlen hnp
  go_wp2_with fail
  refine HFM.out.mono ?_
  rintro e w2 ⟨p, F2, rfl, hm2', hp2, hpn⟩
  have hn0 := HPF.out.n0
  have hlens : ∀ i, i < nP Df → (readD Df (48 + i)).length = 32 := fun i hi => by
    rw [← hn0] at hi
    rw [(HPF.out.page i hi).1]; exact (HPF.out.page i hi).2
  have hp2' := hp2
  rw [hn0] at hp2
  have HN1 := Hidden.mk (vnew_ok hm2'.dev hp2 HPF.out.up.2 hlens np hn0 hnn1)
  have hAL := allB_len (D := Df) np (fun i hi => hlens i (by rw [← hn0]; exact hi))
  have HAL := Hidden.mk hAL
  have HM2 := Hidden.mk (And.intro hm2'.dev (And.intro hp2' (Nat.le_trans HD1.out.bel.size hpn)))
  clear hm2' hp2 hp2' hpn HFM hn0 hlens hAL HD1 t1 t2
  go_wp2_with fail
  refine HN1.out.mono ?_
  rintro e w3 ⟨v, G, rfl, hv3, hg3, hb3⟩
  have HV3 := Hidden.mk (And.intro hv3 (And.intro hg3 hb3))
  have HP3 := Hidden.mk (HM2.out.2.1.below hb3)
  clear hv3 hg3 hb3 HN1
  have hnum : ((32 * np : Nat) : Int) = 32 * (np : Int) := by omega
  have s0 : IntKind.i64.wrap (32 * (np : Int)) = 32 * (np : Int) := IntWalk.i64_in _ (by omega)
  have hne : ((32 * (np : Int)) != (32 * (np : Int))) = false := by simp
  go_wp2_with fail
  refine (vlen_any HV3.out.1).mono ?_
  rintro e w' ⟨rfl, rfl⟩
  rw [HAL.out, hnum]
  go_wp2_with fail
  refine (plen_any HP3.out).mono ?_
  rintro e w' ⟨rfl, rfl⟩
  go_wp2_with fail
  refine (vlen_any HV3.out.1).mono ?_
  rintro e w' ⟨rfl, rfl⟩
  rw [HAL.out, hnum]
  have HRE := Hidden.mk (vread_no HV3.out.1 (by rw [HAL.out]; omega) (32 * (np : Int)) 1 (decide_eq_false (fun h => by rw [HAL.out] at h; omega)))
  go_wp2_with fail
  refine HRE.out.mono ?_
  rintro e w' ⟨rfl, rfl⟩
  have HBL3 : Hidden (Below w.heap.size w w3) := ⟨by
    have := HM2.out.1.bel
    exact this.trans (HV3.out.2.2.mono this.size)⟩
  have HER := Hidden.mk (err_some 1 1 w3 (HG.out.below HG.out.lt HBL3.out))
  rw [beq_self_eq_true] at HER
  clear HRE
  go_wp2_with fail
  refine HER.out.mono ?_
  rintro e w4 ⟨rfl, hb4⟩
  have HV4 := Hidden.mk (HV3.out.1.below hb4)
  have HB4 := Hidden.mk hb4
  clear HER hb4
  have hmk := fun W => mk_bytes (32 * (np : Int)) (32 * np) (by omega) (by omega) W
  go_wp2_with fail
  refine (vlen_any HV4.out).mono ?_
  rintro e w' ⟨rfl, rfl⟩
  rw [HAL.out, hnum]
  go_wp2_with fail
  have hb5 : Below w4.heap.size w4 (w4.alloc (.cells (zeroRow (32 * np)) 5)) := (Below.refl _ _).alloc (Nat.le_refl _) _
  have HB5 := Hidden.mk hb5
  have HV5 := Hidden.mk (HV4.out.below hb5)
  refine (vlen_any HV5.out).mono ?_
  rintro e w' ⟨rfl, rfl⟩
  rw [HAL.out, hnum]
  clear hb5
  go_wp2_with fail
  have HS0 : Hidden (∃ (F G : Nat → Prop) (D : Dv) (N K : Bytes) (S : Nat → Bool), VbSt w ((w4.alloc (.cells (zeroRow (32 * np)) 5)).alloc (.cells (zeroRow (32 * np)) 5)) F G d p v w4.heap.size (32 * np) (w4.heap.size + 1) (32 * np) nn np 2 D N K N K S) := ⟨by
    obtain ⟨a1, a2, a3⟩ := HM2.out
    obtain ⟨b1, b2, b3⟩ := HV3.out
    have hlt := a1.flt
    have hz : allB Df np = List.replicate (32 * np) 0 := by
      have hp := fun i (hi : i < np) => HPF.out.page i hi
      refine eq_of_pages (n := np) HAL.out (by simp) fun k hk => ?_
      rw [allB_page np k (fun i hi => by rw [(hp i hi).1]; exact (hp i hi).2) hk, (hp k hk).1]
      unfold pgB
      rw [List.drop_replicate, List.take_replicate, Nat.min_eq_left (by omega)]
    have hb6 : Below (w4.alloc (.cells (zeroRow (32 * np)) 5)).heap.size (w4.alloc (.cells (zeroRow (32 * np)) 5)) ((w4.alloc (.cells (zeroRow (32 * np)) 5)).alloc (.cells (zeroRow (32 * np)) 5)) := (Below.refl _ _).alloc (Nat.le_refl _) _
    have hx := (row_zeros w4 (32 * np) (by simp only [maxLen]; omega)).below hb6 (by simp)
    have hy := row_zeros (w4.alloc (.cells (zeroRow (32 * np)) 5)) (32 * np) (by simp only [maxLen]; omega)
    rw [World.size_alloc] at hy
    have s1 := a1.bel.size
    have s2 := b3.size
    have s3 := HB4.out.size
    refine ⟨F2, G, Df, allB Df np, allB Df np, fun _ => false, ?_⟩
    exact { dev := (((a1.below b3).below HB4.out).below HB5.out).below hb6, pg := ((a2.below (b3)).below HB4.out |>.below HB5.out).below hb6, sf := ⟨_, HPF.out⟩, vw := (by rw [setF_none, cntS_none]; exact HV5.out.below hb6), gf := (fun q hq hf => by have := b2 q hq; have := hlt q hf; omega), gn := (fun q hq => by have := b2 q hq; omega), pn := a3, now := (by rw [hz]; exact hx), kep := (by rw [hz]; exact hy), xn := (by omega), yn := (by omega), xf := ⟨fun hf => by have := hlt _ hf; omega, fun hg => by have := b1.lt _ hg; omega⟩, yf := ⟨fun hf => by have := hlt _ hf; omega, fun hg => by have := b1.lt _ hg; omega⟩, xy := (by omega), ln := HAL.out, lk := HAL.out, kb := rfl, ag := (fun k _ _ => rfl), sn := (fun k hk => by cases hk), s23 := (by rw [cntS_none]; omega) }⟩
  generalize w4.heap.size + 1 = gy0 at *
  generalize w4.heap.size = gx0 at *
  generalize (w4.alloc (.cells (zeroRow (32 * np)) 5)).alloc (.cells (zeroRow (32 * np)) 5) = w6 at *
  clear hmk HV3 HV4 HV5 HB4 HB5 HM2 HP3 HBL3 HPF HAL hnum
  obtain ⟨q, hq⟩ : ∃ q, 32 * np = q := ⟨_, rfl⟩
  have hq64 : q ≤ 6400 := by omega
  have HQ := Hidden.mk hq
  go_loopg [17, 18, 19] 40 (fun m nv kv iv wr => ∃ (i gx cx gy cy st : Nat) (F G : Nat → Prop) (D : Dv) (N K : Bytes) (S : Nat → Bool), i ≤ 40 ∧ m = 40 - i ∧ st ≤ 2 + i ∧ nv = .slice (some ⟨gx, 0, none⟩) q cx ∧ kv = .slice (some ⟨gy, 0, none⟩) q cy ∧ iv = .int .i64 (i : Int) ∧ Hidden (VbSt w wr F G d p v gx cx gy cy nn np st D N K N K S))
  case atStart =>
    obtain ⟨F, G, D, N, K, S, h⟩ := HS0.out
    exact ⟨0, _, _, _, _, 2, F, G, D, N, K, S, by omega, rfl, by omega, by rw [← hq], by rw [← hq], rfl, ⟨h⟩⟩
  case round =>
    obtain ⟨i, gx, cx, gy, cy, st, F, G, D, N, K, S, hi, rfl, hst, rfl, rfl, rfl, hs⟩ := hrel
    have HS := Hidden.mk hs.out
    clear hs HS0 hq
    by_cases hlt : i < m1 ∧ i < m2 ∧ i < 40
    · have t1 : decide ((i : Int) < m1) = true := by simp; omega
      have t2 : decide (i < m1) = true := by simp; omega
      have t3 : decide ((i : Int) < m2) = true := by simp; omega
      have t4 : decide (i < m2) = true := by simp; omega
      have t5 : decide ((i : Int) < 40) = true := by simp; omega
      have t6 : decide (i < 40) = true := by simp; omega
      have i0 : (0 : Int) ≤ i := by omega
      have i1 : (i : Int) < m1 := by omega
      have i2 : (i : Int) < m2 := by omega
      obtain ⟨hTl, hTr, hTi⟩ := HT.out
      obtain ⟨hBl, hBr, hBo⟩ := HB.out
      obtain ⟨pb1, of1, rfl, hc1⟩ := hTr i (by omega)
      obtain ⟨pb2, of2, rfl, hc2⟩ := hBr i (by omega)
      have e1 := hc1 0 _ rfl
      have e2 := hc2 0 _ rfl
      rw [Nat.add_zero, Nat.mul_one] at e1 e2
      have x1 := (HS.out.dev.bel.cell (p := ⟨pb1, of1 + i, none⟩) (block_lt_of_cell e1)).trans e1
      have x2 := (HS.out.dev.bel.cell (p := ⟨pb2, of2 + i, none⟩) (block_lt_of_cell e2)).trans e2
      have hxi := hTi (T[i]'(by omega)) (List.getElem_mem _)
      have hbo := hBo (B[i]'(by omega)) (List.getElem_mem _)
      generalize T[i]'(by omega) = x at *
      generalize B[i]'(by omega) = bx at *
      obtain ⟨bA, bc, b⟩ := bx
      dsimp only at *
      have HXI := Hidden.mk hxi
      have HBO := Hidden.mk hbo
      obtain ⟨bl, hbl⟩ : ∃ k, b.length = k := ⟨_, rfl⟩
      have hbl2 : bl ≤ 140737488351232 := by
        have q1 : b.length ≤ bc := hbo.cap
        have q2 : bc ≤ 140737488351232 := hbo.le
        omega
      have hN6 : N.length ≤ 6400 := by rw [HS.out.ln]; omega
      have HW := Hidden.mk (vwrite_any HS.out.vw (fun k hk => by have := HS.out.sn k hk; omega) hN6 x bl bc bA b hbl (hbo.rd.below HS.out.dev.bel) (fun h0 ad e hG => by
        have := rd_lt hbo.rd (show 0 < b.length by omega) ad e
        have := HS.out.gn _ hG
        omega))
      rw [hbl] at x2
      have HBL := Hidden.mk hbl
      clear hTl hTr hTi hBl hBr hBo hc1 hc2 e1 e2 hxi hbo hbl
      go_wp2_with fail
      refine HW.out.mono ?_
      rintro e w3 ⟨rfl, G3, hv3, hk3, hG3, -, hl3⟩
      have HS3 := Hidden.mk (HS.out.write hv3 hk3 hG3 hl3)
      clear hv3 hk3 hG3 hl3 HW
      have HOK := Hidden.mk (fun h => wr_ok (N := N) (S := S) (x := x) (b := b) h)
      have HBD := Hidden.mk (fun h => wr_bad (N := N) (S := S) (x := x) (b := b) h)
      obtain ⟨Ev, hEv⟩ : ∃ e, wrVE N S x b = e := ⟨_, rfl⟩
      rw [hEv] at HOK HBD
      rw [hEv]
      obtain ⟨N1, hN1⟩ : ∃ e, wrVN N S x b = e := ⟨_, rfl⟩
      obtain ⟨S1, hS1⟩ : ∃ e, wrVS N S x b = e := ⟨_, rfl⟩
      rw [hN1, hS1] at HS3
      rw [hN1] at HOK HBD
      rw [HS.out.ln, HQ.out, HBL.out] at HOK
      have HNL : Hidden (N.length = q) := ⟨by rw [HS.out.ln]; exact HQ.out⟩
      clear hEv hN1 hS1 HS
      obtain ⟨hge, hgn1, heq, hneq⟩ := errIs_errV Ev
      go_upto_if 112 with (fail)
      go_cut [] (fun wx => Hidden (VbSt w wx F G3 d p v gx cx gy cy nn np st D N1 K N1 K S1))
      case first =>
        as_aux_lemma =>
          by_cases hz : Ev = 0
          · subst hz
            obtain ⟨hx0, hxl, hsp⟩ := HOK.out rfl
            obtain ⟨a, rfl⟩ := Int.eq_ofNat_of_zero_le hx0
            rw [Int.toNat_natCast] at hsp
            have z0 : ((0 : Nat) == 0) = true := rfl
            have d1 : decide ((a : Int) < 0) = false := by simp
            have d2 : decide ((q : Int) < a) = false := by simp; omega
            have d2' : decide (q < a) = false := by simp; omega
            have s3 : IntKind.i64.wrap ((q : Int) - a) = (q : Int) - a := IntWalk.i64_in _ (by omega)
            have d3 : decide ((q : Int) - a < (bl : Int)) = false := by simp; omega
            have hal : a + bl ≤ q := by omega
            have HK0 : Hidden (VbSt w w3 F G3 d p v gx cx gy cy nn np st D (splice N a (b.take 0)) K N1 K S1) := ⟨by
              have : splice N a (b.take 0) = N := by simp [splice]
              rw [this]; exact HS3.out⟩
            have HSP := Hidden.mk hsp
            clear hx0 hxl hsp HOK HBD HS3 hge hgn1 heq hneq z0
            rw [show errV 0 = Value.nilIface from rfl]
            go_wp2_with fail
            go_loopg [23] bl (fun r kv wy => ∃ k : Nat, k ≤ bl ∧ r = bl - k ∧ kv = .int .i64 (k : Int) ∧ Hidden (VbSt w wy F G3 d p v gx cx gy cy nn np st D (splice N a (b.take k)) K N1 K S1))
            case atStart => exact ⟨0, by omega, rfl, rfl, HK0⟩
            case round =>
              obtain ⟨k, hk, rfl, rfl, hs⟩ := hrel
              have HY := Hidden.mk hs.out
              clear hs HK0
              by_cases hkl : k < bl
              · have c0 : (0 : Int) ≤ k := by omega
                have c1 : (k : Int) < bl := by omega
                have c2 : IntKind.i64.wrap ((k : Int) + 1) = (k : Int) + 1 := IntWalk.i64_in _ (by omega)
                have c3 : IntKind.i64.wrap ((a : Int) + k) = (a : Int) + k := IntWalk.i64_in _ (by omega)
                have c4 : (0 : Int) ≤ (a : Int) + k := by omega
                have c5 : (a : Int) + k < q := by omega
                have hbk : k < b.length := by rw [HBL.out]; exact hkl
                obtain ⟨bb, bo, rfl, hcell⟩ := (HBO.out.rd.below HY.out.dev.bel) k hbk
                have hml : (splice N a (b.take k)).length = q := by rw [splice_len _ _ _ (by rw [HNL.out, List.length_take]; omega)]; exact HNL.out
                have y1 := HY.out.now.cell (a + k) (by omega)
                have y2 := HY.out.now.frozen (a + k)
                have hput := HY.out.put (a + k) (by omega) b[k]
                rw [splice_take_succ N b a k hbk (by rw [HNL.out, HBL.out]; exact hal)] at hput
                have HP := Hidden.mk hput
                generalize (splice N a (b.take k))[a + k] = u at y1
                generalize b[k] = bk at *
                clear hput hbk hml HY
                go_wp2_with fail
                go_roundg (bl - (k + 1))
                case measure => omega
                case rel => exact ⟨k + 1, by omega, rfl, by go_num, HP⟩
              · obtain rfl : k = bl := by omega
                have t7 : decide ((k : Int) < k) = false := by simp
                have hfull : splice N a (b.take k) = N1 := by rw [List.take_of_length_le (by rw [HBL.out]; exact Nat.le_refl _)]; exact HSP.out.symm
                rw [hfull] at HY
                clear hfull
                go_wp2_with fail
                go_meet
                exact HY
          · have z0 : (Ev == 0) = false := by simpa using hz
            have e := HBD.out hz
            have HZ : Hidden (VbSt w w3 F G3 d p v gx cx gy cy nn np st D N1 K N1 K S1) := ⟨by have := HS3.out; rw [e] at this ⊢; exact this⟩
            clear hz HOK HBD HS3 e
            go_wp2_with fail
            go_meet
            exact HZ
      case rest =>
      have HS4 : Hidden (VbSt w wc F G3 d p v gx cx gy cy nn np st D N1 K N1 K S1) := hcut
      have HDR := Hidden.mk (vdirty_any HS4.out.vw (Nat.le_trans (cntS_le S1) (by omega)))
      clear hcut HS3 HOK HBD hge hgn1 heq hneq
      go_wp2_with fail
      refine HDR.out.mono ?_
      rintro e w5 ⟨u, L, rfl, hk, hown, hb5⟩
      obtain ⟨AL, cL, rfl, hAL, hxL⟩ := own_ints hown rfl
      have HDL : Hidden (DlSt w5 F G3 p AL L) := ⟨DlSt.mk' hown hxL HS4.out.dev.flt HS4.out.vw.lt HS4.out.pg.lt⟩
      have HS5 := Hidden.mk (HS4.out.below hb5)
      have hL23 : L.length ≤ 23 := by rw [keysS_cnt hk (fun k hk' => by have := HS4.out.sn k hk'; omega)]; exact HS4.out.s23
      have HKL := Hidden.mk hk
      obtain ⟨mL, hmL⟩ : ∃ k, L.length = k := ⟨_, rfl⟩
      rw [hmL] at hL23
      rw [hmL]
      have HML := Hidden.mk hmL
      have l1 : decide (23 < (mL : Int)) = false := by simp; omega
      have l2 : decide (23 < mL) = false := by simp; omega
      clear hk hown hb5 hAL hxL hmL HDR HS4
      obtain ⟨act, hact⟩ : ∃ a, a = E.getD i 0 := ⟨_, rfl⟩
      have HA3 : Hidden (∀ W, Below w.heap.size w W → i < m3 → ∃ pb of, A3 = some ⟨pb, of, none⟩ ∧ W.cell? ⟨pb, of + i, none⟩ = some (.int .i64 act)) := ⟨fun W hW hi3 => by
        obtain ⟨hEl, hEr⟩ := HE.out
        obtain ⟨pb, of, e, hc⟩ := hEr i (by omega)
        have e1 := hc 0 _ rfl
        rw [Nat.add_zero, Nat.mul_one] at e1
        refine ⟨pb, of, e, (hW.cell (p := ⟨pb, of + i, none⟩) (block_lt_of_cell e1)).trans ?_⟩
        rw [e1, hact, List.getD_eq_getElem?_getD, List.getElem?_eq_getElem (by omega)]
        rfl⟩
      clear hact
      go_upto_region 32 with (fail)
      go_cut [160] (fun s wx => s = .bool (decide (i < m3 ∧ act = 1)) ∧ w5 = wx)
      case first =>
        as_aux_lemma =>
          by_cases hi3 : i < m3
          · have j1 : decide ((i : Int) < m3) = true := by simp; omega
            have j2 : decide (i < m3) = true := by simp; omega
            have j3 : (i : Int) < m3 := by omega
            obtain ⟨pb, of, rfl, hc3⟩ := HA3.out _ HS5.out.dev.bel hi3
            have j4 : decide (i < m3 ∧ act = 1) = (act == 1) := by
              rw [Bool.eq_iff_iff, decide_eq_true_eq, beq_iff_eq]; exact ⟨fun h => h.2, fun h => ⟨hi3, h⟩⟩
            have J4 := Hidden.mk j4
            clear hi3 j4
            cases hac : (act == 1)
            · rw [hac] at J4
              go_wp2_with fail
              go_meet
              exact ⟨by rw [J4.out], rfl⟩
            · rw [hac] at J4
              go_wp2_with fail
              go_meet
              exact ⟨by rw [J4.out], rfl⟩
          · have j1 : decide ((i : Int) < m3) = false := by simp; omega
            have j2 : decide (i < m3) = false := by simp; omega
            have J4 := Hidden.mk (show decide (i < m3 ∧ act = 1) = false from decide_eq_false (fun h => hi3 h.1))
            clear hi3
            go_wp2_with fail
            go_meet
            exact ⟨by rw [J4.out], rfl⟩
      case rest =>
      obtain ⟨rfl, rfl⟩ := hcut
      go_upto_if 160 with (fail)
      go_cut [18] (fun kv wx => ∃ (gy cy st2 : Nat) (F : Nat → Prop) (D : Dv) (K : Bytes) (S : Nat → Bool), st2 ≤ st + 1 ∧ kv = .slice (some ⟨gy, 0, none⟩) q cy ∧ Hidden (VbSt w wx F G3 d p v gx cx gy cy nn np st2 D N1 K N1 K S ∧ DlSt wx F G3 p AL L ∧ ∀ k, k < np → k ∉ L → pgB N1 k = pgB K k))
      case first =>
        as_aux_lemma =>
          by_cases ha1 : i < m3 ∧ act = 1
          · rw [decide_eq_true ha1]
            clear ha1
            have HCM := Hidden.mk (vcommit_any HS5.out.dev HS5.out.pg hnn2 (by omega) HS5.out.pn HS5.out.vw HS5.out.gf HS5.out.gn HS5.out.ln (by rw [HS5.out.lk, HS5.out.ln]) HS5.out.sn)
            go_wp2_with fail
            refine HCM.out.mono ?_
            rintro e w6 ⟨L2, hk2, rfl, F6, -, hok⟩
            obtain rfl := keys_inj HKL.out hk2
            obtain ⟨pg0, hsf⟩ := HS5.out.sf
            obtain ⟨hz, -, -⟩ := commit_view hsf (by omega) hnn1 HS5.out.ln HS5.out.kb HS5.out.ag HS5.out.sn HS5.out.s23 hk2 hnn2
            have hm6 := hok hz
            rw [hz, errV0]
            have HS6 := Hidden.mk (HS5.out.commit (by omega) hnn1 hnn2 hk2 hm6)
            have HDL6 := Hidden.mk (HDL.out.keep hm6.kp hm6.sub)
            have HD6 := Hidden.mk (vdirty_any hm6.vw (by omega))
            clear hk2 hok hsf hz hm6 HCM HS5 HDL
            go_wp2_with fail
            refine HD6.out.mono ?_
            rintro e w7 ⟨u7, L7, rfl, hk7, hown7, hb7⟩
            obtain rfl := keys_none hk7
            obtain ⟨A7, c7, rfl, -, -⟩ := own_ints hown7 rfl
            have HS7 := Hidden.mk (HS6.out.below hb7)
            have HDL7 := Hidden.mk (HDL6.out.below hb7)
            clear hk7 hown7 hb7 HD6 HS6 HDL6
            have hln7 : N1.length = q := by rw [HS7.out.ln]; exact HQ.out
            have hsr7 := src_row HS7.out.now hln7
            have hoe7 := own_empty w7
            go_upto_region 35 with (fail)
            go_wp2_with (at_builtin; refine wpList_append_src _ rfl (.tmp 170) (.tmp 171) _ rfl w7.heap.size 5 ib _ 1 1 Tryd.underlying22 bi0 bz0 bz1 bz2 rfl (by decide) (.slice (some ⟨w7.heap.size, 0, none⟩) 0 0) 0 [] rfl hoe7 (some ⟨gx, 0, none⟩) q cx (N1.map bv) rfl hsr7 (by simp [Value.oneCell']) (by simp only [maxLen]; omega) (by omega) (by simp) ?_; intro v8 w8 hown8 hg8 hnn8)
            obtain ⟨g8, cap8, rfl, hg8', hr8, hb8⟩ := app_done hln7 (by have := HQ.out; omega) hown8 hg8
            have HS8 := Hidden.mk (HS7.out.newY hb8 hg8' hr8)
            have HDL8 := Hidden.mk (HDL7.out.below hb8)
            clear hown8 hg8 hnn8 hg8' hr8 hb8 hsr7 hoe7 hln7 HS7 HDL7
            go_meet
            refine ⟨g8, cap8, _, F6, _, N1, fun _ => false, ?_, rfl, ⟨HS8.out, HDL8.out, fun k _ _ => rfl⟩⟩
            by_cases h0 : L.length ≠ 0
            · rw [if_pos h0]; omega
            · rw [if_neg h0]; omega
          · rw [decide_eq_false ha1]
            clear ha1
            go_wp2_with fail
            go_meet
            exact ⟨gy, cy, st, F, D, K, S1, by omega, rfl, ⟨HS5.out, HDL.out, fun k hk hkL => HS5.out.ag k hk (by
              cases hs : S1 k with
              | false => rfl
              | true => exact absurd ((HKL.out.mem k).2 (setF_some.2 hs)) hkL)⟩⟩
      case rest =>
      obtain ⟨gy, cy, st, F, D, K, S, hst2, rfl, hs6⟩ := hcut
      have HS6 := Hidden.mk (And.intro hs6.out.1 hs6.out.2.2)
      have HDL6 := Hidden.mk hs6.out.2.1
      clear hs6 HS5 HDL
      go_upto_region 36 with (fail)
      go_cut [183] (fun s wx => s = .bool (decide (i < m3 ∧ act = 2)) ∧ wc = wx)
      case first =>
        as_aux_lemma =>
          by_cases hi3 : i < m3
          · have j1 : decide ((i : Int) < m3) = true := by simp; omega
            have j2 : decide (i < m3) = true := by simp; omega
            have j3 : (i : Int) < m3 := by omega
            obtain ⟨pb, of, rfl, hc3⟩ := HA3.out _ HS6.out.1.dev.bel hi3
            have j4 : decide (i < m3 ∧ act = 2) = (act == 2) := by
              rw [Bool.eq_iff_iff, decide_eq_true_eq, beq_iff_eq]; exact ⟨fun h => h.2, fun h => ⟨hi3, h⟩⟩
            have J4 := Hidden.mk j4
            clear hi3 j4
            cases hac : (act == 2)
            · rw [hac] at J4
              go_wp2_with fail
              go_meet
              exact ⟨by rw [J4.out], rfl⟩
            · rw [hac] at J4
              go_wp2_with fail
              go_meet
              exact ⟨by rw [J4.out], rfl⟩
          · have j1 : decide ((i : Int) < m3) = false := by simp; omega
            have j2 : decide (i < m3) = false := by simp; omega
            have J4 := Hidden.mk (show decide (i < m3 ∧ act = 2) = false from decide_eq_false (fun h => hi3 h.1))
            clear hi3
            go_wp2_with fail
            go_meet
            exact ⟨by rw [J4.out], rfl⟩
      case rest =>
      obtain ⟨rfl, rfl⟩ := hcut
      go_upto_if 183 with (fail)
      go_cut [17] (fun nv wx => ∃ (gx cx : Nat) (N : Bytes) (S : Nat → Bool), nv = .slice (some ⟨gx, 0, none⟩) q cx ∧ Hidden (VbSt w wx F G3 d p v gx cx gy cy nn np st D N K N K S ∧ DlSt wx F G3 p AL L ∧ ∀ k, k < np → k ∉ L → pgB N k = pgB K k))
      case first =>
        as_aux_lemma =>
          by_cases ha2 : i < m3 ∧ act = 2
          · rw [decide_eq_true ha2]
            clear ha2
            have HAB := Hidden.mk (vabort_any HS6.out.1.vw (by rw [HS6.out.1.lk, HS6.out.1.ln]))
            go_wp2_with fail
            refine HAB.out.mono ?_
            rintro e w7 ⟨rfl, hv7, hk7⟩
            have HS7 := Hidden.mk (HS6.out.1.abort hv7 hk7)
            have HDL7 := Hidden.mk (HDL6.out.keep (F' := F) (hk7.wide (fun q hq => .inr hq)) (fun _ h => .inl h))
            have hln7 : K.length = q := by rw [HS7.out.ln]; exact HQ.out
            have hsr7 := src_row HS7.out.kep hln7
            have hoe7 := own_empty w7
            clear hv7 hk7 HAB HS6 HDL6
            go_upto_region 38 with (fail)
            go_wp2_with (at_builtin; refine wpList_append_src _ rfl (.tmp 186) (.tmp 187) _ rfl w7.heap.size 5 ib _ 1 1 Tryd.underlying22 bi0 bz0 bz1 bz2 rfl (by decide) (.slice (some ⟨w7.heap.size, 0, none⟩) 0 0) 0 [] rfl hoe7 (some ⟨gy, 0, none⟩) q cy (K.map bv) rfl hsr7 (by simp [Value.oneCell']) (by simp only [maxLen]; omega) (by omega) (by simp) ?_; intro v8 w8 hown8 hg8 hnn8)
            obtain ⟨g8, cap8, rfl, hg8', hr8, hb8⟩ := app_done hln7 (by have := HQ.out; omega) hown8 hg8
            have HS8 := Hidden.mk (HS7.out.newX hb8 hg8' hr8)
            have HDL8 := Hidden.mk (HDL7.out.below hb8)
            have hvw8 := HS8.out.vw
            rw [setF_none] at hvw8
            have HD8 := Hidden.mk (vdirty_any hvw8 (Nat.le_trans (cntS_le _) (by omega)))
            clear hown8 hg8 hnn8 hg8' hr8 hb8 hsr7 hoe7 hln7 HS7 HDL7 hvw8
            go_wp2_with fail
            refine HD8.out.mono ?_
            rintro e w9 ⟨u9, L9, rfl, hk9, hown9, hb9⟩
            obtain rfl := keys_none hk9
            obtain ⟨A9, c9, rfl, -, -⟩ := own_ints hown9 rfl
            have HS9 := Hidden.mk (HS8.out.below hb9)
            have HDL9 := Hidden.mk (HDL8.out.below hb9)
            clear hk9 hown9 hb9 HD8 HS8 HDL8
            go_wp2_with fail
            go_meet
            exact ⟨g8, cap8, K, fun _ => false, rfl, ⟨HS9.out, HDL9.out, fun k _ _ => rfl⟩⟩
          · rw [decide_eq_false ha2]
            clear ha2
            go_wp2_with fail
            go_meet
            exact ⟨gx, cx, N1, S, rfl, ⟨HS6.out.1, HDL6.out, HS6.out.2⟩⟩
      case rest =>
      obtain ⟨gx, cx, N, S, rfl, hs7⟩ := hcut
      have HS7 := Hidden.mk hs7.out.1
      have HDL7 := Hidden.mk hs7.out.2.1
      have HAG := Hidden.mk hs7.out.2.2
      have HLN : Hidden (N.length = q) := ⟨by rw [HS7.out.ln]; exact HQ.out⟩
      clear hs7 HS6 HDL6 HA3
      have HRD := Hidden.mk (vread_yes HS7.out.vw (by rw [HLN.out]; exact hq64) 0 q (by rw [HLN.out]; omega))
      go_wp2_with fail
      refine (vlen_any HS7.out.vw).mono ?_
      rintro e w' ⟨rfl, rfl⟩
      rw [HLN.out]
      go_wp2_with fail
      refine HRD.out.mono ?_
      rintro e w8 ⟨g8, c8, rfl, -, hr8, hb8⟩
      rw [List.drop_zero, List.take_of_length_le (by rw [HLN.out]; exact Nat.le_refl _)] at hr8
      have HS8 := Hidden.mk (HS7.out.below hb8)
      have HDL8 := Hidden.mk (HDL7.out.below hb8)
      have v1 := conv_text w8 (some ⟨g8, 0, none⟩) q c8 N HLN.out hr8.rd
      have v2 := conv_text w8 (some ⟨gx, 0, none⟩) q cx N HLN.out HS8.out.now.rd
      clear hr8 hb8 HRD HS7 HDL7
      go_wp2_with fail
      clear v1 v2
      go_loopg [27] np (fun r kv wy => ∃ t : Nat, t ≤ np ∧ r = np - t ∧ kv = .int .i64 (t : Int) ∧ Hidden (VbSt w wy F G3 d p v gx cx gy cy nn np st D N K N K S ∧ DlSt wy F G3 p AL L))
      case atStart => exact ⟨0, by omega, rfl, rfl, ⟨HS8.out, HDL8.out⟩⟩
      case round =>
        obtain ⟨t, ht, rfl, rfl, hs⟩ := hrel
        have HY := Hidden.mk hs.out
        clear hs HS8 HDL8
        as_aux_lemma =>
          by_cases htl : t < np
          · have t7 : decide ((t : Int) < np) = true := by simp; omega
            have t8 : decide (t < np) = true := by simp; omega
            have s5 : IntKind.i64.wrap ((t : Int) + 1) = (t : Int) + 1 := IntWalk.i64_in _ (by omega)
            go_wp2_with fail
            refine (plen_any HY.out.1.pg).mono ?_
            rintro e w' ⟨rfl, rfl⟩
            go_wp2_with fail
            go_loopg [28, 29] mL (fun r dv jv wz => ∃ j : Nat, j ≤ mL ∧ r = mL - j ∧ dv = .bool (decide (t ∈ L.take j)) ∧ jv = .int .i64 (j : Int) ∧ Hidden (VbSt w wz F G3 d p v gx cx gy cy nn np st D N K N K S ∧ DlSt wz F G3 p AL L))
            case atStart => exact ⟨0, by omega, rfl, by simp, rfl, HY⟩
            case round =>
              obtain ⟨j, hj, rfl, rfl, rfl, hs⟩ := hrel
              have HZ := Hidden.mk hs.out
              clear hs HY
              by_cases hjl : j < mL
              · have j1 : (j : Int) < mL := by omega
                have j0 : (0 : Int) ≤ j := by omega
                have s6 : IntKind.i64.wrap ((j : Int) + 1) = (j : Int) + 1 := IntWalk.i64_in _ (by omega)
                have hjL : j < L.length := by rw [HML.out]; exact hjl
                have htk := List.take_succ_eq_append_getElem hjL
                obtain ⟨pl, ol, rfl, hcl⟩ := HZ.out.2.rd j hjL
                have y0 := hcl 0 _ rfl
                rw [Nat.add_zero, Nat.mul_one] at y0
                generalize L[j] = lj at *
                by_cases hd : t ∈ L.take j
                · have HN : Hidden (decide (t ∈ L.take (j + 1)) = true) := ⟨decide_eq_true (by rw [htk]; exact List.mem_append.2 (.inl hd))⟩
                  rw [decide_eq_true hd]
                  clear hd htk hcl hjL
                  go_wp2_with fail
                  go_roundg (mL - (j + 1))
                  case measure => omega
                  case rel => exact ⟨j + 1, by omega, rfl, by rw [HN.out], by go_num, HZ⟩
                · rw [decide_eq_false hd]
                  have HN : Hidden (decide (t ∈ L.take (j + 1)) = ((lj : Int) == (t : Int))) := ⟨by
                    rw [Bool.eq_iff_iff, decide_eq_true_eq, beq_iff_eq, htk, List.mem_append, List.mem_singleton]
                    exact ⟨fun h => h.elim (fun h => absurd h hd) (fun h => by omega), fun h => .inr (by omega)⟩⟩
                  clear hd htk hcl hjL
                  cases hlt' : ((lj : Int) == (t : Int))
                  · rw [hlt'] at HN
                    go_wp2_with fail
                    go_roundg (mL - (j + 1))
                    case measure => omega
                    case rel => exact ⟨j + 1, by omega, rfl, by rw [HN.out], by go_num, HZ⟩
                  · rw [hlt'] at HN
                    go_wp2_with fail
                    go_roundg (mL - (j + 1))
                    case measure => omega
                    case rel => exact ⟨j + 1, by omega, rfl, by rw [HN.out], by go_num, HZ⟩
              · obtain rfl : j = mL := by omega
                have j1 : decide ((j : Int) < j) = false := by simp
                have htk : L.take j = L := List.take_of_length_le (by rw [HML.out]; exact Nat.le_refl _)
                rw [htk]
                clear htk
                by_cases hd : t ∈ L
                · rw [decide_eq_true hd]
                  clear hd
                  go_wp2_with fail
                  go_quiet (fail)
                  go_wp2_with fail
                  go_roundg (np - (t + 1))
                  case measure => omega
                  case rel => exact ⟨t + 1, by omega, rfl, by go_num, ⟨HZ.out.1.below (below_drewN (Below.refl _ _) _), HZ.out.2.below (below_drewN (Below.refl _ _) _)⟩⟩
                · rw [decide_eq_false hd]
                  have hpg := HAG.out t htl hd
                  have s7 : IntKind.i64.wrap (32 * (t : Int)) = 32 * (t : Int) := IntWalk.i64_in _ (by omega)
                  have s8 : IntKind.i64.wrap (32 * (t : Int) + 32) = 32 * (t : Int) + 32 := IntWalk.i64_in _ (by omega)
                  have h32 : 32 * t + 32 ≤ q := by have := HQ.out; omega
                  have hcx := HZ.out.1.now.le.1
                  have hcy := HZ.out.1.kep.le.1
                  rw [HLN.out] at hcx
                  have hKL : K.length = q := by rw [HZ.out.1.lk]; exact HQ.out
                  rw [hKL] at hcy
                  have hcutx := fun W => run_cut gx 0 q cx (32 * t) (32 * t + 32) (by omega) (by omega) (by omega) W
                  have hcuty := fun W => run_cut gy 0 q cy (32 * t) (32 * t + 32) (by omega) (by omega) (by omega) W
                  rw [show ((32 * t : Nat) : Int) = 32 * (t : Int) by omega, show ((32 * t + 32 : Nat) : Int) = 32 * (t : Int) + 32 by omega, show 32 * t + 32 - 32 * t = 32 by omega, Nat.zero_add] at hcutx hcuty
                  have hrx := HZ.out.1.now.rd.cut (32 * t) 32 (by rw [HLN.out]; exact h32)
                  have hry := HZ.out.1.kep.rd.cut (32 * t) 32 (by rw [hKL]; exact h32)
                  rw [Option.map_some, Addr.add_lit, Nat.zero_add] at hrx hry
                  have ex : (N.drop (32 * t)).take 32 = pgB K t := by rw [← hpg, Nat.mul_comm]; rfl
                  have ey : (K.drop (32 * t)).take 32 = pgB K t := by rw [Nat.mul_comm]; rfl
                  rw [ex] at hrx
                  rw [ey] at hry
                  have hpl := pgB_len HZ.out.1.lk htl
                  generalize pgB K t = P at *
                  have v1 := fun nq => conv_text (wr.drewN nq) (some ⟨gx, 32 * t, none⟩) 32 (cx - 32 * t) P hpl (hrx.drewN nq)
                  have v2 := fun nq => conv_text (wr.drewN nq) (some ⟨gy, 32 * t, none⟩) 32 (cy - 32 * t) P hpl (hry.drewN nq)
                  clear hd hpg hKL hrx hry ex ey hpl
                  go_wp2_with fail
                  go_quiet (fail)
                  go_wp2_with fail
                  go_roundg (np - (t + 1))
                  case measure => omega
                  case rel => exact ⟨t + 1, by omega, rfl, by go_num, ⟨HZ.out.1.below (below_drewN (Below.refl _ _) _), HZ.out.2.below (below_drewN (Below.refl _ _) _)⟩⟩
          · obtain rfl : t = np := by omega
            have t7 : decide ((t : Int) < t) = false := by simp
            go_wp2_with fail
            refine (plen_any HY.out.1.pg).mono ?_
            rintro e w' ⟨rfl, rfl⟩
            go_wp2_with fail
            go_roundg (40 - (i + 1))
            case measure => omega
            case rel => exact ⟨i + 1, gx, cx, gy, cy, st, F, G3, D, N, K, S, by omega, rfl, by omega, rfl, rfl, by go_num, ⟨HY.out.1⟩⟩
    · go_upto_region 17 with (fail)
      go_cut [96] (fun s wx => s = .bool false ∧ wr = wx)
      case first =>
        by_cases h1 : i < m1
        · have t1 : decide ((i : Int) < m1) = true := by simp; omega
          have t2 : decide (i < m1) = true := by simp; omega
          by_cases h2 : i < m2
          · have t3 : decide ((i : Int) < m2) = true := by simp; omega
            have t4 : decide (i < m2) = true := by simp; omega
            have t5 : decide ((i : Int) < 40) = false := by simp; omega
            have t6 : decide (i < 40) = false := by simp; omega
            clear hlt h1 h2
            go_wp2_with fail
            go_meet
            exact ⟨rfl, rfl⟩
          · have t3 : decide ((i : Int) < m2) = false := by simp; omega
            have t4 : decide (i < m2) = false := by simp; omega
            clear hlt h1 h2
            go_wp2_with fail
            go_meet
            exact ⟨rfl, rfl⟩
        · have t1 : decide ((i : Int) < m1) = false := by simp; omega
          have t2 : decide (i < m1) = false := by simp; omega
          clear hlt h1
          go_wp2_with fail
          go_meet
          exact ⟨rfl, rfl⟩
      case rest =>
      obtain ⟨rfl, rfl⟩ := hcut
      clear hlt
      as_aux_lemma =>
       obtain ⟨o1, o2, o3, o4, o5, o6, o7⟩ := opened_view HS.out.sf
       have HOP := Hidden.mk (popen_any HS.out.dev)
       have HO1 := Hidden.mk o1
       obtain ⟨pg2, o2⟩ := o2
       have hn0 := o2.n0
       have HO := Hidden.mk (And.intro o3 (And.intro (show allB (openP D).1 np = K from o4.trans HS.out.kb.symm) (And.intro o6 (And.intro hn0 o7))))
       have hnD : nP D = np := by obtain ⟨pg, h⟩ := HS.out.sf; exact h.n0.symm
       have HND := Hidden.mk hnD
       clear o1 o2 o3 o4 o5 o6 o7 hn0 hnD
       go_wp2_with fail
       refine HOP.out.mono ?_
       rintro e w7 hans
       obtain ⟨v7, F7, rfl, hm7, hok⟩ := hans.uni
       obtain ⟨p7, rfl, hp7, hqn⟩ := hok HO1.out
       rw [HO1.out, errV0]
       rw [HND.out] at hp7
       rw [HO.out.2.2.2.1] at hp7
       have HN7 := Hidden.mk (vnew_ok hm7.dev hp7 HO.out.2.2.1 (fun i hi => HO.out.2.2.2.2 i (by rw [HO.out.2.2.2.1]; exact hi)) np HO.out.2.2.2.1 hnn1)
       rw [HO.out.2.1] at HN7
       have hkep := hm7.kp.row HS.out.kep HS.out.yf.1
       have HK7 := Hidden.mk (And.intro hkep hm7.dev.bel)
       have HLK : Hidden (K.length = q) := ⟨by rw [HS.out.lk]; exact HQ.out⟩
       clear hans hok hp7 hqn hm7 hkep HOP HO HO1 HS HND
       go_wp2_with fail
       refine HN7.out.mono ?_
       rintro e w8 ⟨v8, G8, rfl, hv8, -, hb8⟩
       have HV8 := Hidden.mk hv8
       have HK8 := Hidden.mk (And.intro (HK7.out.1.below hb8 HK7.out.1.lt) (HK7.out.2.trans (hb8.mono HK7.out.2.size)))
       clear hv8 hb8 HN7 HK7
       have HRD := Hidden.mk (vread_yes HV8.out (by rw [HLK.out]; exact hq64) 0 q (by rw [HLK.out]; omega))
       go_wp2_with fail
       refine (vlen_any HV8.out).mono ?_
       rintro e w' ⟨rfl, rfl⟩
       rw [HLK.out]
       go_wp2_with fail
       refine HRD.out.mono ?_
       rintro e w9 ⟨g9, c9, rfl, -, hr9, hb9⟩
       rw [List.drop_zero, List.take_of_length_le (by rw [HLK.out]; exact Nat.le_refl _)] at hr9
       have HB9 := Hidden.mk (HK8.out.2.trans (hb9.mono HK8.out.2.size))
       have v1 := conv_text w9 (some ⟨g9, 0, none⟩) q c9 K HLK.out hr9.rd
       have v2 := conv_text w9 (some ⟨gy, 0, none⟩) q cy K HLK.out (HK8.out.1.below hb9 HK8.out.1.lt).rd
       clear hr9 hb9 HRD HK8
       go_wp2_with fail
       go_ret
       exact ⟨rfl, HB9.out⟩
end Go.Proofs.YtmhlnbbnanehiaaDoor
