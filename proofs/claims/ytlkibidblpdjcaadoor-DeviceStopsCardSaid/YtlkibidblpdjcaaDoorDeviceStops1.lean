/- DeviceStops: the walk. -/
import Derived.Test.YtlkibidblpdjcaaDoorDev7
import Derived.Test.YtlkibidblpdjcaaDoorTold3
import Derived.Test.YtlkibidblpdjcaaDoorRowSet
import Derived.Test.YtlkibidblpdjcaaDoorStr3
namespace Go.Proofs.YtlkibidblpdjcaaDoor
open Go.RowKit Go.Maps Go.ChangeMaps

/-- the device that the law comes to, with so many steps left -/
def stopD (n at_ : Nat) (b : Bytes) (left : Int) : Dv := { flushD (stepD (stepD (putD (newD n) at_ b))) with left := left }
theorem stopD_len (n at_ : Nat) (b : Bytes) (left : Int) : (stopD n at_ b left).S.length = n := by simp [stopD, flushD, stepD, putD, newD]
theorem stopD_at (n at_ : Nat) (b : Bytes) (left : Int) (h : at_ < n) : (stopD n at_ b left).S.getD at_ [] = b := by
  simp [stopD, flushD, stepD, putD, newD, readD, h]
theorem stopD_first (n at_ : Nat) (b : Bytes) : flushD (stepD (stepD (putD (newD n) at_ b))) = stopD n at_ b (-1) := by
  simp [stopD, flushD, stepD, putD, newD]
  decide
theorem stopD_step (n at_ : Nat) (b : Bytes) (left : Int) (h : 0 < left) : flushD (stepD (stopD n at_ b left)) = stopD n at_ b (left - 1) := by
  rw [flush_none _ rfl]
  have h1 : max (-1) (left - 1) = left - 1 := by omega
  have h2 : (left == 0) = false := by simp; omega
  simp only [stepD, stopD, h1, h2]
  rfl
set_option maxRecDepth 100000 in
set_option maxHeartbeats 2000000 in
theorem deviceStops_walk (n at_ : Int) (A : Option Addr) (m c : Nat) (b : Bytes) (after : Int) (w : World) (hg : HasType w) (hm : b.length = m) (hmc : m ≤ c) (hrd : Rd w A b) :
    Calls Tryd.prog 4 #[.int .i64 n, .int .i64 at_, .slice A m c, .int .i64 after] w fun e w' => e = .returned (.bool true) ∧ Below w.heap.size w w' := by
  by_cases hn : n < 1 ∨ 300 < n
  · have HN := Hidden.mk hn
    go_enter Tryd.func4, Tryd.ntmps4
    go_wp2_with fail
    refine (dnew_e1 n _ HN.out).mono ?_
    rintro e w1 ⟨rfl, rfl⟩
    by_cases h1 : n < 1
    · clear hn
      go_wp2_with fail
      go_ret
      exact ⟨rfl, Below.refl _ _⟩
    · have h3 : 300 < n := by omega
      have t1 : decide (n < 1) = false := by simp; omega
      have t2 : decide (300 < n) = true := by simp; omega
      clear hn h1 h3
      go_wp2_with fail
      go_ret
      exact ⟨rfl, Below.refl _ _⟩
  · obtain ⟨nn, rfl⟩ : ∃ nn : Nat, n = nn := ⟨n.toNat, by omega⟩
    have hn1 : 1 ≤ nn := by omega
    have hn3 : nn ≤ 300 := by omega
    clear hn
    go_enter Tryd.func4, Tryd.ntmps4
    go_wp2_with fail
    refine (dnewB nn _ hn1 hn3).mono ?_
    rintro e w1 ⟨d, F, rfl, hd1⟩
    have HB1 := Hidden.mk hd1.bel
    by_cases hok : m = 32 ∧ 0 ≤ at_ ∧ at_ < nn ∧ 0 ≤ after ∧ after ≤ 1000
    · obtain ⟨h32, ha0, ha1, hf0, hf1⟩ := hok
      subst h32
      obtain ⟨aa, rfl⟩ := Int.eq_ofNat_of_zero_le ha0
      obtain ⟨ff, rfl⟩ := Int.eq_ofNat_of_zero_le hf0
      have haa : aa < nn := by omega
      have t0 : decide ((nn : Int) ≤ aa) = false := by simp; omega
      have t1 : decide (nn ≤ aa) = false := by simp; omega
      have hrd1 := hrd.below hd1.bel
      have hAF : ∀ ad, A = some ad → ¬ F ad.block := fun ad hA hf => by
        obtain ⟨p, off, hA', hp⟩ := hrd.lt (by omega)
        rw [hA'] at hA
        obtain rfl := Option.some.inj hA
        have := hd1.new p hf
        omega
      have HRD := Hidden.mk hrd
      have HG := Hidden.mk hg
      have HM := Hidden.mk hm
      clear hrd hg hm
      go_wp2_with fail
      refine (hd1.write aa A c b (by simp [newD]; omega) rfl HM.out hrd1 hAF).mono ?_
      rintro e w2 ⟨rfl, F2, hd2, hk2, hF2⟩
      rw [show powV (newD nn).left = .nilIface from rfl]
      clear hd1 hAF hrd1 hk2 hF2
      go_wp2_with fail
      refine (hd2.flush (by rfl) (by show max (-1) ((-1 : Int) - 1) ≠ 0; decide)).mono ?_
      rintro e w3 ⟨rfl, hd3, hk3⟩
      rw [stopD_first] at hd3
      clear hd2 hk3
      go_wp2_with fail
      refine (hd3.fail (ff : Int) (by omega)).mono ?_
      rintro e w4 ⟨rfl, hd4, hk4⟩
      rw [show max (-1) (ff : Int) = (ff : Int) by omega] at hd4
      have hd5 : DevB w w4 F2 d (stopD nn aa b ((ff : Int) - (0 : Nat))) := by simpa [stopD] using hd4
      have HD5 := Hidden.mk hd5
      clear hd3 hd4 hk4 hd5
      go_wp2_with fail
      go_loopg [11] ff (fun k i wr => ∃ j : Nat, j ≤ ff ∧ k = ff - j ∧ i = .int .i64 (j : Int) ∧ DevB w wr F2 d (stopD nn aa b ((ff : Int) - (j : Nat))))
      case atStart => exact ⟨0, by omega, rfl, rfl, HD5.out⟩
      case round =>
        obtain ⟨j, hj, rfl, rfl, hdj⟩ := hrel
        by_cases hlt : j < ff
        · have i0 : (j : Int) < ff := by omega
          have HDJ := Hidden.mk hdj
          clear hdj
          go_wp2_with fail
          refine (HDJ.out.flush (by rfl) (by show ((ff : Int) - (j : Nat)) ≠ 0; omega)).mono ?_
          rintro e w5 ⟨rfl, hd5, hk5⟩
          rw [stopD_step _ _ _ _ (by omega), show (ff : Int) - (j : Nat) - 1 = (ff : Int) - ((j + 1 : Nat)) by omega] at hd5
          have HD6 := Hidden.mk hd5
          clear hd5 hk5
          go_wp2_with fail
          refine (HD6.out.down).mono ?_
          rintro e w6 ⟨rfl, rfl⟩
          rw [show (stopD nn aa b ((ff : Int) - ((j + 1 : Nat)))).down = false from rfl]
          go_wp2_with fail
          go_roundg (ff - (j + 1))
          case measure => omega
          case rel => exact ⟨j + 1, by omega, rfl, by go_num, HD6.out⟩
        · obtain rfl : j = ff := by omega
          have hmk := fun W => mk_bytes 32 32 rfl (by omega) W
          rw [show (j : Int) - (j : Nat) = 0 by omega] at hdj
          have hz := row_zeros wr 32 (by simp [maxLen])
          have hcell := hz.cell 3 (by simp)
          have hfr := hz.frozen 3
          have hd7 := hdj.below ((Below.refl _ wr).alloc (Nat.le_refl _) (.cells ((zeroRow 32).setIfInBounds 3 (.int .u8 77)) 5))
          have hz2 : Row (wr.alloc (.cells ((zeroRow 32).setIfInBounds 3 (.int .u8 77)) 5)) 5 wr.heap.size 32 ((List.replicate 32 0).set 3 77) :=
            ⟨_, heap_alloc_new wr _, by simp, by simp [maxLen], by simp [zeroRow], by kernel_rfl⟩
          have hcf : ¬ F2 wr.heap.size := fun hf => by have := hdj.flt _ hf; omega
          have HD7 := Hidden.mk hd7
          have HZ := Hidden.mk hz2
          have HCF := Hidden.mk hcf
          clear hd7 hz hz2 hcf hdj HD5
          go_wp2_with fail
          generalize wr.alloc (.cells ((zeroRow 32).setIfInBounds 3 (.int .u8 77)) 5) = w6 at *
          generalize wr.heap.size = g6 at *
          refine (HD7.out.write aa (some ⟨g6, 0, none⟩) 32 _ (by rw [stopD_len]; exact haa) rfl (by simp) HZ.out.rd (fun ad e hf => HCF.out (by obtain rfl := Option.some.inj e; exact hf))).mono ?_
          rintro e w8 ⟨rfl, F8, hd8, hk8, hF8⟩
          rw [show powV (stopD nn aa b 0).left = .iface 112 (.int .i64 9) from rfl]
          obtain ⟨D8, hD8⟩ : ∃ D8, D8 = stepD (putD (stopD nn aa b 0) aa ((List.replicate 32 0).set 3 77)) := ⟨_, rfl⟩
          have H8 : Hidden (D8.S.length = nn ∧ D8.down = true ∧ D8.O = [aa] ∧ D8.S.getD aa [] = b ∧ D8.O.length = 1) := ⟨by
            rw [hD8]
            exact ⟨stopD_len nn aa b 0, rfl, by simp [stepD, putD, stopD, flushD], stopD_at nn aa b 0 haa, by simp [stepD, putD, stopD, flushD]⟩⟩
          rw [← hD8] at hd8
          clear hk8 hF8 hD8 hcell hfr
          go_wp2_with fail
          refine (hd8.read_e9 aa (by rw [H8.out.1]; exact haa) H8.out.2.1).mono ?_
          rintro e w9 ⟨rfl, rfl⟩
          go_wp2_with fail
          refine (hd8.flush_dn H8.out.2.1).mono ?_
          rintro e w9 ⟨rfl, rfl⟩
          have hg8 := HG.out.below HG.out.lt hd8.bel
          go_wp2_with fail
          refine (err_some 9 9 _ hg8).mono ?_
          rintro e w9 ⟨rfl, hb9⟩
          have hd9 := hd8.below hb9
          have hg9 := HG.out.below HG.out.lt hd9.bel
          clear hd8 hg8 hb9
          go_wp2_with fail
          refine (err_some 9 9 _ hg9).mono ?_
          rintro e w10 ⟨rfl, hb10⟩
          have hd10 := hd9.below hb10
          have hg10 := HG.out.below HG.out.lt hd10.bel
          clear hd9 hg9 hb10
          go_wp2_with fail
          refine (err_some 9 9 _ hg10).mono ?_
          rintro e w11 ⟨rfl, hb11⟩
          have hd11 := hd10.below hb11
          clear hd10 hg10 hb11
          go_wp2_with fail
          refine (hd11.down).mono ?_
          rintro e w12 ⟨rfl, rfl⟩
          rw [H8.out.2.1]
          go_wp2_with fail
          refine (hd11.pend).mono ?_
          rintro e w12 ⟨v12, rfl, hown12, -, hd12⟩
          obtain ⟨A12, c12, rfl, -⟩ := own_nats hown12
          rw [H8.out.2.2.2.2]
          clear hown12 hd11
          go_wp2_with fail
          refine (hd12.crash none 0 0 [] (-1) 0 rfl (fun j hj => by simp at hj) (fun ad e => by cases e)).mono ?_
          rintro e w13 ⟨rfl, hd13, -⟩
          rw [H8.out.2.2.2.2]
          obtain ⟨D13, hD13⟩ : ∃ D13, D13 = crashD D8 [] (-1) (min 32 (max 0 (0 : Int))).toNat := ⟨_, rfl⟩
          have H13 : Hidden (D13.S.length = nn ∧ D13.down = false ∧ D13.left = -1 ∧ readD D13 aa = b) := ⟨by
            obtain ⟨h1, _, h3, h4, h5⟩ := H8.out
            have hs : crashS D8 [] (-1) (min 32 (max 0 (0 : Int))).toNat D8.O.length = D8.S := by
              rw [h5]
              show D8.S.set (D8.O.getD 0 0) (crash1 D8 [] (-1) _ 0) = D8.S
              unfold crash1
              rw [if_neg (by decide), if_neg (by simp)]
              rw [h3]
              show D8.S.set aa (D8.S.getD aa []) = D8.S
              have haa' : aa < D8.S.length := by rw [h1]; exact haa
              rw [show D8.S.getD aa [] = D8.S[aa] by simp [haa']]
              exact List.set_getElem_self haa'
            rw [hD13]
            refine ⟨?_, rfl, rfl, ?_⟩
            · show (crashS D8 [] (-1) _ D8.O.length).length = nn
              rw [hs]; exact h1
            · unfold readD
              rw [if_neg (by simp [crashD])]
              show (crashS D8 [] (-1) _ D8.O.length).getD aa [] = b
              rw [hs]; exact h4⟩
          rw [← hD13] at hd13
          clear hd12 hD13
          go_wp2_with fail
          refine (hd13.down).mono ?_
          rintro e w14 ⟨rfl, rfl⟩
          rw [H13.out.2.1]
          go_wp2_with fail
          refine (hd13.read aa (by rw [H13.out.1]; exact haa) H13.out.2.1).mono ?_
          rintro e w15 ⟨g15, c15, rfl, hg15, hr15, hl15, hb15, hd15⟩
          rw [H13.out.2.2.2] at hr15
          have d1 := conv_text _ (some ⟨g15, 0, none⟩) 32 c15 b HM.out hr15.rd
          have d2 := conv_text _ A 32 c b HM.out (HRD.out.below hd15.bel)
          have HD15 := Hidden.mk hd15
          clear hd13 hg15 hr15 hl15 hb15 hd15
          go_wp2_with fail
          refine (HD15.out.flush H13.out.2.1 (by rw [H13.out.2.2.1]; decide)).mono ?_
          rintro e w16 ⟨rfl, hd16, -⟩
          have HB := Hidden.mk hd16.bel
          clear hd16 d1 d2
          go_wp2_with fail
          go_ret
          exact ⟨rfl, HB.out⟩
    · have hpos : (m ≠ 32) ∨ (m = 32 ∧ at_ < 0) ∨ (m = 32 ∧ 0 ≤ at_ ∧ nn ≤ at_) ∨ (m = 32 ∧ 0 ≤ at_ ∧ at_ < nn ∧ after < 0) ∨ (m = 32 ∧ 0 ≤ at_ ∧ at_ < nn ∧ 0 ≤ after ∧ 1000 < after) := by omega
      clear hok hd1
      rcases hpos with h | ⟨h, h1⟩ | ⟨h, h1, h2⟩ | ⟨h, h1, h2, h3⟩ | ⟨h, h1, h2, h3, h4⟩
      · have t0 : ((m : Int) != 32) = true := by simp; omega
        clear h
        go_wp2_with fail
        go_ret
        exact ⟨rfl, HB1.out⟩
      · have t0 : ((m : Int) != 32) = false := by simp; omega
        have t1 : decide (at_ < 0) = true := by simp; omega
        clear h h1 hm
        go_wp2_with fail
        go_ret
        exact ⟨rfl, HB1.out⟩
      · have t0 : ((m : Int) != 32) = false := by simp; omega
        have t1 : decide (at_ < 0) = false := by simp; omega
        have t2 : decide ((nn : Int) ≤ at_) = true := by simp; omega
        clear h h1 h2 hm
        go_wp2_with fail
        go_ret
        exact ⟨rfl, HB1.out⟩
      · have t0 : ((m : Int) != 32) = false := by simp; omega
        have t1 : decide (at_ < 0) = false := by simp; omega
        have t2 : decide ((nn : Int) ≤ at_) = false := by simp; omega
        have t3 : decide (after < 0) = true := by simp; omega
        clear h h1 h2 h3 hm
        go_wp2_with fail
        go_ret
        exact ⟨rfl, HB1.out⟩
      · have t0 : ((m : Int) != 32) = false := by simp; omega
        have t1 : decide (at_ < 0) = false := by simp; omega
        have t2 : decide ((nn : Int) ≤ at_) = false := by simp; omega
        have t3 : decide (after < 0) = false := by simp; omega
        have t4 : decide (1000 < after) = true := by simp; omega
        clear h h1 h2 h3 h4 hm
        go_wp2_with fail
        go_ret
        exact ⟨rfl, HB1.out⟩
end Go.Proofs.YtlkibidblpdjcaaDoor
