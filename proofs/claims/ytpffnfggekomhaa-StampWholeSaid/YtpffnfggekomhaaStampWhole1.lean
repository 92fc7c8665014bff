/- StampWhole: the walk. -/
import Derived.Test.YtpffnfggekomhaaMix1
import Derived.Test.YtpffnfggekomhaaStampRow1
namespace Go.Proofs.Ytpffnfggekomhaa
open Go.RowKit

/-- of two sectors that are whole, the first bytes of one and the others of the other: what is whole is one of both -/
theorem mix_whole (x y : Bytes) (k : Nat) (hx : x.length = 32) (hxt : x.take 4 = x.drop 28) (hyt : y.take 4 = y.drop 28) (hne : x.take 4 ≠ y.take 4) (hk : k ≤ 32)
    (hz : (x.take k ++ y.drop k).take 4 = (x.take k ++ y.drop k).drop 28) : x.take k ++ y.drop k = x ∨ x.take k ++ y.drop k = y := by
  have hl : (x.take k).length = k := by simp; omega
  by_cases h4 : k ≤ 4
  · right
    have hd : (x.take k ++ y.drop k).drop 28 = y.drop 28 := by
      rw [List.drop_append, hl, List.drop_of_length_le (by omega), List.nil_append, List.drop_drop, show k + (28 - k) = 28 from by omega]
    have hd4 : (x.take k ++ y.drop k).drop 4 = y.drop 4 := by
      rw [List.drop_append, hl, List.drop_of_length_le (by omega), List.nil_append, List.drop_drop, show k + (4 - k) = 4 from by omega]
    rw [hd, ← hyt] at hz
    rw [← List.take_append_drop 4 (x.take k ++ y.drop k), hz, hd4, List.take_append_drop]
  · have ht : (x.take k ++ y.drop k).take 4 = x.take 4 := by
      rw [List.take_append_of_le_length (by omega), List.take_take, Nat.min_eq_left (by omega)]
    by_cases h28 : k ≤ 28
    · exfalso
      have hd : (x.take k ++ y.drop k).drop 28 = y.drop 28 := by
        rw [List.drop_append, hl, List.drop_of_length_le (by omega), List.nil_append, List.drop_drop, show k + (28 - k) = 28 from by omega]
      rw [ht, hd, ← hyt] at hz
      exact hne hz
    · left
      have ht28 : (x.take k ++ y.drop k).take 28 = x.take 28 := by
        rw [List.take_append_of_le_length (by omega), List.take_take, Nat.min_eq_left (by omega)]
      rw [ht, hxt] at hz
      rw [← List.take_append_drop 28 (x.take k ++ y.drop k), ← hz, ht28, List.take_append_drop]

theorem make_no (st : Int) (A : Option Addr) (n c : Nat) (w : World) (h : ¬ ((1 ≤ st ∧ st ≤ 4294967295) ∧ n ≤ 24)) :
    Calls Try.prog 23 #[.int .i64 st, .slice A n c] w fun e w' => ∃ k, e = .returned (.tuple #[.slice none 0 0, .iface 23 (.int .i64 k)]) ∧ w = w' := by
  by_cases h1 : st < 1 ∨ 4294967295 < st
  · exact (make_e1 st A n c w h1).mono fun e w' ⟨h, hw⟩ => ⟨1, h, hw⟩
  · exact (make_e4 st A n c w (by omega) (by omega) (by omega)).mono fun e w' ⟨h, hw⟩ => ⟨4, h, hw⟩
theorem make_any (st : Int) (A : Option Addr) (n c : Nat) (b : Bytes) (w : World) (hbn : b.length = n) (hr : Rd w A b) :
    Calls Try.prog 23 #[.int .i64 st, .slice A n c] w fun e w' => ∃ v1 v2, e = .returned (.tuple #[v1, v2]) ∧ Below w.heap.size w w' := by
  by_cases h : (1 ≤ st ∧ st ≤ 4294967295) ∧ n ≤ 24
  · exact (make_ok st A n c b w hbn h.1.1 h.1.2 h.2 hr).mono fun e w' ⟨g, he, _, _, hb⟩ => ⟨_, _, he, hb⟩
  · exact (make_no st A n c w h).mono fun e w' ⟨k, he, hw⟩ => ⟨_, _, he, hw ▸ Below.refl _ _⟩
theorem seven_row (w : World) : Row (w.alloc (.cells #[.int .u8 7] 5)) 5 w.heap.size 1 [7] :=
  ⟨_, heap_alloc_new w _, by simp, by simp [maxLen], by simp, rfl⟩

set_option maxRecDepth 100000 in
theorem stampWhole_walk (n m : Int) (A B : Option Addr) (c d : Nat) (a b : Bytes) (cut : Int) (w : World) (hra : Rd w A a) (hrb : Rd w B b) :
    Calls Try.prog 8 #[.int .i64 n, .int .i64 m, .slice A a.length c, .slice B b.length d, .int .i64 cut] w fun e w' => e = .returned (.bool true) ∧ Below w.heap.size w w' := by
  go_enter Try.func8, Try.ntmps8
  go_wp2_with fail
  refine (make_ok _ _ _ _ [7] _ rfl (by omega) (by omega) (by decide) (seven_row w).rd).mono ?_
  rintro e w1 ⟨g, rfl, hg, hrow, hB⟩
  have hB1 : Below w.heap.size w w1 := ((Below.refl _ _).alloc (Nat.le_refl _) _).trans (hB.mono (by simp))
  have e0 := hrow.cell 0 (by decide)
  have e1 := hrow.cell 1 (by decide)
  have e4 := hrow.cell 4 (by decide)
  have e28 := hrow.cell 28 (by decide)
  rw [show (makeB (258 : Int).toNat [7])[0] = 2 from by decide] at e0
  rw [show (makeB (258 : Int).toNat [7])[1] = 1 from by decide] at e1
  rw [show (makeB (258 : Int).toNat [7])[4] = 7 from by decide] at e4
  rw [show (makeB (258 : Int).toNat [7])[28] = 2 from by decide] at e28
  have hra1 := hra.below hB1
  have hrb1 := hrb.below hB1
  clear hrow hB hg
  go_wp2_with fail
  clear e0 e1 e4 e28
  by_cases hn : (1 ≤ n ∧ n ≤ 4294967295) ∧ a.length ≤ 24
  · obtain ⟨⟨hn1, hn2⟩, ha⟩ := hn
    obtain ⟨p, rfl⟩ := Int.eq_ofNat_of_zero_le (show 0 ≤ n by omega)
    refine (make_ok _ _ _ _ a _ rfl hn1 hn2 ha hra1).mono ?_
    rintro e w2 ⟨gx, rfl, hgx, hxrow, hB⟩
    rw [Int.toNat_natCast] at hxrow
    have hB2 : Below w.heap.size w w2 := hB1.trans (hB.mono hB1.size)
    have hrb2 := hrb1.below hB
    have hra2 := hra1.below hB
    have hgx2 : w.heap.size ≤ gx := Nat.le_trans hB1.size hgx
    clear hB hrb1 hra1 hgx
    by_cases hm : (1 ≤ m ∧ m ≤ 4294967295) ∧ b.length ≤ 24
    · obtain ⟨⟨hm1, hm2⟩, hb⟩ := hm
      obtain ⟨q, rfl⟩ := Int.eq_ofNat_of_zero_le (show 0 ≤ m by omega)
      by_cases hpq : p = q
      · have hpq' : ((p : Int) == (q : Int)) = true := by simp; omega
        clear hpq
        go_wp2_with fail
        refine (make_ok _ _ _ _ b _ rfl hm1 hm2 hb hrb2).mono ?_
        rintro e w3 ⟨gy, rfl, hgy, hyrow, hB⟩
        have hB3 : Below w.heap.size w w3 := hB2.trans (hB.mono hB2.size)
        go_wp2_with fail
        go_ret
        exact ⟨rfl, hB3⟩
      · have hpq' : ((p : Int) == (q : Int)) = false := by simp; omega
        have hxl := makeB_len p a ha
        have hyl := makeB_len q b hb
        have hxt : (makeB p a).take 4 = (makeB p a).drop 28 := by rw [makeB_take, makeB_drop p a ha]
        have hyt : (makeB q b).take 4 = (makeB q b).drop 28 := by rw [makeB_take, makeB_drop q b hb]
        have hxst := makeB_stamp p a (by omega)
        have hbody := makeB_body p a ha
        have hyne : (makeB p a).take 4 ≠ (makeB q b).take 4 := by
          rw [makeB_take, makeB_take]
          intro h
          have := numB4_inj (by omega) (by omega) h
          omega
        have hx0 : (makeB p a).take 4 ≠ (List.replicate 32 (0 : UInt8)).take 4 := by
          rw [makeB_take]
          intro h
          have h1 := ofB_numB4 p (by omega)
          rw [h] at h1
          have h2 : ofB ((List.replicate 32 (0 : UInt8)).take 4) = 0 := by decide
          omega
        clear hpq
        go_wp2_with fail
        refine (make_ok _ _ _ _ b _ rfl hm1 hm2 hb hrb2).mono ?_
        rintro e w3 ⟨gy, rfl, hgy, hyrow, hB⟩
        rw [Int.toNat_natCast] at hyrow
        have hB3 : Below w.heap.size w w3 := hB2.trans (hB.mono hB2.size)
        have hxrow3 := hxrow.below hB hxrow.lt
        have hra3 := hra2.below hB
        clear hxrow hra2 hrb2 hB
        go_wp2_with fail
        refine (open_ok _ _ (makeB p a) _ hxl (by omega) hxrow3.rd hxt (by omega)).mono ?_
        rintro e w4 ⟨g3, cap3, rfl, hg3, hrow3, hB⟩
        rw [hxst, hbody] at *
        have hB4 : Below w.heap.size w w4 := hB3.trans (hB.mono hB3.size)
        have hxrow4 := hxrow3.below hB hxrow3.lt
        have hyrow4 := hyrow.below hB hyrow.lt
        have hra4 := hra3.below hB
        have hcap := hrow3.le
        have hbl : (a ++ List.replicate (24 - a.length) (0 : UInt8)).length = 24 := by simp; omega
        have t3 := hrow3.rd.take a.length (by omega)
        rw [List.take_left] at t3
        have c1 := fun nq => conv_text (w4.drewN nq) (some ⟨g3, 0, none⟩) a.length cap3 a rfl (t3.drewN nq)
        have c2 := fun nq => conv_text (w4.drewN nq) A a.length c a rfl (hra4.drewN nq)
        clear hxrow3 hyrow hra3 hB hrow3 t3 hxst hbody
        generalize makeB p a = x at *
        generalize makeB q b = y at *
        have HT := Hidden.mk hxt
        have HY := Hidden.mk hyt
        have HN := Hidden.mk hyne
        have H0 := Hidden.mk hx0
        clear hxt hyt hyne hx0
        go_wp2_with fail
        go_quiet (fail)
        have hB5 := below_drewN hB4 nq
        have hx5 : Row (w4.drewN nq) 5 gx 32 x := hxrow4
        have hy5 : Row (w4.drewN nq) 5 gy 32 y := hyrow4
        have hgy5 : w.heap.size ≤ gy := Nat.le_trans hB2.size hgy
        clear c1 c2 hra4 hB4 hxrow4 hyrow4 hgy
        generalize w4.drewN nq = w5 at hB5 hx5 hy5 ⊢
        go_wp2_with fail
        go_loopw [15, 19] (fun v i wr => ∃ k : Nat, k ≤ 2 ∧ i = .int .i64 k ∧ Below w.heap.size w wr ∧ Row wr 5 gx 32 x ∧ ∃ gy y, v = .slice (some ⟨gy, 0, none⟩) 32 32 ∧ w.heap.size ≤ gy ∧ Row wr 5 gy 32 y ∧ y.length = 32 ∧
          Hidden (y.take 4 = y.drop 28) ∧ Hidden (x.take 4 ≠ y.take 4)) (fun _ i _ => 2 - (intOf i).toNat)
        case atStart => exact ⟨0, by omega, rfl, hB5, hx5, gy, y, rfl, hgy5, hy5, hyl, HY, HN⟩
        case round =>
          clear hB5 hx5 hy5 hgy5 hyl HY HN
          obtain ⟨k, hk, rfl, hB5, hx5, gy, y, rfl, hgy5, hy5, hyl, HY, HN⟩ := hrel
          have hk3 : k = 0 ∨ k = 1 ∨ k = 2 := by omega
          clear hk
          rcases hk3 with rfl | rfl | rfl
          rotate_right
          · go_wp2_with fail
            go_ret
            exact ⟨rfl, hB5⟩
          · go_wp2_with fail
            by_cases hcut : cut < 0 ∨ 32 < cut
            · refine (mix_e1 _ _ _ _ _ _ hcut).mono ?_
              rintro e w6 ⟨rfl, rfl⟩
              rcases hcut with h | h
              · go_wp2_with fail
                go_ret
                exact ⟨ret_bool (by simp), hB5⟩
              · go_wp2_with fail
                go_ret
                exact ⟨ret_bool (by simp), hB5⟩
            · obtain ⟨kc, rfl⟩ := Int.eq_ofNat_of_zero_le (show 0 ≤ cut by omega)
              have hk32 : kc ≤ 32 := by omega
              clear hcut
              refine (mix_ok _ _ _ _ x y kc _ hxl hyl (by omega) (by omega) hx5.rd hy5.rd (by omega) (by omega)).mono ?_
              rintro e w6 ⟨gz, zc, rfl, hgz, hzrow, hB⟩
              rw [Int.toNat_natCast] at hzrow
              have hB6 : Below w.heap.size w w6 := hB5.trans (hB.mono hB5.size)
              have hx6 := hx5.below hB hx5.lt
              have hy6 := hy5.below hB hy5.lt
              have hwhole := mix_whole x y kc hxl HT.out HY.out HN.out hk32
              have hzl : (x.take kc ++ y.drop kc).length = 32 := by simp; omega
              have hzc := hzrow.le
              clear hx5 hy5 hB hB5
              generalize x.take kc ++ y.drop kc = z at *
              by_cases ht : z.take 4 = z.drop 28
              · have hzz := hwhole ht
                clear hwhole
                by_cases h0 : stampOf z = 0
                · clear hzz
                  go_wp2_with fail
                  refine (open_e5 _ _ z _ hzl (by omega) hzrow.rd ht h0).mono ?_
                  rintro e w7 ⟨rfl, nn, rfl⟩
                  clear ht h0
                  go_wp2_with fail
                  go_roundw
                  case rel => exact ⟨1, by omega, rfl, below_drewN hB6 nn, hx6, gy, y, rfl, hgy5, hy6, hyl, HY, HN⟩
                  case measure => simp [intOf]
                · have hyx : (y == x) = false := by
                    rw [beq_eq_false_iff_ne]; intro h; exact HN.out (by rw [h])
                  go_wp2_with fail
                  refine (open_ok _ _ z _ hzl (by omega) hzrow.rd ht h0).mono ?_
                  rintro e w7 ⟨g7, c7, rfl, hg7, hrow7, hB⟩
                  have hB7 : Below w.heap.size w w7 := hB6.trans (hB.mono hB6.size)
                  have hx7 := hx6.below hB hx6.lt
                  have hy7 := hy6.below hB hy6.lt
                  have hz7 := hzrow.below hB hzrow.lt
                  clear hrow7 hB hx6 hy6 hzrow hB6 ht h0
                  rcases hzz with rfl | rfl
                  · have c1 := conv_text w7 (some ⟨gz, 0, none⟩) 32 zc z hzl hz7.rd
                    have c2 := conv_text w7 (some ⟨gx, 0, none⟩) 32 32 z hxl hx7.rd
                    go_wp2_with fail
                    go_roundw
                    case rel => exact ⟨1, by omega, rfl, hB7, hx7, gy, y, rfl, hgy5, hy7, hyl, HY, HN⟩
                    case measure => simp [intOf]
                  · have c1 := conv_text w7 (some ⟨gz, 0, none⟩) 32 zc z hzl hz7.rd
                    have c2 := conv_text w7 (some ⟨gx, 0, none⟩) 32 32 x hxl hx7.rd
                    have c3 := conv_text w7 (some ⟨gy, 0, none⟩) 32 32 z hyl hy7.rd
                    go_wp2_with fail
                    go_roundw
                    case rel => exact ⟨1, by omega, rfl, hB7, hx7, gy, z, rfl, hgy5, hy7, hyl, HY, HN⟩
                    case measure => simp [intOf]
              · clear hwhole
                go_wp2_with fail
                refine (open_e6 _ _ z _ hzl (by omega) hzrow.rd ht).mono ?_
                rintro e w7 ⟨rfl, nn, rfl⟩
                clear ht
                go_wp2_with fail
                go_roundw
                case rel => exact ⟨1, by omega, rfl, below_drewN hB6 nn, hx6, gy, y, rfl, hgy5, hy6, hyl, HY, HN⟩
                case measure => simp [intOf]
          · have hmk := mk_bytes 32 32 rfl (by omega) wr
            have hz := row_zeros wr 32 (by simp [maxLen])
            have hzl : (List.replicate 32 (0 : UInt8)).length = 32 := by decide
            have hz4 : Hidden ((List.replicate 32 (0 : UInt8)).take 4 = (List.replicate 32 (0 : UInt8)).drop 28) := ⟨by decide⟩
            have hx6 := hx5.below (B := wr.heap.size) ((Below.refl _ _).alloc (Nat.le_refl _) (.cells (zeroRow 32) 5)) hx5.lt
            have hB6 := hB5.alloc hB5.size (.cells (zeroRow 32) 5)
            have hgy6 := hB5.size
            go_wp2_with fail
            clear hx5 hy5 hB5 hyl HY HN hgy5 hmk
            generalize wr.alloc (.cells (zeroRow 32) 5) = w5 at *
            generalize wr.heap.size = gy at *
            have HN := H0
            clear H0
            generalize List.replicate 32 (0 : UInt8) = y at *
            have HY := hz4
            have hyl := hzl
            have hx5 := hx6
            have hy5 := hz
            have hB5 := hB6
            have hgy5 := hgy6
            clear hz4 hzl hx6 hz hB6 hgy6
            by_cases hcut : cut < 0 ∨ 32 < cut
            · refine (mix_e1 _ _ _ _ _ _ hcut).mono ?_
              rintro e w6 ⟨rfl, rfl⟩
              rcases hcut with h | h
              · go_wp2_with fail
                go_ret
                exact ⟨ret_bool (by simp), hB5⟩
              · go_wp2_with fail
                go_ret
                exact ⟨ret_bool (by simp), hB5⟩
            · obtain ⟨kc, rfl⟩ := Int.eq_ofNat_of_zero_le (show 0 ≤ cut by omega)
              have hk32 : kc ≤ 32 := by omega
              clear hcut
              refine (mix_ok _ _ _ _ x y kc _ hxl hyl (by omega) (by omega) hx5.rd hy5.rd (by omega) (by omega)).mono ?_
              rintro e w6 ⟨gz, zc, rfl, hgz, hzrow, hB⟩
              rw [Int.toNat_natCast] at hzrow
              have hB6 : Below w.heap.size w w6 := hB5.trans (hB.mono hB5.size)
              have hx6 := hx5.below hB hx5.lt
              have hy6 := hy5.below hB hy5.lt
              have hwhole := mix_whole x y kc hxl HT.out HY.out HN.out hk32
              have hzl : (x.take kc ++ y.drop kc).length = 32 := by simp; omega
              have hzc := hzrow.le
              clear hx5 hy5 hB hB5
              generalize x.take kc ++ y.drop kc = z at *
              by_cases ht : z.take 4 = z.drop 28
              · have hzz := hwhole ht
                clear hwhole
                by_cases h0 : stampOf z = 0
                · clear hzz
                  go_wp2_with fail
                  refine (open_e5 _ _ z _ hzl (by omega) hzrow.rd ht h0).mono ?_
                  rintro e w7 ⟨rfl, nn, rfl⟩
                  clear ht h0
                  go_wp2_with fail
                  go_roundw
                  case rel => exact ⟨2, by omega, rfl, below_drewN hB6 nn, hx6, gy, y, rfl, hgy5, hy6, hyl, HY, HN⟩
                  case measure => simp [intOf]
                · have hyx : (y == x) = false := by
                    rw [beq_eq_false_iff_ne]; intro h; exact HN.out (by rw [h])
                  go_wp2_with fail
                  refine (open_ok _ _ z _ hzl (by omega) hzrow.rd ht h0).mono ?_
                  rintro e w7 ⟨g7, c7, rfl, hg7, hrow7, hB⟩
                  have hB7 : Below w.heap.size w w7 := hB6.trans (hB.mono hB6.size)
                  have hx7 := hx6.below hB hx6.lt
                  have hy7 := hy6.below hB hy6.lt
                  have hz7 := hzrow.below hB hzrow.lt
                  clear hrow7 hB hx6 hy6 hzrow hB6 ht h0
                  rcases hzz with rfl | rfl
                  · have c1 := conv_text w7 (some ⟨gz, 0, none⟩) 32 zc z hzl hz7.rd
                    have c2 := conv_text w7 (some ⟨gx, 0, none⟩) 32 32 z hxl hx7.rd
                    go_wp2_with fail
                    go_roundw
                    case rel => exact ⟨2, by omega, rfl, hB7, hx7, gy, y, rfl, hgy5, hy7, hyl, HY, HN⟩
                    case measure => simp [intOf]
                  · have c1 := conv_text w7 (some ⟨gz, 0, none⟩) 32 zc z hzl hz7.rd
                    have c2 := conv_text w7 (some ⟨gx, 0, none⟩) 32 32 x hxl hx7.rd
                    have c3 := conv_text w7 (some ⟨gy, 0, none⟩) 32 32 z hyl hy7.rd
                    go_wp2_with fail
                    go_roundw
                    case rel => exact ⟨2, by omega, rfl, hB7, hx7, gy, z, rfl, hgy5, hy7, hyl, HY, HN⟩
                    case measure => simp [intOf]
              · clear hwhole
                go_wp2_with fail
                refine (open_e6 _ _ z _ hzl (by omega) hzrow.rd ht).mono ?_
                rintro e w7 ⟨rfl, nn, rfl⟩
                clear ht
                go_wp2_with fail
                go_roundw
                case rel => exact ⟨2, by omega, rfl, below_drewN hB6 nn, hx6, gy, y, rfl, hgy5, hy6, hyl, HY, HN⟩
                case measure => simp [intOf]
    · go_wp2_with fail
      refine (make_no m _ _ _ _ hm).mono ?_
      rintro e w3 ⟨k, rfl, rfl⟩
      clear hm
      go_wp2_with fail
      go_ret
      exact ⟨rfl, hB2⟩
  · refine (make_no n _ _ _ _ hn).mono ?_
    rintro e w2 ⟨k, rfl, rfl⟩
    clear hn
    go_wp2_with fail
    refine (make_any m _ _ _ b _ rfl hrb1).mono ?_
    rintro e w3 ⟨v1, v2, rfl, hB⟩
    have hB3 : Below w.heap.size w w3 := hB1.trans (hB.mono hB1.size)
    go_wp2_with fail
    go_ret
    exact ⟨rfl, hB3⟩
end Go.Proofs.Ytpffnfggekomhaa
