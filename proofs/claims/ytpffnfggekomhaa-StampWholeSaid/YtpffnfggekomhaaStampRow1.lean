/- StampRow: the walk. -/
import Derived.Test.YtpffnfggekomhaaStamp2
import Derived.Test.YtpffnfggekomhaaNumLow1
import Derived.Test.YtpffnfggekomhaaNumBack1
namespace Go.Proofs.Ytpffnfggekomhaa
open Go.RowKit

theorem ofB_numB4 (n : Nat) (h : n ≤ 4294967295) : ofB (numB n 4) = n := by rw [ofB_numB]; exact Nat.mod_eq_of_lt (by omega)
theorem numB4_inj {n m : Nat} (hn : n ≤ 4294967295) (hm : m ≤ 4294967295) (h : numB n 4 = numB m 4) : n = m := by
  rw [← ofB_numB4 n hn, ← ofB_numB4 m hm, h]
theorem makeB_take (n : Nat) (b : Bytes) : (makeB n b).take 4 = numB n 4 := by
  unfold makeB
  rw [List.append_assoc, List.take_append_of_le_length (by rw [numB_length]; omega), List.take_of_length_le (by rw [numB_length]; omega)]
theorem makeB_drop (n : Nat) (b : Bytes) (h : b.length ≤ 24) : (makeB n b).drop 28 = numB n 4 := by
  unfold makeB
  have hl : (numB n 4 ++ (b ++ List.replicate (24 - b.length) 0)).length = 28 := by simp [numB_length]; omega
  rw [List.drop_append_of_le_length (by omega), List.drop_of_length_le (by omega), List.nil_append]
theorem makeB_body (n : Nat) (b : Bytes) (h : b.length ≤ 24) : bodyOf (makeB n b) = b ++ List.replicate (24 - b.length) 0 := by
  unfold bodyOf makeB
  rw [List.append_assoc, List.drop_append_of_le_length (by rw [numB_length]; omega), List.drop_of_length_le (by rw [numB_length]; omega), List.nil_append,
    List.take_append_of_le_length (by simp; omega), List.take_of_length_le (by simp; omega)]
theorem makeB_stamp (n : Nat) (b : Bytes) (hn : n ≤ 4294967295) : stampOf (makeB n b) = n := by unfold stampOf; rw [makeB_take, ofB_numB4 n hn]
theorem makeB_eq (n m : Nat) (b : Bytes) (hn : n ≤ 4294967295) (hm : m ≤ 4294967295) : (makeB n b == makeB m b) = ((n : Int) == (m : Int)) := by
  rw [Bool.eq_iff_iff, beq_iff_eq, beq_iff_eq]
  constructor
  · intro h
    have : numB n 4 = numB m 4 := by rw [← makeB_take n b, h, makeB_take]
    have := numB4_inj hn hm this
    omega
  · intro h
    have : n = m := by omega
    rw [this]

set_option maxRecDepth 100000 in
theorem stampRow_walk (n m : Int) (A : Option Addr) (c : Nat) (b : Bytes) (w : World) (hl : b.length ≤ 140737488351232) (hr : Rd w A b) :
    Calls Try.prog 5 #[.int .i64 n, .int .i64 m, .slice A b.length c] w fun e w' => e = .returned (.bool true) ∧ Below w.heap.size w w' := by
  by_cases hn : 1 ≤ n ∧ n ≤ 4294967295
  · obtain ⟨hn1, hn2⟩ := hn
    by_cases hb : b.length ≤ 24
    · obtain ⟨x, rfl⟩ := Int.eq_ofNat_of_zero_le (show 0 ≤ n by omega)
      have hxl := makeB_len x b hb
      go_enter Try.func5, Try.ntmps5
      go_wp2_with fail
      refine (make_ok _ _ _ _ b _ rfl hn1 hn2 hb hr).mono ?_
      rintro e w1 ⟨g, rfl, hg, hrow, hB1⟩
      rw [Int.toNat_natCast] at hrow
      have hr1 := hr.below hB1
      have ht : (makeB x b).take 4 = (makeB x b).drop 28 := by rw [makeB_take, makeB_drop x b hb]
      have hst := makeB_stamp x b (by omega)
      have hbody := makeB_body x b hb
      have hbl : (b ++ List.replicate (24 - b.length) (0 : UInt8)).length = 24 := by simp; omega
      have hzz : Hidden ((!(List.replicate (24 - b.length) (0 : UInt8)).any nonZero) = true) := ⟨by simp [nonZero]⟩
      by_cases hm : 1 ≤ m ∧ m ≤ 4294967295
      · obtain ⟨hm1, hm2⟩ := hm
        obtain ⟨y, rfl⟩ := Int.eq_ofNat_of_zero_le (show 0 ≤ m by omega)
        have hyl := makeB_len y b hb
        have hxy := Hidden.mk (makeB_eq x y b (by omega) (by omega))
        go_wp2_with fail
        refine (make_ok _ _ _ _ b _ rfl hm1 hm2 hb hr1).mono ?_
        rintro e w2 ⟨g2, rfl, hg2, hrow2, hB2⟩
        rw [Int.toNat_natCast] at hrow2
        have hrx := hrow.below hB2 hrow.lt
        have hBB2 : Below w.heap.size w w2 := hB1.trans (hB2.mono hB1.size)
        go_wp2_with fail
        refine (open_ok _ _ (makeB x b) _ hxl (by omega) hrx.rd ht (by omega)).mono ?_
        rintro e w3 ⟨g3, cap3, rfl, hg3, hrow3, hB3⟩
        rw [hst, hbody] at *
        have hBB3 : Below w.heap.size w w3 := hBB2.trans (hB3.mono hBB2.size)
        have hr3 := hr.below hBB3
        have hx3 := (hrx.below hB3 hrx.lt).rd
        have hy3 := (hrow2.below hB3 hrow2.lt).rd
        have hcap := hrow3.le
        have t3 := hrow3.rd.take b.length (by omega)
        rw [List.take_left] at t3
        have c1 := fun nq => conv_text (w3.drewN nq) (some ⟨g3, 0, none⟩) b.length cap3 b rfl (t3.drewN nq)
        have c2 := fun nq => conv_text (w3.drewN nq) A b.length c b rfl (hr3.drewN nq)
        have c3 := fun nq => conv_text (w3.drewN nq) (some ⟨g, 0, none⟩) 32 32 (makeB x b) hxl (hx3.drewN nq)
        have c4 := fun nq => conv_text (w3.drewN nq) (some ⟨g2, 0, none⟩) 32 32 (makeB y b) hyl (hy3.drewN nq)
        clear hrow hrx hrow2 hst hbody ht
        go_wp2_with fail
        go_quiet (fail)
        have Rz := hrow3.rd.tail b.length cap3 (by omega) (by omega)
        rw [List.drop_left] at Rz
        have HR := Hidden.mk Rz
        clear Rz
        go_wp2_with fail
        all_goals
          have Rz := HR.out
          first | rw [if_pos (by assumption)] at Rz | rw [if_neg (by assumption), Option.map_some, Addr.add_lit, Nat.zero_add] at Rz
          refine (zero_any _ _ _ (List.replicate (24 - b.length) 0) _ (by simp) (by simp only [maxLen]; omega) (Rz.drewN _)).mono ?_
          rintro e w4 ⟨rfl, rfl⟩
          rw [hzz.out]
          clear Rz
          go_wp2_with fail
          go_ret
          exact ⟨ret_bool (by rw [hxy.out]; simp), below_drewN hBB3 _⟩
      · have hm' : m < 1 ∨ 4294967295 < m := by omega
        clear hm
        go_wp2_with fail
        refine (make_e1 _ _ _ _ _ hm').mono ?_
        rintro e w2 ⟨rfl, rfl⟩
        clear hm'
        go_wp2_with fail
        refine (open_ok _ _ (makeB x b) _ hxl (by omega) hrow.rd ht (by omega)).mono ?_
        rintro e w3 ⟨g3, cap3, rfl, hg3, hrow3, hB3⟩
        rw [hst, hbody] at *
        have hBB3 : Below w.heap.size w w3 := hB1.trans (hB3.mono hB1.size)
        have hr3 := hr.below hBB3
        have hcap := hrow3.le
        have t3 := hrow3.rd.take b.length (by omega)
        rw [List.take_left] at t3
        have c1 := fun nq => conv_text (w3.drewN nq) (some ⟨g3, 0, none⟩) b.length cap3 b rfl (t3.drewN nq)
        have c2 := fun nq => conv_text (w3.drewN nq) A b.length c b rfl (hr3.drewN nq)
        clear hrow hst hbody ht
        go_wp2_with fail
        go_quiet (fail)
        have Rz := hrow3.rd.tail b.length cap3 (by omega) (by omega)
        rw [List.drop_left] at Rz
        have HR := Hidden.mk Rz
        clear Rz
        go_wp2_with fail
        all_goals
          have Rz := HR.out
          first | rw [if_pos (by assumption)] at Rz | rw [if_neg (by assumption), Option.map_some, Addr.add_lit, Nat.zero_add] at Rz
          refine (zero_any _ _ _ (List.replicate (24 - b.length) 0) _ (by simp) (by simp only [maxLen]; omega) (Rz.drewN _)).mono ?_
          rintro e w4 ⟨rfl, rfl⟩
          rw [hzz.out]
          clear Rz
          go_wp2_with fail
          go_ret
          exact ⟨rfl, below_drewN hBB3 _⟩
    · have hb' : 24 < b.length := by omega
      go_enter Try.func5, Try.ntmps5
      go_wp2_with fail
      refine (make_e4 _ _ _ _ _ hn1 hn2 hb').mono ?_
      rintro e w1 ⟨rfl, rfl⟩
      go_wp2_with fail
      go_ret
      exact ⟨ret_bool (by simp; omega), Below.refl _ _⟩
  · have hn' : n < 1 ∨ 4294967295 < n := by omega
    clear hn
    rcases hn' with h1 | h1
    · go_enter Try.func5, Try.ntmps5
      go_wp2_with fail
      refine (make_e1 _ _ _ _ _ (.inl h1)).mono ?_
      rintro e w1 ⟨rfl, rfl⟩
      go_wp2_with fail
      go_ret
      exact ⟨rfl, Below.refl _ _⟩
    · go_enter Try.func5, Try.ntmps5
      go_wp2_with fail
      refine (make_e1 _ _ _ _ _ (.inr h1)).mono ?_
      rintro e w1 ⟨rfl, rfl⟩
      go_wp2_with fail
      go_ret
      exact ⟨rfl, Below.refl _ _⟩
end Go.Proofs.Ytpffnfggekomhaa
