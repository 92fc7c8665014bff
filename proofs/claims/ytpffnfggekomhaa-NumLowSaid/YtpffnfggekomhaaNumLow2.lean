/- NumLow: the walk. -/
import Derived.Test.YtpffnfggekomhaaNumLow1
namespace Go.Proofs.Ytpffnfggekomhaa
open Go.RowKit

/-- the law's first lines: three bytes, the middle one put -/
theorem nine_row (w : World) : Row (w.alloc (.cells #[.int .u8 9, .int .u8 9, .int .u8 9] 5)) 5 w.heap.size 3 [9, 9, 9] :=
  ⟨_, heap_alloc_new w _, by simp, by simp [maxLen], by simp, rfl⟩
theorem nine_put : putB [9, 9, 9] 1 7 1 = [9, 7, 9] := by decide

theorem numLow_walk (A : Option Addr) (c : Nat) (l : Bytes) (n at_ other size : Int) (w : World) (hl : l.length ≤ 140737488351232) (hr : Rd w A l) :
    Calls Try.prog 4 #[.slice A l.length c, .int .i64 n, .int .i64 at_, .int .i64 other, .int .i64 size] w fun e w' => e = .returned (.bool true) ∧ Below w.heap.size w w' := by
  go_enter Try.func4, Try.ntmps4
  go_wp2_with fail
  refine (put_ok _ _ _ [9, 9, 9] 1 7 1 _ rfl (by simp) (nine_row w).rd (by omega) (by omega) (by omega) (by simp [mostN]) (by omega) (by simp)).mono ?_
  rintro e w1 ⟨g, cap, rfl, hg, hrow, hb⟩
  rw [nine_put] at hrow
  have h0 := hrow.cell 0 (by simp)
  have h1 := hrow.cell 1 (by simp)
  have h2 := hrow.cell 2 (by simp)
  go_wp2_with fail
  have hB1 : Below w.heap.size w w1 := ((Below.refl _ _).alloc (Nat.le_refl _) _).trans (hb.mono (by simp))
  have hr1 : Rd w1 A l := hr.below hB1
  clear hb hrow h0 h1 h2 hg
  by_cases hx : 1 ≤ size ∧ size ≤ 4 ∧ 0 ≤ n ∧ n ≤ mostN size
  · obtain ⟨hs1, hs4, hn0, hn⟩ := hx
    by_cases ha : at_ < 0 ∨ (l.length : Int) - size < at_
    · refine (put_e3 _ _ _ at_ n size _ (by simp only [maxLen]; omega) hs1 hs4 hn0 hn ha).mono ?_
      rintro e w2 ⟨rfl, rfl⟩
      go_wp2
      go_ret
      exact ⟨rfl, hB1⟩
    · refine (put_ok _ _ _ l at_ n size _ rfl hl hr1 hs1 hs4 hn0 hn (by omega) (by omega)).mono ?_
      rintro e w2 ⟨p, pc, rfl, hp, hprow, hpb⟩
      have hB2 : Below w.heap.size w w2 := hB1.trans (hpb.mono hB1.size)
      have hlen := putB_len' l at_ n size hs1 (by omega) (by omega)
      obtain ⟨a, rfl⟩ := Int.eq_ofNat_of_zero_le (show 0 ≤ at_ by omega)
      obtain ⟨s, rfl⟩ := Int.eq_ofNat_of_zero_le (show 0 ≤ size by omega)
      obtain ⟨x, rfl⟩ := Int.eq_ofNat_of_zero_le hn0
      have hpl := hprow.le
      have has : a + s ≤ l.length := by omega
      clear ha
      go_wp2_with fail
      go_loop [15] (fun i => ∃ k : Nat, 1 ≤ k ∧ k ≤ 5 ∧ i = .int .i64 k) (fun i => 5 - (intOf i).toNat)
      case atStart => exact ⟨1, by omega, by omega, rfl⟩
      case round =>
        obtain ⟨k, hk1, hk5, rfl⟩ := hrel
        by_cases hlt : k ≤ 4
        · by_cases hks : k < s
          · have hv := getN_putB l a x s k has (by omega)
            go_wp2_with fail
            refine (get_ok _ _ _ (putB l a x s) a k _ hlen (by omega) (by simp only [maxLen]; omega) hprow.rd (by omega) (by omega) (by omega) (by omega)).mono ?_
            rintro e w3 ⟨rfl, rfl⟩
            rw [hv]
            clear hv
            go_wp2_with fail
            refine (pow_int _ _ (by omega) (by omega)).mono ?_
            rintro e w3 ⟨rfl, rfl⟩
            rw [show (8 * (k : Int)).toNat = 8 * k from by omega]
            have hne : ¬ (2 : Int) ^ (8 * k) = 0 := Int.ne_of_gt (Int.pow_pos (by omega))
            go_wp2_with fail
            go_round
            case rel => exact ⟨k + 1, by omega, by omega, by go_num⟩
            case measure => simp [intOf]; omega
          · by_cases hfit : a + k ≤ l.length
            · go_wp2_with fail
              refine (get_ok _ _ _ (putB l a x s) a k _ hlen (by omega) (by simp only [maxLen]; omega) hprow.rd (by omega) (by omega) (by omega) (by omega)).mono ?_
              rintro e w3 ⟨rfl, rfl⟩
              go_wp2_with fail
              go_round
              case rel => exact ⟨k + 1, by omega, by omega, by go_num⟩
              case measure => simp [intOf]; omega
            · go_wp2_with fail
              refine (get_e3 _ _ _ a k _ (by simp only [maxLen]; omega) (by omega) (by omega) (by omega)).mono ?_
              rintro e w3 ⟨rfl, rfl⟩
              go_wp2_with fail
              go_round
              case rel => exact ⟨k + 1, by omega, by omega, by go_num⟩
              case measure => simp [intOf]; omega
        · go_wp2_with fail
          by_cases ho : other < 0 ∨ (l.length : Int) - 1 < other
          · refine (put_e3 _ _ _ other 0 1 _ (by simp only [maxLen]; omega) (by omega) (by omega) (by omega) (by simp [mostN]) ho).mono ?_
            rintro e w3 ⟨rfl, rfl⟩
            go_wp2
            go_ret
            exact ⟨rfl, hB2⟩
          · refine (put_ok _ _ _ (putB l a x s) other 0 1 _ hlen hl hprow.rd (by omega) (by omega) (by omega) (by simp [mostN]) (by omega) (by omega)).mono ?_
            rintro e w3 ⟨q, qc, rfl, hq, hqrow, hqb⟩
            have hB3 : Below w.heap.size w w3 := hB2.trans (hqb.mono hB2.size)
            obtain ⟨o, rfl⟩ := Int.eq_ofNat_of_zero_le (show 0 ≤ other by omega)
            have hol : o + 1 ≤ l.length := by omega
            clear ho
            by_cases hin : a ≤ o ∧ o < a + s
            · obtain ⟨hi1, hi2⟩ := hin
              go_wp2
              go_ret
              exact ⟨rfl, hB3⟩
            · have hlen2 := putB_len' (putB l a x s) o 0 1 (by omega) (by omega) (by omega)
              have hfar := getN_far (putB l a x s) a s o (by omega) (by omega)
              have hv := getN_putB l a x s s has (by omega)
              have hm := mod_most x s (by omega) (by omega) hn
              have hval : Hidden (getN (putB (putB l a x s) o 0 1) a s = x) := ⟨hfar.trans (hv.trans hm)⟩
              have hsame : (o : Int) ≤ sameL (putB l a x s) (putB (putB l a x s) o 0 1) := by
                have := sameL_put (putB l a x s) o (by omega)
                exact Int.ofNat_le.2 this
              have hprow3 := hprow.below hqb hprow.lt
              clear hfar hv hm
              go_wp2_with fail
              all_goals
                refine (get_ok _ _ _ (putB (putB l a x s) o 0 1) a s _ (hlen2.trans hlen) (by have := hqrow.le; omega) (by simp only [maxLen]; omega) hqrow.rd (by omega) (by omega) (by omega) (by omega)).mono ?_
                rintro e w4 ⟨rfl, rfl⟩
                rw [hval.out]
                go_wp2_with fail
                refine (same_any _ _ _ _ _ _ (putB l a x s) (putB (putB l a x s) o 0 1) _ hlen (hlen2.trans hlen) (by simp only [maxLen]; omega) hprow3.rd hqrow.rd).mono ?_
                rintro e w5 ⟨rfl, nn, rfl⟩
                go_wp2
                go_ret
                exact ⟨rfl, below_drewN hB3 nn⟩
  · refine (put_e1 _ _ _ at_ n size _ hx).mono ?_
    rintro e w2 ⟨rfl, rfl⟩
    go_wp2
    go_ret
    exact ⟨rfl, hB1⟩
end Go.Proofs.Ytpffnfggekomhaa
