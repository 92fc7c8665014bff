/- The contracts of stamp.Open and vaultref1.Zero. -/
import Derived.Test.YtjganhikmkhmpaaDoorStamp1
namespace Go.Proofs.YtjganhikmkhmpaaDoor
open Go.RowKit

theorem open_e3 (A : Option Addr) (n c : Nat) (w : World) (h : n ≠ 32) :
    Calls Tryd.prog 16 #[.slice A n c] w fun e w' => e = .returned (.tuple #[.int .i64 0, .slice none 0 0, .iface 135 (.int .i64 3)]) ∧ w = w' := by
  have h' : ((n : Int) != 32) = true := by simp; omega
  clear h
  go_enter Tryd.func16, Tryd.ntmps16
  go_wp2
  go_ret3
  exact ⟨rfl, rfl⟩
def stampOf (l : Bytes) : Nat := ofB (l.take 4)
def bodyOf (l : Bytes) : Bytes := (l.drop 4).take 24
theorem open_e6 (A : Option Addr) (c : Nat) (l : Bytes) (w : World) (hl : l.length = 32) (hc : 32 ≤ c) (hr : Rd w A l) (hne : l.take 4 ≠ l.drop 28) :
    Calls Tryd.prog 16 #[.slice A 32 c] w fun e w' => e = .returned (.tuple #[.int .i64 0, .slice none 0 0, .iface 135 (.int .i64 6)]) ∧ ∃ n, w' = w.drewN n := by
  have hr1 := hr.take 4 (by omega)
  have hr2 := hr.cut 28 4 (by omega)
  rw [List.take_of_length_le (by simp; omega)] at hr2
  have hb : (l.take 4 == l.drop 28) = false := by simpa using hne
  have HB := Hidden.mk hb
  clear hb hne
  go_enter Tryd.func16, Tryd.ntmps16
  go_wp2_with fail
  go_quiet (fail)
  go_wp2_with fail
  refine (of_any _ _ _ (l.take 4) _ (by simp; omega) (by omega) (hr1.drewN _)).mono ?_
  rintro e w1 ⟨rfl, rfl⟩
  go_wp2_with fail
  refine (equal_any _ _ _ _ _ _ (l.take 4) (l.drop 28) _ (by simp; omega) (by simp; omega) (hr1.drewN _) (hr2.drewN _)).mono ?_
  rintro e w1 ⟨rfl, rfl⟩
  rw [HB.out]
  go_wp2_with fail
  go_ret3
  exact ⟨rfl, _, rfl⟩
theorem open_e5 (A : Option Addr) (c : Nat) (l : Bytes) (w : World) (hl : l.length = 32) (hc : 32 ≤ c) (hr : Rd w A l) (he : l.take 4 = l.drop 28) (h0 : stampOf l = 0) :
    Calls Tryd.prog 16 #[.slice A 32 c] w fun e w' => e = .returned (.tuple #[.int .i64 0, .slice none 0 0, .iface 135 (.int .i64 5)]) ∧ ∃ n, w' = w.drewN n := by
  have hr1 := hr.take 4 (by omega)
  have hr2 := hr.cut 28 4 (by omega)
  rw [List.take_of_length_le (by simp; omega)] at hr2
  have hb : (l.take 4 == l.drop 28) = true := by simpa using he
  have HB := Hidden.mk hb
  have H0 := Hidden.mk h0
  clear hb he h0
  go_enter Tryd.func16, Tryd.ntmps16
  go_wp2_with fail
  go_quiet (fail)
  go_wp2_with fail
  refine (of_any _ _ _ (l.take 4) _ (by simp; omega) (by omega) (hr1.drewN _)).mono ?_
  rintro e w1 ⟨rfl, rfl⟩
  rw [show ofB (l.take 4) = 0 from H0.out]
  go_wp2_with fail
  refine (equal_any _ _ _ _ _ _ (l.take 4) (l.drop 28) _ (by simp; omega) (by simp; omega) (hr1.drewN _) (hr2.drewN _)).mono ?_
  rintro e w1 ⟨rfl, rfl⟩
  rw [HB.out]
  go_wp2_with fail
  go_ret3
  exact ⟨rfl, _, rfl⟩
theorem open_ok (A : Option Addr) (c : Nat) (l : Bytes) (w : World) (hl : l.length = 32) (hc : 32 ≤ c) (hr : Rd w A l) (he : l.take 4 = l.drop 28) (h0 : stampOf l ≠ 0) :
    Calls Tryd.prog 16 #[.slice A 32 c] w fun e w' => ∃ g cap, e = .returned (.tuple #[.int .i64 (stampOf l), .slice (some ⟨g, 0, none⟩) 24 cap, .nilIface]) ∧
      w.heap.size ≤ g ∧ Row w' 5 g cap (bodyOf l) ∧ Below w.heap.size w w' := by
  have hr1 := hr.take 4 (by omega)
  have hr2 := hr.cut 28 4 (by omega)
  have hr3 := hr.cut 4 24 (by omega)
  rw [List.take_of_length_le (by simp; omega)] at hr2
  obtain ⟨p, off, rfl, _⟩ := hr.lt (by omega)
  have hb : (l.take 4 == l.drop 28) = true := by simpa using he
  have HB := Hidden.mk hb
  have h0' : ((stampOf l : Int) == 0) = false := by simp; omega
  clear hb he h0
  go_enter Tryd.func16, Tryd.ntmps16
  go_wp2_with fail
  go_quiet (fail)
  go_wp2_with fail
  refine (of_any _ _ _ (l.take 4) _ (by simp; omega) (by omega) (hr1.drewN _)).mono ?_
  rintro e w1 ⟨rfl, rfl⟩
  rw [show ofB (l.take 4) = stampOf l from rfl]
  go_wp2_with fail
  refine (equal_any _ _ _ _ _ _ (l.take 4) (l.drop 28) _ (by simp; omega) (by simp; omega) (hr1.drewN _) (hr2.drewN _)).mono ?_
  rintro e w1 ⟨rfl, rfl⟩
  rw [HB.out]
  go_wp2_with fail
  refine (clone_some _ 24 _ (bodyOf l) _ (by simp [bodyOf]; omega) (by omega) (hr3.drewN _)).mono ?_
  rintro e w1 ⟨g, cap, rfl, hg, hrow, hb⟩
  go_wp2_with fail
  go_ret3
  exact ⟨g, cap, rfl, hg, hrow, (below_drewN (Below.refl _ _) _).trans hb⟩

/-- vaultref1.Zero: are all bytes 0? -/
theorem zero_any (A : Option Addr) (n c : Nat) (l : Bytes) (w : World) (hn : l.length = n) (hl : n ≤ maxLen) (hr : Rd w A l) :
    Calls Tryd.prog 105 #[.slice A n c] w fun e w' => e = .returned (.bool (!l.any nonZero)) ∧ w = w' := by
  subst hn
  unfold maxLen at hl
  go_enter Tryd.func105, Tryd.ntmps105
  go_wp2
  go_loop [3] (fun i => ∃ k : Nat, k ≤ l.length ∧ i = .int .i64 k ∧ Hidden (∀ x ∈ l.take k, nonZero x = false)) (fun i => l.length - (intOf i).toNat)
  case atStart => exact ⟨0, Nat.zero_le _, rfl, ⟨by simp⟩⟩
  case round =>
    obtain ⟨k, hk, rfl, hnot⟩ := hrel
    by_cases hlt : k < l.length
    · obtain ⟨b, off, rfl, hc⟩ := hr k hlt
      have hb := bv_bne l[k]
      cases hz : nonZero l[k] with
      | true =>
        rw [hz] at hb
        have hv : Hidden (false = !l.any nonZero) := ⟨by rw [List.any_eq_true.2 ⟨l[k], List.getElem_mem hlt, hz⟩]; rfl⟩
        clear hz
        go_wp2
        go_ret
        exact ⟨ret_bool hv.out, rfl⟩
      | false =>
        rw [hz] at hb
        have hnk : Hidden (∀ x ∈ l.take (k + 1), nonZero x = false) := ⟨forall_take_succ hlt hnot.out hz⟩
        clear hz hnot
        go_wp2
        go_round
        case rel => exact ⟨k + 1, by omega, by go_num, hnk⟩
        case measure => simp [intOf]; omega
    · have hv : Hidden (true = !l.any nonZero) := ⟨by
        have := hnot.out
        rw [List.take_of_length_le (by omega)] at this
        symm; simpa using this⟩
      go_wp2
      go_ret
      exact ⟨ret_bool hv.out, rfl⟩
end Go.Proofs.YtjganhikmkhmpaaDoor
