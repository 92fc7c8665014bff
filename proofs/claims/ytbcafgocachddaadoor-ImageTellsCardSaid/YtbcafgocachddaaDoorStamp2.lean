/- The contracts of stamp.Open and vaultref1.Zero. -/
import Derived.Test.YtbcafgocachddaaDoorStamp1
namespace Go.Proofs.YtbcafgocachddaaDoor
open Go.RowKit

def stampOf (l : Bytes) : Nat := ofB (l.take 4)
def bodyOf (l : Bytes) : Bytes := (l.drop 4).take 24
/-- vaultref1.Zero: are all bytes 0? -/
theorem zero_any (A : Option Addr) (n c : Nat) (l : Bytes) (w : World) (hn : l.length = n) (hl : n ≤ maxLen) (hr : Rd w A l) :
    Calls Tryd.prog 76 #[.slice A n c] w fun e w' => e = .returned (.bool (!l.any nonZero)) ∧ w = w' := by
  subst hn
  unfold maxLen at hl
  go_enter Tryd.func76, Tryd.ntmps76
  go_wp2
  go_loop [3] (fun i => ∃ k : Nat, k ≤ l.length ∧ i = .int .i64 k ∧ Hidden (∀ x ∈ l.take k, nonZero x = false)) (fun i => l.length - (intOf i).toNat)
  case atStart => exact ⟨0, Nat.zero_le _, rfl, ⟨by simp⟩⟩
  case round =>
    obtain ⟨k, hk, rfl, hnot⟩ := hrel
    by_cases hlt : k < l.length
    · obtain ⟨b, off, rfl, hc⟩ := hr k hlt
      have hb := bv_bne l[k]
      cases hz : nonZero l[k] with
      | true =>
        rw [hz] at hb
        have hv : Hidden (false = !l.any nonZero) := ⟨by rw [List.any_eq_true.2 ⟨l[k], List.getElem_mem hlt, hz⟩]; rfl⟩
        clear hz
        go_wp2
        go_ret
        exact ⟨ret_bool hv.out, rfl⟩
      | false =>
        rw [hz] at hb
        have hnk : Hidden (∀ x ∈ l.take (k + 1), nonZero x = false) := ⟨forall_take_succ hlt hnot.out hz⟩
        clear hz hnot
        go_wp2
        go_round
        case rel => exact ⟨k + 1, by omega, by go_num, hnk⟩
        case measure => simp [intOf]; omega
    · have hv : Hidden (true = !l.any nonZero) := ⟨by
        have := hnot.out
        rw [List.take_of_length_le (by omega)] at this
        symm; simpa using this⟩
      go_wp2
      go_ret
      exact ⟨ret_bool hv.out, rfl⟩
end Go.Proofs.YtbcafgocachddaaDoor
