/- The contracts of num.name, PutName, GetName. -/
import Derived.Test.YtmahnlkbbpbeoaaStr1
import Derived.Test.YtmahnlkbbpbeoaaMem
import Derived.Lib.ConvBytes
namespace Go.Proofs.Ytmahnlkbbpbeoaa
open Go.RowKit

def isName (l : Bytes) : Bool := !l.isEmpty && decide (l.length ≤ 8) && !l.any notLower

/-- a text as bytes: a new block -/
theorem conv_bytes (w : World) (l : Bytes) : ∃ cap W', (convert 9 22 (sv l)).run Try.prog w = .ok (.slice (some ⟨w.heap.size, 0, none⟩) l.length cap) W' ∧
    l.length ≤ cap ∧ Rd W' (some ⟨w.heap.size, 0, none⟩) l ∧ Below w.heap.size w W' := by
  refine ⟨_, _, Lib.run_convert_string_bytes w 9 22 5 ⟨l.toArray⟩ Try.underlying9 Try.underlying22 Try.underlying5, ?_, ?_, ?_⟩
  · exact grownCap_ge _ _ _ _
  · intro j hj
    refine ⟨_, 0, rfl, ?_⟩
    rw [Nat.zero_add, Lib.bytesWorld_cell w 5 ⟨l.toArray⟩ j hj]
    simp [hj]
  · exact ⟨rfl, rfl, rfl, by rw [Lib.bytesWorld_size]; omega, fun k hk => Lib.bytesWorld_at_old w _ ⟨l.toArray⟩ k hk⟩

set_option maxRecDepth 100000 in
theorem name_any (l : Bytes) (w : World) (hs : l.length ≤ 140737488351232) :
    Calls Try.prog 114 #[sv l] w fun e w' => e = .returned (.bool (isName l)) ∧ Below w.heap.size w w' := by
  by_cases h0 : l = []
  · subst h0
    go_enter Try.func114, Try.ntmps114
    go_wp2
    go_ret
    exact ⟨rfl, Below.refl _ _⟩
  · have h0' : l.isEmpty = false := by
      cases l with
      | nil => exact absurd rfl h0
      | cons a b => rfl
    clear h0
    by_cases h8 : (l.length : Int) ≤ 8
    · obtain ⟨cap, W1, hrun, hcap, hrd, hbel⟩ := conv_bytes w l
      have hv : Hidden ((!l.any notLower) = isName l) := ⟨by simp [isName, h0']; intros; omega⟩
      go_enter Try.func114, Try.ntmps114
      go_wp2_with fail
      refine (containsf_name _ _ _ l _ rfl (by simp only [maxLen]; omega) hrd).mono ?_
      rintro e w1 ⟨rfl, rfl⟩
      go_wp2
      go_ret
      exact ⟨ret_bool hv.out, hbel⟩
    · have hv : Hidden (false = isName l) := ⟨by simp [isName, h0']; intros; omega⟩
      go_enter Try.func114, Try.ntmps114
      go_wp2
      go_ret
      exact ⟨ret_bool hv.out, Below.refl _ _⟩

theorem splice_zeros (n : Nat) (l : Bytes) : splice (List.replicate n 0) 0 l = l ++ List.replicate (n - l.length) 0 := by
  simp only [splice, List.take_zero, List.nil_append, Nat.zero_add, List.drop_replicate]
/-- the bytes of a name: zeros behind it -/
def nameB (l : Bytes) : Bytes := l ++ List.replicate (8 - l.length) 0

end Go.Proofs.Ytmahnlkbbpbeoaa
