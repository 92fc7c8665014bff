/- NumBack: the walk. -/
import Derived.Test.YtibogmoemohngaaStr3
import Derived.Test.YtibogmoemohngaaNumLow1
namespace Go.Proofs.Ytibogmoemohngaa
open Go.RowKit

theorem two_row (w : World) : Row (w.alloc (.cells #[.int .u8 1, .int .u8 2] 5)) 5 w.heap.size 2 [1, 2] :=
  ⟨_, heap_alloc_new w _, by simp, by simp [maxLen], by simp, rfl⟩
theorem two_get : getN [1, 2] 0 2 = 513 := by decide
theorem putB_take (l : Bytes) (a x s : Nat) (h : a + s ≤ l.length) : (putB l a x s).take a = l.take a := by
  unfold putB splice
  simp only [Int.toNat_natCast]
  rw [List.take_append_of_le_length (by simp; omega), List.take_take, Nat.min_self]
theorem putB_drop (l : Bytes) (a x s : Nat) (h : a + s ≤ l.length) : (putB l a x s).drop (a + s) = l.drop (a + s) := by
  unfold putB splice
  simp only [Int.toNat_natCast, numB_length]
  rw [← List.append_assoc, List.drop_append_of_le_length (by simp [numB_length]; omega), List.drop_of_length_le (by simp [numB_length]; omega), List.nil_append]
theorem nameB_len (s : Bytes) (h : isName s = true) : (nameB s).length = 8 := by
  have h8 : s.length ≤ 8 := by simp [isName] at h; omega
  simp [nameB]; omega
theorem nameB_back (s : Bytes) (h : isName s = true) : gotName (nameB s) = true ∧ nameAt (nameB s) = s := by
  have h8 : s.length ≤ 8 := by simp [isName] at h; omega
  have hz : (0 : UInt8) ∉ s := by
    intro h0
    simp only [isName, Bool.and_eq_true, Bool.not_eq_true', List.any_eq_false] at h
    exact h.2 0 h0 (by decide)
  have hi : (nameB s).idxOf 0 = s.length := by
    unfold nameB
    rw [List.idxOf_append, if_neg hz]
    rcases Nat.lt_or_ge s.length 8 with hlt | hge
    · obtain ⟨m, hm⟩ : ∃ m, 8 - s.length = m + 1 := ⟨7 - s.length, by omega⟩
      rw [hm, List.replicate_succ]
      simp
    · have : 8 - s.length = 0 := by omega
      simp [this]
  have h1 : nameAt (nameB s) = s := by unfold nameAt; rw [hi]; simp [nameB]
  have h2 : nameRest (nameB s) = List.replicate (8 - s.length) 0 := by unfold nameRest; rw [hi]; simp [nameB]
  refine ⟨?_, h1⟩
  unfold gotName
  rw [h1, h2, h]
  simp [nonZero]

end Go.Proofs.Ytibogmoemohngaa
