/- PutRoot at any arguments, and what the difference to the empty image is. -/
import Derived.Test.YtbcafgocachddaaDoorDiff2
import Derived.Test.YtbcafgocachddaaDoorImg3
namespace Go.Proofs.YtbcafgocachddaaDoor
open Go.RowKit

/-- the eleven bytes that stand for a root -/
structure RootX (s X : Bytes) : Prop where
  len : X.length = 11
  zero : s = [] → X = List.replicate 11 0
  some_ : s ≠ [] → X[0]? ≠ some 0
theorem rootX_ok (s : Bytes) (h : Int) (hnm : isName s = true) : RootX s (rootB s h) := by
  cases s with
  | nil => simp [isName] at hnm
  | cons x xs =>
    simp only [isName, Bool.and_eq_true, List.any_cons, Bool.not_eq_true', Bool.or_eq_false_iff, decide_eq_true_eq] at hnm
    obtain ⟨⟨_, h8⟩, hx, _⟩ := hnm
    refine ⟨?_, by simp, fun _ => ?_⟩
    · simp only [rootB, nameB, List.length_append, List.length_replicate, List.length_cons, List.length_nil] at h8 ⊢
      omega
    · simp only [rootB, nameB, List.cons_append, List.getElem?_cons_zero, ne_eq, Option.some.injEq]
      rintro rfl
      simp [notLower] at hx
theorem root_all (A : Option Addr) (n c : Nat) (l : Bytes) (i : Int) (s : Bytes) (h : Int) (w : World) (hs : s.length ≤ 140737488351232) (hn : l.length = n) (hnc : n ≤ c) (hrd : Rd w A l) (hr : rightB n = true) :
    Calls Tryd.prog 21 #[.slice A n c, .int .i64 i, rootV s h] w fun e w' => (∃ x, e = .returned (.tuple #[.slice none 0 0, .iface 132 (.int .i64 x)]) ∧ Below w.heap.size w w') ∨
      (∃ g cap X, 0 ≤ i ∧ i < 8 ∧ RootX s X ∧ e = .returned (.tuple #[.slice (some ⟨g, 0, none⟩) n cap, .nilIface]) ∧ w.heap.size ≤ g ∧ Row w' 5 g cap (splice l (rootO i) X) ∧ Below w.heap.size w w') := by
  by_cases hi : i < 0 ∨ 8 ≤ i
  · exact (root_e1 A n c i s h w hr hi).mono fun e w' he => .inl ⟨1, he⟩
  have hi1 : 0 ≤ i := by omega
  have hi2 : i < 8 := by omega
  by_cases h0 : s = [] ∧ h = 0
  · obtain ⟨rfl, rfl⟩ := h0
    refine (root_zero A n c l i w hn hnc hrd hr hi1 hi2).mono ?_
    rintro e w' ⟨g, cap, he, hg, hrow, hb⟩
    exact .inr ⟨g, cap, _, hi1, hi2, ⟨by simp, fun _ => rfl, fun hh => absurd rfl hh⟩, he, hg, hrow, hb⟩
  cases hh : handleB h with
  | false => exact (root_e1h A n c i s h w hr hi1 hi2 h0 hh).mono fun e w' he => .inl ⟨1, he⟩
  | true =>
    cases hnm : isName s with
    | false => exact (root_e2 A n c i s h w hs hr hi1 hi2 hh hnm).mono fun e w' he => .inl ⟨2, he⟩
    | true =>
      refine (root_ok A n c l i s h w hn hrd hr hi1 hi2 hh hnm).mono ?_
      rintro e w' ⟨g, cap, he, hg, hrow, hb⟩
      exact .inr ⟨g, cap, _, hi1, hi2, rootX_ok s h hnm, he, hg, hrow, hb⟩
/-- the difference is empty exactly where the root is -/
theorem rootX_diff (m o : Nat) (s X : Bytes) (hX : RootX s X) (hfit : o + 11 ≤ m) : decide (0 < (diffL (List.replicate m 0) (splice (List.replicate m 0) o X)).length) = !decide (s = []) := by
  have hzl : (List.replicate m (0 : UInt8)).length = m := by simp
  have hf : o + X.length ≤ (List.replicate m (0 : UInt8)).length := by rw [hX.len, hzl]; exact hfit
  by_cases hs : s = []
  · have he : splice (List.replicate m (0 : UInt8)) o X = List.replicate m 0 := by
      rw [hX.zero hs]
      simp only [splice, List.take_replicate, List.drop_replicate, List.length_replicate, List.replicate_append_replicate]
      congr 1
      omega
    rw [he, diffL_self]
    simp [hs]
  · have hpos : 0 < (diffL (List.replicate m 0) (splice (List.replicate m 0) o X)).length := by
      rcases Nat.eq_zero_or_pos (diffL (List.replicate m 0) (splice (List.replicate m 0) o X)).length with h0 | h0
      · exfalso
        have hlen : (splice (List.replicate m (0 : UInt8)) o X).length = m := by rw [splice_len _ _ _ hf, hzl]
        have := diffL_eq_nil _ _ (hzl.trans hlen.symm) (List.eq_nil_of_length_eq_zero h0)
        have h1 := splice_get (List.replicate m (0 : UInt8)) X o 0 hf (by rw [hX.len]; omega)
        rw [← this, Nat.add_zero, List.getElem?_replicate, if_pos (by omega)] at h1
        exact hX.some_ hs h1.symm
      · exact h0
    simp [hs, hpos]
end Go.Proofs.YtbcafgocachddaaDoor
