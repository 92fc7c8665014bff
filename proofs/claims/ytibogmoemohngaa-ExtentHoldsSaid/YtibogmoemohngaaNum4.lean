/- The contract of num.Same. -/
import Derived.Test.YtibogmoemohngaaNum3
namespace Go.Proofs.Ytibogmoemohngaa
open Go.RowKit

/-- at how many places, from the first on, two lists are the same -/
def sameL : Bytes → Bytes → Nat
  | x :: a, y :: b => if x = y then sameL a b + 1 else 0
  | _, _ => 0
theorem sameL_le (a b : Bytes) : sameL a b ≤ a.length ∧ sameL a b ≤ b.length := by
  induction a generalizing b with
  | nil => simp [sameL]
  | cons x a ih =>
    cases b with
    | nil => simp [sameL]
    | cons y b =>
      simp only [sameL]
      have := ih b
      split <;> simp <;> omega
theorem sameL_at (k : Nat) : ∀ (a b : Bytes), a.take k = b.take k → k ≤ a.length → k ≤ b.length → (k = a.length ∨ k = b.length ∨ a[k]? ≠ b[k]?) → sameL a b = k := by
  induction k with
  | zero =>
    intro a b _ _ _ h
    cases a with
    | nil => simp [sameL]
    | cons x a =>
      cases b with
      | nil => simp [sameL]
      | cons y b => simp at h; simp [sameL, h]
  | succ k ih =>
    intro a b ht ha hb h
    cases a with
    | nil => simp at ha
    | cons x a =>
      cases b with
      | nil => simp at hb
      | cons y b =>
        simp only [List.take_succ_cons, List.cons.injEq] at ht
        have := ih a b ht.2 (by simpa using ha) (by simpa using hb) (by simpa using h)
        simp [sameL, ht.1, this]

end Go.Proofs.Ytibogmoemohngaa
