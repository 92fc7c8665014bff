/- NumLow: plain facts on numbers as bytes; the contract of pow. -/
import Derived.Test.YtibogmoemohngaaNum4
namespace Go.Proofs.Ytibogmoemohngaa
open Go.RowKit

theorem ofB_append (a b : Bytes) : ofB (a ++ b) = ofB a + 2 ^ (8 * a.length) * ofB b := by
  induction a with
  | nil => simp [ofB]
  | cons d a ih =>
    simp only [List.cons_append, ofB, ih, List.length_cons]
    rw [show 8 * (a.length + 1) = 8 * a.length + 8 from by omega, Nat.pow_add, Nat.mul_add, Nat.add_assoc]
    congr 2
    rw [← Nat.mul_assoc, Nat.mul_comm 256, show 2 ^ 8 = 256 from rfl]
theorem ofB_numB (n s : Nat) : ofB (numB n s) = n % 2 ^ (8 * s) := by
  induction s generalizing n with
  | zero => simp [numB, ofB, Nat.mod_one]
  | succ s ih =>
    simp only [numB, ofB, ofNat_mod, ih]
    rw [show 8 * (s + 1) = 8 + 8 * s from by omega, Nat.pow_add, show 2 ^ 8 = 256 from rfl, Nat.mod_mul]
theorem numB_take (n s i : Nat) (h : i ≤ s) : (numB n s).take i = numB n i := by
  induction s generalizing n i with
  | zero => have : i = 0 := by omega
            subst this; rfl
  | succ s ih =>
    cases i with
    | zero => simp [numB]
    | succ i => simp only [numB, List.take_succ_cons]; rw [ih _ _ (by omega)]
theorem splice_mid (l bs : Bytes) (i : Nat) (s : Nat) (h : i + bs.length ≤ l.length) (hs : s ≤ bs.length) : ((splice l i bs).drop i).take s = bs.take s := by
  unfold splice
  have hl : (l.take i).length = i := by simp; omega
  rw [List.drop_append_of_le_length (by omega), List.drop_of_length_le (by omega), List.nil_append, List.take_append_of_le_length hs]
/-- what was put is got, in as many bytes or in fewer -/
theorem getN_putB (l : Bytes) (a x s i : Nat) (h : a + s ≤ l.length) (hi : i ≤ s) : getN (putB l a x s) a i = x % 2 ^ (8 * i) := by
  unfold getN putB
  simp only [Int.toNat_natCast]
  rw [splice_mid _ _ _ _ (by rw [numB_length]; omega) (by rw [numB_length]; omega), numB_take _ _ _ hi, ofB_numB]
theorem mostN_val (s : Nat) (h1 : 1 ≤ s) (h4 : s ≤ 4) : mostN s = ((2 ^ (8 * s) - 1 : Nat) : Int) := by
  have : s = 1 ∨ s = 2 ∨ s = 3 ∨ s = 4 := by omega
  rcases this with rfl | rfl | rfl | rfl <;> simp [mostN]
theorem mod_most (x s : Nat) (h1 : 1 ≤ s) (h4 : s ≤ 4) (hx : (x : Int) ≤ mostN s) : x % 2 ^ (8 * s) = x := by
  rw [mostN_val s h1 h4] at hx
  have : 0 < 2 ^ (8 * s) := Nat.pow_pos (by omega)
  exact Nat.mod_eq_of_lt (by omega)
theorem putB_len (l : Bytes) (a x s : Nat) (h : a + s ≤ l.length) : (putB l a x s).length = l.length := by
  unfold putB; simp only [Int.toNat_natCast]; exact splice_len _ _ _ (by rw [numB_length]; omega)
theorem putB_len' (l : Bytes) (a x s : Int) (hs : 1 ≤ s) (h0 : 0 ≤ a) (h : a + s ≤ l.length) : (putB l a x s).length = l.length := by
  unfold putB; exact splice_len _ _ _ (by rw [numB_length]; omega)
theorem splice_far (l bs : Bytes) (o i s : Nat) (h : o + bs.length ≤ l.length) (hd : i + s ≤ o ∨ o + bs.length ≤ i) : ((splice l o bs).drop i).take s = (l.drop i).take s := by
  apply List.ext_getElem?
  intro j
  rw [List.getElem?_take, List.getElem?_take]
  by_cases hj : j < s
  · rw [if_pos hj, if_pos hj, List.getElem?_drop, List.getElem?_drop]
    unfold splice
    have hl : (l.take o).length = o := by simp; omega
    by_cases h1 : i + j < o
    · rw [List.getElem?_append_left (by omega), List.getElem?_take, if_pos h1]
    · rw [List.getElem?_append_right (by omega), hl, List.getElem?_append_right (by omega), List.getElem?_drop]
      congr 1; omega
  · rw [if_neg hj, if_neg hj]
theorem getN_far (l : Bytes) (a s o : Nat) (ho : o + 1 ≤ l.length) (hd : o < a ∨ a + s ≤ o) : getN (putB l o (0 : Nat) (1 : Nat)) a s = getN l a s := by
  unfold getN putB
  simp only [Int.toNat_natCast]
  rw [splice_far _ _ _ _ _ (by rw [numB_length]; omega) (by rw [numB_length]; omega)]
theorem sameL_take (k : Nat) : ∀ (a b : Bytes), a.take k = b.take k → k ≤ a.length → k ≤ b.length → k ≤ sameL a b := by
  induction k with
  | zero => intros; omega
  | succ k ih =>
    intro a b ht ha hb
    cases a with
    | nil => simp at ha
    | cons x a =>
      cases b with
      | nil => simp at hb
      | cons y b =>
        simp only [List.take_succ_cons, List.cons.injEq] at ht
        have := ih a b ht.2 (by simpa using ha) (by simpa using hb)
        simp only [sameL, if_pos ht.1]
        omega
theorem sameL_put (l : Bytes) (o : Nat) (h : o + 1 ≤ l.length) : o ≤ sameL l (putB l o (0 : Nat) (1 : Nat)) := by
  refine sameL_take o _ _ ?_ (by omega) (by rw [putB_len _ _ _ _ h]; omega)
  unfold putB splice
  simp only [Int.toNat_natCast]
  have hl : (l.take o).length = o := by simp; omega
  rw [List.take_append_of_le_length (by omega), List.take_take, Nat.min_self]

end Go.Proofs.Ytibogmoemohngaa
