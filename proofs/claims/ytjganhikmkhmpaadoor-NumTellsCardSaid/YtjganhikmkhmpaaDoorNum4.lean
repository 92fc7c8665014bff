/- The contract of num.Same. -/
import Derived.Test.YtjganhikmkhmpaaDoorNum3
namespace Go.Proofs.YtjganhikmkhmpaaDoor
open Go.RowKit

/-- at how many places, from the first on, two lists are the same -/
def sameL : Bytes → Bytes → Nat
  | x :: a, y :: b => if x = y then sameL a b + 1 else 0
  | _, _ => 0
theorem sameL_le (a b : Bytes) : sameL a b ≤ a.length ∧ sameL a b ≤ b.length := by
  induction a generalizing b with
  | nil => simp [sameL]
  | cons x a ih =>
    cases b with
    | nil => simp [sameL]
    | cons y b =>
      simp only [sameL]
      have := ih b
      split <;> simp <;> omega
theorem sameL_at (k : Nat) : ∀ (a b : Bytes), a.take k = b.take k → k ≤ a.length → k ≤ b.length → (k = a.length ∨ k = b.length ∨ a[k]? ≠ b[k]?) → sameL a b = k := by
  induction k with
  | zero =>
    intro a b _ _ _ h
    cases a with
    | nil => simp [sameL]
    | cons x a =>
      cases b with
      | nil => simp [sameL]
      | cons y b => simp at h; simp [sameL, h]
  | succ k ih =>
    intro a b ht ha hb h
    cases a with
    | nil => simp at ha
    | cons x a =>
      cases b with
      | nil => simp at hb
      | cons y b =>
        simp only [List.take_succ_cons, List.cons.injEq] at ht
        have := ih a b ht.2 (by simpa using ha) (by simpa using hb) (by simpa using h)
        simp [sameL, ht.1, this]

theorem same_any (A B : Option Addr) (n m c d : Nat) (a b : Bytes) (w : World) (hn : a.length = n) (hm : b.length = m) (hla : n ≤ maxLen) (ha : Rd w A a) (hb : Rd w B b) :
    Calls Tryd.prog 27 #[.slice A n c, .slice B m d] w fun e w' => e = .returned (.int .i64 (sameL a b)) ∧ ∃ n, w' = w.drewN n := by
  subst hn hm
  unfold maxLen at hla
  go_enter Tryd.func27, Tryd.ntmps27
  go_wp2
  go_loopw [5] (fun i wr => (∃ n, wr = w.drewN n) ∧ ∃ k : Nat, k ≤ a.length ∧ k ≤ b.length ∧ i = .int .i64 k ∧ a.take k = b.take k) (fun i _ => a.length - (intOf i).toNat)
  case atStart => exact ⟨⟨0, rfl⟩, 0, Nat.zero_le _, Nat.zero_le _, rfl, rfl⟩
  case round =>
    obtain ⟨⟨n, rfl⟩, k, hka, hkb, rfl, ht⟩ := hrel
    by_cases h1 : k < a.length
    · by_cases h2 : k < b.length
      · obtain ⟨p, off, rfl, hc⟩ := ha k h1
        obtain ⟨q, off', rfl, hc'⟩ := hb k h2
        by_cases he : a[k] = b[k]
        · have hbq : ((a[k].toNat : Int) == (b[k].toNat : Int)) = true := by rw [bv_beq, he]; simp
          have hnext : a.take (k + 1) = b.take (k + 1) := by rw [List.take_succ_eq_append_getElem h1, List.take_succ_eq_append_getElem h2, ht, he]
          have HN := Hidden.mk hnext
          clear hnext he ht
          go_wp2
          go_quiet (fail)
          go_wp2
          go_roundw
          case rel => exact ⟨⟨_, rfl⟩, k + 1, by omega, by omega, by go_num, HN.out⟩
          case measure => simp [intOf]; omega
        · have hbq : ((a[k].toNat : Int) == (b[k].toNat : Int)) = false := by rw [bv_beq]; simpa using he
          have hr : Hidden (sameL a b = (k : Int)) := ⟨congrArg Int.ofNat (sameL_at k a b ht hka hkb (.inr (.inr (by simpa [h1, h2] using he))))⟩
          clear he ht
          go_wp2
          go_quiet (fail)
          go_wp2
          go_ret
          exact ⟨ret_i64 hr.out.symm, ⟨_, World.drewN_drewN _ _ _⟩⟩
      · have hr : Hidden (sameL a b = (k : Int)) := ⟨congrArg Int.ofNat (sameL_at k a b ht hka hkb (.inr (.inl (by omega))))⟩
        have h2' : decide ((k : Int) < b.length) = false := by simp; omega
        clear ht
        go_wp2
        go_quiet (fail)
        go_wp2
        go_ret
        exact ⟨ret_i64 hr.out.symm, ⟨_, World.drewN_drewN _ _ _⟩⟩
    · have hr : Hidden (sameL a b = (k : Int)) := ⟨congrArg Int.ofNat (sameL_at k a b ht hka hkb (.inl (by omega)))⟩
      have h2' : decide ((k : Int) < a.length) = false := by simp; omega
      clear ht
      go_wp2
      go_quiet (fail)
      go_wp2
      go_ret
      exact ⟨ret_i64 hr.out.symm, ⟨_, World.drewN_drewN _ _ _⟩⟩
end Go.Proofs.YtjganhikmkhmpaaDoor
