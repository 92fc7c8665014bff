/- Contracts over strings and bytes: slices.IndexFunc and ContainsFunc at whatever pure predicate. -/
import Derived.Test.YtibogmoemohngaaNum4
namespace Go.Proofs.Ytibogmoemohngaa
open Go.RowKit

/-- function F answers as p, of whatever byte, and leaves the world alone -/
def Pred (F : FuncId) (p : UInt8 → Bool) : Prop := ∀ (x : UInt8) (w : World), Calls Try.prog F #[bv x] w fun e w' => e = .returned (.bool (p x)) ∧ w = w'

def idxP (p : UInt8 → Bool) (l : Bytes) : Int := match l.findIdx? p with | some k => k | none => -1
theorem idxP_at (p : UInt8 → Bool) (l : Bytes) (k : Nat) (hk : k < l.length) (hn : ∀ x ∈ l.take k, p x = false) (he : p l[k] = true) : idxP p l = k := by
  have : l.findIdx? p = some k := by
    rw [List.findIdx?_eq_some_iff_getElem]
    refine ⟨hk, he, fun j hj => ?_⟩
    have := hn l[j] (by rw [List.mem_take_iff_getElem]; exact ⟨j, by omega, rfl⟩)
    simpa using this
  unfold idxP; rw [this]
theorem idxP_none (p : UInt8 → Bool) (l : Bytes) (hn : ∀ x ∈ l, p x = false) : idxP p l = -1 := by
  have : l.findIdx? p = none := by rw [List.findIdx?_eq_none_iff]; exact hn
  unfold idxP; rw [this]
theorem idxP_any (p : UInt8 → Bool) (l : Bytes) : decide (0 ≤ idxP p l) = l.any p := by
  unfold idxP
  cases h : l.findIdx? p with
  | none =>
    rw [List.findIdx?_eq_none_iff] at h
    simp only [Int.reduceNeg, Int.reduceLE, decide_false]
    symm
    simpa using h
  | some k =>
    rw [List.findIdx?_eq_some_iff_getElem] at h
    obtain ⟨hk, he, _⟩ := h
    have : l.any p = true := List.any_eq_true.2 ⟨l[k], List.getElem_mem hk, he⟩
    rw [this]
    simp
theorem forall_take_succ {p : UInt8 → Bool} {l : Bytes} {k : Nat} (hk : k < l.length) (hn : ∀ x ∈ l.take k, p x = false) (he : p l[k] = false) : ∀ x ∈ l.take (k + 1), p x = false := by
  rw [List.take_succ_eq_append_getElem hk]
  intro x hx
  rw [List.mem_append, List.mem_singleton] at hx
  rcases hx with hx | rfl
  · exact hn x hx
  · exact he

theorem ret_bool {a b : Bool} (h : a = b) : Ending.returned (.bool a) = .returned (.bool b) := by rw [h]
def notLower (c : UInt8) : Bool := decide (c.toNat < 97) || decide (122 < c.toNat)
def nonZero (c : UInt8) : Bool := c != 0
theorem pred_name : Pred 124 notLower := by
  intro x w
  by_cases h : x.toNat < 97
  · go_enter Try.func124, Try.ntmps124
    go_wp2
    go_ret
    exact ⟨ret_bool (by simp [notLower, h]), rfl⟩
  · go_enter Try.func124, Try.ntmps124
    go_wp2
    go_ret
    exact ⟨ret_bool (by unfold notLower; congr 1 <;> (rw [decide_eq_decide]; omega)), rfl⟩
theorem bv_bne (x : UInt8) : ((x.toNat : Int) != 0) = nonZero x := by
  unfold nonZero
  have := bv_beq x 0
  simp only [bne, ← this]; rfl
theorem pred_zero : Pred 117 nonZero := by
  intro x w
  have hb := Hidden.mk (bv_bne x)
  go_enter Try.func117, Try.ntmps117
  go_wp2
  go_ret
  exact ⟨ret_bool hb.out, rfl⟩
theorem idxf_name (A : Option Addr) (n c : Nat) (l : Bytes) (w : World) (hn : l.length = n) (hl : n ≤ maxLen) (hr : Rd w A l) :
    Calls Try.prog 146 #[.slice A n c, .func (.func 124) #[] #[]] w fun e w' => e = .returned (.int .i64 (idxP notLower l)) ∧ w = w' := by
  subst hn
  unfold maxLen at hl
  have HP := Hidden.mk pred_name
  generalize notLower = p at HP ⊢
  go_enter Try.func146, Try.ntmps146
  go_wp2
  go_loopw [8] (fun i wr => w = wr ∧ ∃ k : Nat, k ≤ l.length ∧ i = .int .i64 k ∧ Hidden (∀ x ∈ l.take k, p x = false)) (fun i _ => l.length - (intOf i).toNat)
  case atStart => exact ⟨rfl, 0, Nat.zero_le _, rfl, ⟨by simp⟩⟩
  case round =>
    obtain ⟨rfl, k, hk, rfl, hnot⟩ := hrel
    by_cases hlt : k < l.length
    · obtain ⟨b, off, rfl, hc⟩ := hr k hlt
      go_wp2_with fail
      refine (HP.out _ _).mono ?_
      rintro e w1 ⟨rfl, rfl⟩
      cases he : p l[k] with
      | true =>
        have hi : Hidden (idxP p l = k) := ⟨idxP_at p l k hlt hnot.out he⟩
        clear he
        go_wp2
        go_ret
        exact ⟨ret_i64 hi.out.symm, rfl⟩
      | false =>
        have hnk : Hidden (∀ x ∈ l.take (k + 1), p x = false) := ⟨forall_take_succ hlt hnot.out he⟩
        clear he hnot
        go_wp2
        go_roundw
        case rel => exact ⟨by trivial, k + 1, by omega, by go_num, hnk⟩
        case measure => simp [intOf]; omega
    · have hi : Hidden (idxP p l = -1) := ⟨idxP_none p l (by have := hnot.out; rwa [List.take_of_length_le (by omega)] at this)⟩
      go_wp2
      go_ret
      exact ⟨ret_i64 hi.out.symm, rfl⟩
theorem containsf_name (A : Option Addr) (n c : Nat) (l : Bytes) (w : World) (hn : l.length = n) (hl : n ≤ maxLen) (hr : Rd w A l) :
    Calls Try.prog 116 #[.slice A n c, .func (.func 124) #[] #[]] w fun e w' => e = .returned (.bool (l.any notLower)) ∧ w = w' := by
  have hv := Hidden.mk (idxP_any notLower l)
  go_enter Try.func116, Try.ntmps116
  go_wp2_with fail
  refine (idxf_name A n c l _ hn hl hr).mono ?_
  rintro e w1 ⟨rfl, rfl⟩
  go_wp2
  go_ret
  exact ⟨congrArg (fun b => Ending.returned (.bool b)) hv.out, rfl⟩
theorem idxf_zero (A : Option Addr) (n c : Nat) (l : Bytes) (w : World) (hn : l.length = n) (hl : n ≤ maxLen) (hr : Rd w A l) :
    Calls Try.prog 146 #[.slice A n c, .func (.func 117) #[] #[]] w fun e w' => e = .returned (.int .i64 (idxP nonZero l)) ∧ w = w' := by
  subst hn
  unfold maxLen at hl
  have HP := Hidden.mk pred_zero
  generalize nonZero = p at HP ⊢
  go_enter Try.func146, Try.ntmps146
  go_wp2
  go_loopw [8] (fun i wr => w = wr ∧ ∃ k : Nat, k ≤ l.length ∧ i = .int .i64 k ∧ Hidden (∀ x ∈ l.take k, p x = false)) (fun i _ => l.length - (intOf i).toNat)
  case atStart => exact ⟨rfl, 0, Nat.zero_le _, rfl, ⟨by simp⟩⟩
  case round =>
    obtain ⟨rfl, k, hk, rfl, hnot⟩ := hrel
    by_cases hlt : k < l.length
    · obtain ⟨b, off, rfl, hc⟩ := hr k hlt
      go_wp2_with fail
      refine (HP.out _ _).mono ?_
      rintro e w1 ⟨rfl, rfl⟩
      cases he : p l[k] with
      | true =>
        have hi : Hidden (idxP p l = k) := ⟨idxP_at p l k hlt hnot.out he⟩
        clear he
        go_wp2
        go_ret
        exact ⟨ret_i64 hi.out.symm, rfl⟩
      | false =>
        have hnk : Hidden (∀ x ∈ l.take (k + 1), p x = false) := ⟨forall_take_succ hlt hnot.out he⟩
        clear he hnot
        go_wp2
        go_roundw
        case rel => exact ⟨by trivial, k + 1, by omega, by go_num, hnk⟩
        case measure => simp [intOf]; omega
    · have hi : Hidden (idxP p l = -1) := ⟨idxP_none p l (by have := hnot.out; rwa [List.take_of_length_le (by omega)] at this)⟩
      go_wp2
      go_ret
      exact ⟨ret_i64 hi.out.symm, rfl⟩
theorem containsf_zero (A : Option Addr) (n c : Nat) (l : Bytes) (w : World) (hn : l.length = n) (hl : n ≤ maxLen) (hr : Rd w A l) :
    Calls Try.prog 116 #[.slice A n c, .func (.func 117) #[] #[]] w fun e w' => e = .returned (.bool (l.any nonZero)) ∧ w = w' := by
  have hv := Hidden.mk (idxP_any nonZero l)
  go_enter Try.func116, Try.ntmps116
  go_wp2_with fail
  refine (idxf_zero A n c l _ hn hl hr).mono ?_
  rintro e w1 ⟨rfl, rfl⟩
  go_wp2
  go_ret
  exact ⟨congrArg (fun b => Ending.returned (.bool b)) hv.out, rfl⟩
end Go.Proofs.Ytibogmoemohngaa
