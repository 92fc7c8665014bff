/- The contracts of package num and of what it calls in package slices, over bytes. -/
import Derived.Test.YtibogmoemohngaaChecked
import Derived.Test.YtibogmoemohngaaBase
namespace Go.Proofs.Ytibogmoemohngaa
open Go.RowKit

/-- what so many bytes have at most -/
def mostN (n : Int) : Int := 2 ^ (8 * n.toNat) - 1

/-- slices.Index: the first place, or -1 -/
def idxB (l : Bytes) (x : UInt8) : Int := if x ∈ l then (l.idxOf x : Int) else -1
theorem idxB_at (l : Bytes) (x : UInt8) (k : Nat) (hk : k < l.length) (hn : x ∉ l.take k) (he : l[k] = x) : idxB l x = k := by
  have hm : x ∈ l := by rw [← he]; exact List.getElem_mem hk
  unfold idxB
  rw [if_pos hm]
  have : l.idxOf x = k := by
    conv => lhs; rw [← List.take_append_drop k l]
    rw [List.idxOf_append, if_neg hn]
    have hd : l.drop k = x :: l.drop (k + 1) := by rw [List.drop_eq_getElem_cons hk, he]
    rw [hd]
    simp; omega
  rw [this]
theorem idxB_none (l : Bytes) (x : UInt8) (hn : x ∉ l) : idxB l x = -1 := if_neg hn
theorem bv_beq (x y : UInt8) : ((x.toNat : Int) == (y.toNat : Int)) = (x == y) := by
  rw [Bool.eq_iff_iff]
  simp only [beq_iff_eq]
  rw [← UInt8.toNat_inj]
  omega
theorem not_take_succ {l : Bytes} {x : UInt8} {k : Nat} (hk : k < l.length) (hn : x ∉ l.take k) (he : ¬ l[k] = x) : x ∉ l.take (k + 1) := by
  rw [List.take_succ_eq_append_getElem hk]
  simp only [List.mem_append, List.mem_singleton, not_or]
  exact ⟨hn, fun h => he h.symm⟩

theorem index_any (A : Option Addr) (n c : Nat) (l : Bytes) (x : UInt8) (w : World) (hn : l.length = n) (hl : n ≤ maxLen) (hr : Rd w A l) :
    Calls Try.prog 115 #[.slice A n c, bv x] w fun e w' => e = .returned (.int .i64 (idxB l x)) ∧ w = w' := by
  subst hn
  unfold maxLen at hl
  go_enter Try.func115, Try.ntmps115
  go_wp2
  go_loop [8] (fun i => ∃ k : Nat, k ≤ l.length ∧ i = .int .i64 k ∧ x ∉ l.take k) (fun i => l.length - (intOf i).toNat)
  case atStart => exact ⟨0, Nat.zero_le _, rfl, by simp⟩
  case round =>
    obtain ⟨k, hk, rfl, hnot⟩ := hrel
    by_cases hlt : k < l.length
    · obtain ⟨b, off, rfl, hc⟩ := hr k hlt
      by_cases he : l[k] = x
      · have hi := idxB_at l x k hlt hnot he
        have hb : ((x.toNat : Int) == (l[k].toNat : Int)) = true := by rw [bv_beq, he]; simp
        clear he
        go_wp2
        go_ret
        exact ⟨rfl, rfl⟩
      · have hb : ((x.toNat : Int) == (l[k].toNat : Int)) = false := by rw [bv_beq]; simpa using fun h => he h.symm
        have hnk := not_take_succ hlt hnot he
        clear he hnot
        go_wp2
        go_round
        case rel => exact ⟨k + 1, by omega, by go_num, hnk⟩
        case measure => simp [intOf]; omega
    · have hnn : x ∉ l := by rw [List.take_of_length_le (by omega)] at hnot; exact hnot
      have hi := idxB_none l x hnn
      go_wp2
      go_ret
      exact ⟨rfl, rfl⟩

/-- the number that bytes have, the low one first -/
def ofB : Bytes → Nat
  | [] => 0
  | c :: l => c.toNat + 256 * ofB l
theorem ofB_snoc (l : Bytes) (c : UInt8) : ofB (l ++ [c]) = ofB l + 2 ^ (8 * l.length) * c.toNat := by
  induction l with
  | nil => simp [ofB]
  | cons d l ih =>
    simp only [List.cons_append, ofB, ih, List.length_cons]
    rw [show 8 * (l.length + 1) = 8 * l.length + 8 from by omega, Nat.pow_add]
    rw [Nat.mul_add, Nat.add_assoc]
    congr 2
    rw [← Nat.mul_assoc, Nat.mul_comm 256, show 2 ^ 8 = 256 from rfl]
theorem ofB_lt (l : Bytes) : ofB l < 2 ^ (8 * l.length) := by
  induction l with
  | nil => simp [ofB]
  | cons d l ih =>
    simp only [ofB, List.length_cons]
    rw [show 8 * (l.length + 1) = 8 * l.length + 8 from by omega, Nat.pow_add]
    have := d.toNat_lt
    simp at this
    omega
theorem or_add (a b k : Nat) (h : a < 2 ^ k) : a ||| (2 ^ k * b) = a + 2 ^ k * b := by
  rw [Nat.or_comm, ← Nat.two_pow_add_eq_or_of_lt h]; omega
theorem i64_ofInt (a : Nat) (ha : a < 9223372036854775808) : (BitVec.ofInt 64 (a : Int)).toNat = a := by
  rw [BitVec.ofInt_natCast, BitVec.toNat_ofNat]; exact Nat.mod_eq_of_lt (by omega)
theorem i64_or (a b : Nat) (ha : a < 9223372036854775808) (hb : b < 9223372036854775808) : bits .or .i64 (a : Int) (b : Int) = ((a ||| b : Nat) : Int) := by
  have hx : a ||| b < 2 ^ 63 := Nat.or_lt_two_pow (by omega) (by omega)
  show IntKind.i64.wrap ((BitVec.ofInt 64 (a : Int) ||| BitVec.ofInt 64 (b : Int)).toNat : Int) = _
  rw [BitVec.toNat_or, i64_ofInt a ha, i64_ofInt b hb, IntKind.wrap_i64]
  omega
theorem u8_lt (c : UInt8) : c.toNat < 256 := c.toNat_lt
theorem wrap64_id (n : Int) (h0 : -9223372036854775808 ≤ n) (h : n ≤ 9223372036854775807) : wrap64 n = n := IntWalk.wrap64_in n ⟨h0, h⟩
theorem of_step (l : Bytes) (k : Nat) (hk : k < l.length) (hl : l.length ≤ 4) :
    bits .or .i64 (ofB (l.take k) : Int) (wrap64 (wrap64 (l[k].toNat : Int) * 2 ^ (8 * k))) = (ofB (l.take (k + 1)) : Int) := by
  have hc := u8_lt l[k]
  have h1 := ofB_lt (l.take k)
  have hlen : (l.take k).length = k := by simp; omega
  rw [hlen] at h1
  have hp : 2 ^ (8 * k) ≤ 16777216 := by
    have : k ≤ 3 := by omega
    calc 2 ^ (8 * k) ≤ 2 ^ 24 := Nat.pow_le_pow_right (by omega) (by omega)
      _ = 16777216 := by decide
  have hm : 2 ^ (8 * k) * l[k].toNat ≤ 16777216 * 256 := Nat.mul_le_mul hp (by omega)
  rw [wrap64_id (l[k].toNat : Int) (by omega) (by omega)]
  have hcast : (l[k].toNat : Int) * 2 ^ (8 * k) = ((2 ^ (8 * k) * l[k].toNat : Nat) : Int) := by
    rw [Int.natCast_mul, Int.mul_comm, Int.natCast_pow]; rfl
  rw [hcast, wrap64_id _ (by omega) (by omega), i64_or _ _ (by omega) (by omega), or_add _ _ _ h1, List.take_succ_eq_append_getElem hk, ofB_snoc, hlen]
theorem ret_i64 {a b : Int} (h : a = b) : Ending.returned (.int .i64 a) = .returned (.int .i64 b) := by rw [h]
theorem int_i64 {a b : Int} (h : a = b) : Value.int .i64 a = .int .i64 b := by rw [h]

theorem of_any (A : Option Addr) (n c : Nat) (l : Bytes) (w : World) (hn : l.length = n) (hl : n ≤ 4) (hr : Rd w A l) :
    Calls Try.prog 93 #[.slice A n c] w fun e w' => e = .returned (.int .i64 (ofB l)) ∧ w = w' := by
  subst hn
  go_enter Try.func93, Try.ntmps93
  go_wp2
  go_loop [3, 8] (fun n i => ∃ k : Nat, k ≤ l.length ∧ i = .int .i64 k ∧ n = .int .i64 (ofB (l.take k))) (fun _ i => l.length - (intOf i).toNat)
  case atStart => exact ⟨0, Nat.zero_le _, rfl, rfl⟩
  case round =>
    obtain ⟨k, hk, rfl, rfl⟩ := hrel
    by_cases hlt : k < l.length
    · obtain ⟨b, off, rfl, hc⟩ := hr k hlt
      go_wp2
      go_round
      case rel => exact ⟨k + 1, by omega, by go_num, int_i64 (of_step l k hlt hl)⟩
      case measure => simp [intOf]; omega
    · go_wp2
      go_ret
      exact ⟨ret_i64 (by rw [List.take_of_length_le (by omega)]), rfl⟩

end Go.Proofs.Ytibogmoemohngaa
