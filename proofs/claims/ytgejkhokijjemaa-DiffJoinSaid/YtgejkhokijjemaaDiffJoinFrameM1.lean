/- Contracts and plain laws, put together: Base, Num1, LayK, Num2, Num3, Mem, App, MapI, Keep, Dev0, Dev1, Dev2, Keys1, DiffP, Diff0, Diff1, DiffQ, Diff2, DiffA, Num4, Str1, Str2, Str3, Stamp1, DiffA1, Dev3, Diff3, DiffJ, RoundReg, Back1, Turn1, DiffBack1. -/
import Derived.WalkKit
import Derived.WalkSpells
import Derived.Deep.QuietTactic
import Derived.BigQuiet
import Derived.Deep.Draws
import Derived.Test.YtgejkhokijjemaaChecked
import Derived.Shelf.SlGeneric
import Derived.Shelf.SlIterI.Nil
import Derived.Shelf.SortM.Plain
import Derived.Shelf.SortM.SortNone
import Derived.Ground.GgzProg
import Derived.Ground.SlgmProg
import Derived.Laws.CopyOwn
import Derived.Laws.MakeOwn
import Derived.Maps.AppendAt
import Derived.Deep.AppendLies
import Derived.OwnWalk
import Derived.Maps.Own
import Derived.Maps.OwnSet
import Derived.Maps.RangeWalk
import Derived.Deep.RegionHeld3
import Derived.Lib.ConvBytes
import Derived.Deep.LoopGhost
import Derived.RangeFuncNested
import Derived.RangeFuncBound
import Derived.RangeFuncCalls
import Derived.RangeFuncLeaves
import Derived.RangeFuncBox
import Derived.Shelf.Abstract
import Derived.Shelf.RegionOpen
import Derived.OwnWalkIn
import Derived.TacticsInMore
import Derived.LoopNIn
import Derived.LoopIn
import Derived.Deep.DeepCutAuto
/- Words for memory that the other texts use: slices of bytes as lists; no program in sight. -/
namespace Go.Proofs.Ytgejkhokijjemaa
open Go.RowKit

/-- a fact that the walk does not see -/
structure Hidden (p : Prop) : Prop where
  out : p
abbrev Bytes := List UInt8
/-- a byte as a cell -/
abbrev bv (c : UInt8) : Value := .int .u8 (c.toNat : Int)

/-- a text as a value -/
abbrev sv (l : Bytes) : Value := .string ⟨l.toArray⟩

/-- the slice that begins at A reads as the bytes l -/
def Rd (w : World) (A : Option Addr) (l : Bytes) : Prop :=
  ∀ j (h : j < l.length), ∃ b off, A = some ⟨b, off, none⟩ ∧ w.cell? ⟨b, off + j, none⟩ = some (bv l[j])

section
variable {w w' : World} {A : Option Addr} {l : Bytes}
theorem Rd.nil_ : Rd w A [] := fun j h => absurd h (by simp)
theorem Rd.below (h : Rd w A l) (hb : Below w.heap.size w w') : Rd w' A l := fun j hj => by
  obtain ⟨b, off, hA, hc⟩ := h j hj
  exact ⟨b, off, hA, (hb.cell (block_lt_of_cell hc)).trans hc⟩
theorem Rd.below' {B : Nat} (h : Rd w A l) (hA : ∀ ad, A = some ad → ad.block < B) (hb : Below B w w') : Rd w' A l := fun j hj => by
  obtain ⟨b, off, rfl, hc⟩ := h j hj
  exact ⟨b, off, rfl, (hb.cell (p := ⟨b, off + j, none⟩) (hA ⟨b, off, none⟩ rfl)).trans hc⟩
theorem Rd.drewN (h : Rd w A l) (n : Nat) : Rd (w.drewN n) A l := h
theorem Rd.lt (h : Rd w A l) (hl : 0 < l.length) : ∃ b off, A = some ⟨b, off, none⟩ ∧ b < w.heap.size := by
  obtain ⟨b, off, hA, hc⟩ := h 0 hl
  exact ⟨b, off, hA, block_lt_of_cell hc⟩
theorem Rd.cut (h : Rd w A l) (a s : Nat) (hs : a + s ≤ l.length) : Rd w (A.map (·.add a)) ((l.drop a).take s) := fun j hj => by
  have hj' : j < s := by simp at hj; omega
  obtain ⟨b, off, rfl, hc⟩ := h (a + j) (by omega)
  refine ⟨b, off + a, by simp [Addr.add_lit], ?_⟩
  rw [Nat.add_assoc, hc]
  simp
theorem Rd.cutIf (h : Rd w A l) (a s c : Nat) (hs : a + s ≤ l.length) (hc : l.length ≤ c) : Rd w (if c = a then A else A.map (·.add a)) ((l.drop a).take s) := by
  by_cases hca : c = a
  · have : s = 0 := by omega
    subst this
    simpa using Rd.nil_
  · rw [if_neg hca]; exact h.cut a s hs
theorem Rd.take (h : Rd w A l) (s : Nat) (hs : s ≤ l.length) : Rd w A (l.take s) := fun j hj => by
  obtain ⟨b, off, rfl, hc⟩ := h j (by simp at hj; omega)
  refine ⟨b, off, rfl, ?_⟩
  rw [hc]; simp
theorem Rd.at_ {b off : Nat} (h : Rd w (some ⟨b, off, none⟩) l) (j : Nat) (hj : j < l.length) : w.cell? ⟨b, off + j, none⟩ = some (bv l[j]) := by
  obtain ⟨b', off', hA, hc⟩ := h j hj
  injection hA with hA
  injection hA with h1 h2
  subst h1 h2
  exact hc
theorem Rd.cells {ad : Addr} (h : Rd w (some ad) l) (j : Nat) (u : Value) (hu : (l.map bv)[j]? = some u) : w.cell? (ad.add j) = some u := by
  have hj : j < l.length := by
    have := (List.getElem?_eq_some_iff.1 hu).1
    simpa using this
  obtain ⟨b, off, hA, hc⟩ := h j hj
  injection hA with hA
  subst hA
  rw [Addr.add_lit, hc, ← hu]
  simp [hj]
end
theorem Rd.tail {w : World} {A : Option Addr} {l : Bytes} (h : Rd w A l) (k c : Nat) (hk : k ≤ l.length) (hc : l.length ≤ c) : Rd w (if c = k then A else A.map (·.add k)) (l.drop k) := by
  have := h.cutIf k (l.length - k) c (by omega) hc
  rwa [List.take_of_length_le (by simp)] at this
theorem one_bv {l : Bytes} : ∀ u ∈ l.map bv, u.oneCell' = true := by
  intro u hu
  obtain ⟨c, _, rfl⟩ := List.mem_map.1 hu
  rfl

/-- the slice v is the call's own (blocks from base on), and reads as l; e: the number of the type byte -/
def Own (w : World) (base e : Nat) (v : Value) (l : Bytes) : Prop := w.ownsRow base e 1 v l.length (l.map bv)

theorem Own.slice {w : World} {base e : Nat} {v : Value} {l : Bytes} (h : Own w base e v l) : ∃ A c, v = .slice A l.length c ∧ l.length ≤ c ∧ c ≤ maxLen ∧ Rd w A l := by
  rcases h.2 with ⟨rfl, h0⟩ | ⟨g, cap, cur, rfl, _, hh, hc, hm, hz, ht⟩
  · rw [h0]
    have : l = [] := List.eq_nil_of_length_eq_zero h0
    subst this
    exact ⟨none, 0, rfl, by simp, by simp, Rd.nil_⟩
  · refine ⟨_, cap, rfl, hc, hm, fun j hj => ⟨g, 0, rfl, ?_⟩⟩
    rw [Nat.zero_add, cell_of_row w g j cur e (0, 0) hh]
    have h1 : (l.map bv)[j]? = some (bv l[j]) := by simp [hj]
    rw [← ht, List.getElem?_take, if_pos (by omega)] at h1
    simpa using h1
theorem below_drewN {B : Nat} {a w : World} (h : Below B a w) (n : Nat) : Below B a (w.drewN n) := ⟨h.os, h.tape, h.output, h.size, h.block⟩
theorem grown_below {a w : World} (h : Below a.heap.size a w) (row : Option Nat) : a.grownBy w row := ⟨h.os, h.tape, h.output, h.size, fun i hi _ => h.block i hi⟩
theorem own_below {w w' : World} {base : Nat} {e : TypeId} {size : Nat} {v : Value} {n : Nat} {xs : List Value} (h : w.ownsRow base e size v n xs) (hb : Below w.heap.size w w') : w'.ownsRow base e size v n xs :=
  h.kept (grown_below hb none) (by cases hv : v.ownBlock <;> simp)
theorem grown_trans' {a b c : World} {row : Option Nat} (h : Below a.heap.size a b) (k : b.grownBy c row) : a.grownBy c row :=
  ⟨k.os.trans h.os, k.tape.trans h.tape, k.output.trans h.output, Nat.le_trans h.size k.size, fun i hi hne => (k.block i (Nat.lt_of_lt_of_le hi h.size) hne).trans (h.block i hi)⟩
end Go.Proofs.Ytgejkhokijjemaa
/- The contracts of package num and of what it calls in package slices, over bytes. -/
namespace Go.Proofs.Ytgejkhokijjemaa
open Go.RowKit

/-- what so many bytes have at most -/
def mostN (n : Int) : Int := 2 ^ (8 * n.toNat) - 1

/-- slices.Index: the first place, or -1 -/
def idxB (l : Bytes) (x : UInt8) : Int := if x ∈ l then (l.idxOf x : Int) else -1
theorem idxB_at (l : Bytes) (x : UInt8) (k : Nat) (hk : k < l.length) (hn : x ∉ l.take k) (he : l[k] = x) : idxB l x = k := by
  have hm : x ∈ l := by rw [← he]; exact List.getElem_mem hk
  unfold idxB
  rw [if_pos hm]
  have : l.idxOf x = k := by
    conv => lhs; rw [← List.take_append_drop k l]
    rw [List.idxOf_append, if_neg hn]
    have hd : l.drop k = x :: l.drop (k + 1) := by rw [List.drop_eq_getElem_cons hk, he]
    rw [hd]
    simp; omega
  rw [this]
theorem idxB_none (l : Bytes) (x : UInt8) (hn : x ∉ l) : idxB l x = -1 := if_neg hn
theorem bv_beq (x y : UInt8) : ((x.toNat : Int) == (y.toNat : Int)) = (x == y) := by
  rw [Bool.eq_iff_iff]
  simp only [beq_iff_eq]
  rw [← UInt8.toNat_inj]
  omega
theorem not_take_succ {l : Bytes} {x : UInt8} {k : Nat} (hk : k < l.length) (hn : x ∉ l.take k) (he : ¬ l[k] = x) : x ∉ l.take (k + 1) := by
  rw [List.take_succ_eq_append_getElem hk]
  simp only [List.mem_append, List.mem_singleton, not_or]
  exact ⟨hn, fun h => he h.symm⟩

theorem index_any (A : Option Addr) (n c : Nat) (l : Bytes) (x : UInt8) (w : World) (hn : l.length = n) (hl : n ≤ maxLen) (hr : Rd w A l) :
    Calls Try.prog 70 #[.slice A n c, bv x] w fun e w' => e = .returned (.int .i64 (idxB l x)) ∧ w = w' := by
  subst hn
  unfold maxLen at hl
  go_enter Try.func70, Try.ntmps70
  go_wp2
  go_loop [8] (fun i => ∃ k : Nat, k ≤ l.length ∧ i = .int .i64 k ∧ x ∉ l.take k) (fun i => l.length - (intOf i).toNat)
  case atStart => exact ⟨0, Nat.zero_le _, rfl, by simp⟩
  case round =>
    obtain ⟨k, hk, rfl, hnot⟩ := hrel
    by_cases hlt : k < l.length
    · obtain ⟨b, off, rfl, hc⟩ := hr k hlt
      by_cases he : l[k] = x
      · have hi := idxB_at l x k hlt hnot he
        have hb : ((x.toNat : Int) == (l[k].toNat : Int)) = true := by rw [bv_beq, he]; simp
        clear he
        go_wp2
        go_ret
        exact ⟨rfl, rfl⟩
      · have hb : ((x.toNat : Int) == (l[k].toNat : Int)) = false := by rw [bv_beq]; simpa using fun h => he h.symm
        have hnk := not_take_succ hlt hnot he
        clear he hnot
        go_wp2
        go_round
        case rel => exact ⟨k + 1, by omega, by go_num, hnk⟩
        case measure => simp [intOf]; omega
    · have hnn : x ∉ l := by rw [List.take_of_length_le (by omega)] at hnot; exact hnot
      have hi := idxB_none l x hnn
      go_wp2
      go_ret
      exact ⟨rfl, rfl⟩

/-- the number that bytes have, the low one first -/
def ofB : Bytes → Nat
  | [] => 0
  | c :: l => c.toNat + 256 * ofB l
theorem ofB_snoc (l : Bytes) (c : UInt8) : ofB (l ++ [c]) = ofB l + 2 ^ (8 * l.length) * c.toNat := by
  induction l with
  | nil => simp [ofB]
  | cons d l ih =>
    simp only [List.cons_append, ofB, ih, List.length_cons]
    rw [show 8 * (l.length + 1) = 8 * l.length + 8 from by omega, Nat.pow_add]
    rw [Nat.mul_add, Nat.add_assoc]
    congr 2
    rw [← Nat.mul_assoc, Nat.mul_comm 256, show 2 ^ 8 = 256 from rfl]
theorem ofB_lt (l : Bytes) : ofB l < 2 ^ (8 * l.length) := by
  induction l with
  | nil => simp [ofB]
  | cons d l ih =>
    simp only [ofB, List.length_cons]
    rw [show 8 * (l.length + 1) = 8 * l.length + 8 from by omega, Nat.pow_add]
    have := d.toNat_lt
    simp at this
    omega
theorem or_add (a b k : Nat) (h : a < 2 ^ k) : a ||| (2 ^ k * b) = a + 2 ^ k * b := by
  rw [Nat.or_comm, ← Nat.two_pow_add_eq_or_of_lt h]; omega
theorem i64_ofInt (a : Nat) (ha : a < 9223372036854775808) : (BitVec.ofInt 64 (a : Int)).toNat = a := by
  rw [BitVec.ofInt_natCast, BitVec.toNat_ofNat]; exact Nat.mod_eq_of_lt (by omega)
theorem i64_or (a b : Nat) (ha : a < 9223372036854775808) (hb : b < 9223372036854775808) : bits .or .i64 (a : Int) (b : Int) = ((a ||| b : Nat) : Int) := by
  have hx : a ||| b < 2 ^ 63 := Nat.or_lt_two_pow (by omega) (by omega)
  show IntKind.i64.wrap ((BitVec.ofInt 64 (a : Int) ||| BitVec.ofInt 64 (b : Int)).toNat : Int) = _
  rw [BitVec.toNat_or, i64_ofInt a ha, i64_ofInt b hb, IntKind.wrap_i64]
  omega
theorem u8_lt (c : UInt8) : c.toNat < 256 := c.toNat_lt
theorem wrap64_id (n : Int) (h0 : -9223372036854775808 ≤ n) (h : n ≤ 9223372036854775807) : wrap64 n = n := IntWalk.wrap64_in n ⟨h0, h⟩
theorem of_step (l : Bytes) (k : Nat) (hk : k < l.length) (hl : l.length ≤ 4) :
    bits .or .i64 (ofB (l.take k) : Int) (wrap64 (wrap64 (l[k].toNat : Int) * 2 ^ (8 * k))) = (ofB (l.take (k + 1)) : Int) := by
  have hc := u8_lt l[k]
  have h1 := ofB_lt (l.take k)
  have hlen : (l.take k).length = k := by simp; omega
  rw [hlen] at h1
  have hp : 2 ^ (8 * k) ≤ 16777216 := by
    have : k ≤ 3 := by omega
    calc 2 ^ (8 * k) ≤ 2 ^ 24 := Nat.pow_le_pow_right (by omega) (by omega)
      _ = 16777216 := by decide
  have hm : 2 ^ (8 * k) * l[k].toNat ≤ 16777216 * 256 := Nat.mul_le_mul hp (by omega)
  rw [wrap64_id (l[k].toNat : Int) (by omega) (by omega)]
  have hcast : (l[k].toNat : Int) * 2 ^ (8 * k) = ((2 ^ (8 * k) * l[k].toNat : Nat) : Int) := by
    rw [Int.natCast_mul, Int.mul_comm, Int.natCast_pow]; rfl
  rw [hcast, wrap64_id _ (by omega) (by omega), i64_or _ _ (by omega) (by omega), or_add _ _ _ h1, List.take_succ_eq_append_getElem hk, ofB_snoc, hlen]
theorem ret_i64 {a b : Int} (h : a = b) : Ending.returned (.int .i64 a) = .returned (.int .i64 b) := by rw [h]
theorem int_i64 {a b : Int} (h : a = b) : Value.int .i64 a = .int .i64 b := by rw [h]

theorem of_any (A : Option Addr) (n c : Nat) (l : Bytes) (w : World) (hn : l.length = n) (hl : n ≤ 4) (hr : Rd w A l) :
    Calls Try.prog 55 #[.slice A n c] w fun e w' => e = .returned (.int .i64 (ofB l)) ∧ w = w' := by
  subst hn
  go_enter Try.func55, Try.ntmps55
  go_wp2
  go_loop [3, 8] (fun n i => ∃ k : Nat, k ≤ l.length ∧ i = .int .i64 k ∧ n = .int .i64 (ofB (l.take k))) (fun _ i => l.length - (intOf i).toNat)
  case atStart => exact ⟨0, Nat.zero_le _, rfl, rfl⟩
  case round =>
    obtain ⟨k, hk, rfl, rfl⟩ := hrel
    by_cases hlt : k < l.length
    · obtain ⟨b, off, rfl, hc⟩ := hr k hlt
      go_wp2
      go_round
      case rel => exact ⟨k + 1, by omega, by go_num, int_i64 (of_step l k hlt hl)⟩
      case measure => simp [intOf]; omega
    · go_wp2
      go_ret
      exact ⟨ret_i64 (by rw [List.take_of_length_le (by omega)]), rfl⟩

end Go.Proofs.Ytgejkhokijjemaa
/- Laid: library functions whose contracts are proved over whatever program: the table of numbers, and a field a function or a type. -/
namespace Go.Proofs.Ytgejkhokijjemaa
open Go.Shelf
def keysB_ren : Go.Shelf.Ren := ⟨fun | 7 => 20 | 10 => 47 | n => n, fun | 23 => 57 | 26 => 3 | 3 => 4 | 28 => 60 | 0 => 0 | 27 => 59 | 33 => 73 | 4 => 4 | n => n, fun | n => n⟩
theorem keysB : Go.Proofs.SlLaysZI.n7 Try.prog keysB_ren := {
  mixed := by kernel_rfl
  f7 := ⟨Try.f20.name, by decide, Try.func20.trans (congrArg some (by kernel_rfl))⟩
  f10 := ⟨Try.f47.name, by decide, Try.func47.trans (congrArg some (by kernel_rfl))⟩
  t0 := Try.underlying0
  a0 := Try.isAgg0
  z0 := Try.sizeOf0
  v0 := Try.zeroValue0
  t4 := Try.underlying4
  a4 := Try.isAgg4
  z4 := Try.sizeOf4
  v4 := Try.zeroValue4
  t23 := Try.underlying57
  a23 := Try.isAgg57
  z23 := Try.sizeOf57
  v23 := Try.zeroValue57
  t26 := Try.underlying3
  a26 := Try.isAgg3
  z26 := Try.sizeOf3
  v26 := Try.zeroValue3
  t27 := Try.underlying59
  a27 := Try.isAgg59
  z27 := Try.sizeOf59
  v27 := Try.zeroValue59
  t28 := Try.underlying60
  a28 := Try.isAgg60
  z28 := Try.sizeOf60
  v28 := Try.zeroValue60
  t33 := Try.underlying73
  a33 := Try.isAgg73
  z33 := Try.sizeOf73
  v33 := Try.zeroValue73 }
def sortedI_ren : Go.Shelf.Ren := ⟨fun | 6 => 19 | 8 => 45 | 9 => 46 | 11 => 67 | 13 => 69 | 12 => 68 | 23 => 91 | 24 => 92 | 14 => 82 | 15 => 83 | 16 => 84 | 17 => 85 | 18 => 86 | 19 => 87 | 20 => 88 | 21 => 89 | 22 => 90 | 25 => 100 | 26 => 101 | 27 => 102 | 28 => 103 | 29 => 104 | 30 => 105 | 31 => 107 | n => n, fun | 26 => 3 | 28 => 60 | 24 => 30 | 0 => 0 | 3 => 3 | 37 => 120 | 48 => 141 | 50 => 143 | 4 => 4 | 40 => 133 | 39 => 132 | 45 => 138 | 5 => 5 | 9 => 9 | 51 => 150 | 55 => 154 | 57 => 157 | 58 => 158 | 33 => 73 | n => n, fun | n => n⟩
theorem sortedI : Go.Proofs.SlLaysZI.n6 Try.prog sortedI_ren := {
  mixed := by kernel_rfl
  f6 := ⟨Try.f19.name, by decide, Try.func19.trans (congrArg some (by kernel_rfl))⟩
  f8 := ⟨Try.f45.name, by decide, Try.func45.trans (congrArg some (by kernel_rfl))⟩
  f11 := ⟨Try.f67.name, by decide, Try.func67.trans (congrArg some (by kernel_rfl))⟩
  t0 := Try.underlying0
  a0 := Try.isAgg0
  z0 := Try.sizeOf0
  v0 := Try.zeroValue0
  t24 := Try.underlying30
  a24 := Try.isAgg30
  z24 := Try.sizeOf30
  v24 := Try.zeroValue30
  t26 := Try.underlying3
  a26 := Try.isAgg3
  z26 := Try.sizeOf3
  v26 := Try.zeroValue3
  t28 := Try.underlying60
  a28 := Try.isAgg60
  z28 := Try.sizeOf60
  v28 := Try.zeroValue60
  i26 := by kernel_rfl }
def sortI_ren : Go.Shelf.Ren := ⟨fun | 5 => 46 | 8 => 69 | 7 => 68 | 19 => 91 | 20 => 92 | 10 => 82 | 11 => 83 | 12 => 84 | 13 => 85 | 14 => 86 | 15 => 87 | 16 => 88 | 17 => 89 | 18 => 90 | 30 => 100 | 31 => 101 | 32 => 102 | 33 => 103 | 34 => 104 | 35 => 105 | 40 => 107 | n => n, fun | 23 => 30 | 25 => 3 | 3 => 3 | 32 => 120 | 22 => 30 | 0 => 0 | 44 => 141 | 46 => 143 | 4 => 4 | 36 => 133 | 35 => 132 | 41 => 138 | 5 => 5 | 9 => 9 | 53 => 150 | 57 => 154 | 63 => 157 | 64 => 158 | n => n, fun | n => n⟩
theorem sortI : Go.Proofs.SlLaysM.n5 Try.prog sortI_ren := {
  mixed := by kernel_rfl
  f5 := ⟨Try.f46.name, by decide, Try.func46.trans (congrArg some (by kernel_rfl))⟩
  f7 := ⟨Try.f68.name, by decide, Try.func68.trans (congrArg some (by kernel_rfl))⟩
  f8 := Try.func69.trans (congrArg some (by kernel_rfl))
  f10 := ⟨Try.f82.name, by decide, Try.func82.trans (congrArg some (by kernel_rfl))⟩
  f11 := ⟨Try.f83.name, by decide, Try.func83.trans (congrArg some (by kernel_rfl))⟩
  f12 := ⟨Try.f84.name, by decide, Try.func84.trans (congrArg some (by kernel_rfl))⟩
  f13 := ⟨Try.f85.name, by decide, Try.func85.trans (congrArg some (by kernel_rfl))⟩
  f14 := ⟨Try.f86.name, by decide, Try.func86.trans (congrArg some (by kernel_rfl))⟩
  f15 := ⟨Try.f87.name, by decide, Try.func87.trans (congrArg some (by kernel_rfl))⟩
  f16 := ⟨Try.f88.name, by decide, Try.func88.trans (congrArg some (by kernel_rfl))⟩
  f17 := ⟨Try.f89.name, by decide, Try.func89.trans (congrArg some (by kernel_rfl))⟩
  f18 := ⟨Try.f90.name, by decide, Try.func90.trans (congrArg some (by kernel_rfl))⟩
  f19 := Try.func91.trans (congrArg some (by kernel_rfl))
  f20 := Try.func92.trans (congrArg some (by kernel_rfl))
  f30 := ⟨Try.f100.name, by decide, Try.func100.trans (congrArg some (by kernel_rfl))⟩
  f31 := Try.func101.trans (congrArg some (by kernel_rfl))
  f32 := Try.func102.trans (congrArg some (by kernel_rfl))
  f33 := ⟨Try.f103.name, by decide, Try.func103.trans (congrArg some (by kernel_rfl))⟩
  f34 := ⟨Try.f104.name, by decide, Try.func104.trans (congrArg some (by kernel_rfl))⟩
  f35 := ⟨Try.f105.name, by decide, Try.func105.trans (congrArg some (by kernel_rfl))⟩
  f40 := ⟨Try.f107.name, by decide, Try.func107.trans (congrArg some (by kernel_rfl))⟩
  t0 := Try.underlying0
  a0 := Try.isAgg0
  z0 := Try.sizeOf0
  v0 := Try.zeroValue0
  t3 := Try.underlying3
  a3 := Try.isAgg3
  z3 := Try.sizeOf3
  v3 := Try.zeroValue3
  t4 := Try.underlying4
  a4 := Try.isAgg4
  z4 := Try.sizeOf4
  v4 := Try.zeroValue4
  t5 := Try.underlying5
  a5 := Try.isAgg5
  z5 := Try.sizeOf5
  v5 := Try.zeroValue5
  t9 := Try.underlying9
  a9 := Try.isAgg9
  z9 := Try.sizeOf9
  v9 := Try.zeroValue9
  t22 := Try.underlying30
  a22 := Try.isAgg30
  z22 := Try.sizeOf30
  v22 := Try.zeroValue30
  t23 := Try.underlying30
  a23 := Try.isAgg30
  z23 := Try.sizeOf30
  v23 := Try.zeroValue30
  t25 := Try.underlying3
  a25 := Try.isAgg3
  z25 := Try.sizeOf3
  v25 := Try.zeroValue3
  t32 := Try.underlying120
  a32 := Try.isAgg120
  z32 := Try.sizeOf120
  v32 := Try.zeroValue120
  t35 := Try.underlying132
  a35 := Try.isAgg132
  z35 := Try.sizeOf132
  v35 := Try.zeroValue132
  t36 := Try.underlying133
  a36 := Try.isAgg133
  z36 := Try.sizeOf133
  v36 := Try.zeroValue133
  t41 := Try.underlying138
  a41 := Try.isAgg138
  z41 := Try.sizeOf138
  v41 := Try.zeroValue138
  t44 := Try.underlying141
  a44 := Try.isAgg141
  z44 := Try.sizeOf141
  v44 := Try.zeroValue141
  t46 := Try.underlying143
  a46 := Try.isAgg143
  z46 := Try.sizeOf143
  v46 := Try.zeroValue143
  t53 := Try.underlying150
  a53 := Try.isAgg150
  z53 := Try.sizeOf150
  v53 := Try.zeroValue150
  t57 := Try.underlying154
  a57 := Try.isAgg154
  z57 := Try.sizeOf154
  v57 := Try.zeroValue154
  t63 := Try.underlying157
  a63 := Try.isAgg157
  z63 := Try.sizeOf157
  v63 := Try.zeroValue157
  t64 := Try.underlying158
  a64 := Try.isAgg158
  z64 := Try.sizeOf158
  v64 := Try.zeroValue158 }
end Go.Proofs.Ytgejkhokijjemaa
/- The contract of num.Set: it writes the bytes of a number into a block. -/
namespace Go.Proofs.Ytgejkhokijjemaa
open Go.RowKit

/-- a row in which other values stand from i on -/
def setB (cur : Array Value) (i : Nat) (l : List Value) : Array Value := (splice cur.toList i l).toArray
theorem setB_size (cur : Array Value) (i : Nat) (l : List Value) (h : i + l.length ≤ cur.size) : (setB cur i l).size = cur.size := by
  simp only [setB, List.size_toArray]; rw [length_splice _ _ _ (by simpa using h)]; simp
theorem setB_nil (cur : Array Value) (i : Nat) : setB cur i [] = cur := by simp [setB, splice]
theorem setB_snoc (cur : Array Value) (i : Nat) (l : List Value) (v : Value) (h : i + l.length < cur.size) :
    (setB cur i l).setIfInBounds (i + l.length) v = setB cur i (l ++ [v]) := by
  apply Array.ext'
  obtain ⟨cur⟩ := cur
  simp only [List.size_toArray] at h
  simp only [setB, splice, List.setIfInBounds_toArray]
  rw [List.set_append_right _ _ (by simp; omega)]
  have h1 : i + l.length - (cur.take i).length = l.length := by simp; omega
  rw [h1, List.set_append_right _ _ (by omega), Nat.sub_self]
  rw [List.drop_eq_getElem_cons h]
  simp [List.append_assoc, Nat.add_assoc]
theorem setB_at (cur : Array Value) (i : Nat) (l : List Value) (j : Nat) (h : i + l.length ≤ cur.size) :
    (setB cur i l)[j]? = if i ≤ j ∧ j < i + l.length then l[j - i]? else cur[j]? := by
  obtain ⟨cur⟩ := cur
  simp only [List.size_toArray] at h
  simp only [setB, splice, List.getElem?_toArray]
  have hl : (cur.take i).length = i := by simp; omega
  by_cases h1 : j < i
  · rw [if_neg (by omega), List.getElem?_append_left (by omega), List.getElem?_take, if_pos h1]
  · rw [List.getElem?_append_right (by omega), hl]
    by_cases h2 : j < i + l.length
    · rw [if_pos (by omega), List.getElem?_append_left (by omega)]
    · rw [if_neg (by omega), List.getElem?_append_right (by omega), List.getElem?_drop]
      congr 1; omega

/-- block g is a row of bytes of which the first are l; cap: how many cells; e: the type byte -/
def Row (w : World) (e g cap : Nat) (l : Bytes) : Prop :=
  ∃ cur, w.heap[g]? = some (.cells cur e (0, 0)) ∧ l.length ≤ cap ∧ cap ≤ maxLen ∧ cur.size = cap ∧ cur.toList.take l.length = l.map bv
section
variable {w w' : World} {e g cap : Nat} {l : Bytes}
theorem Row.own (h : Row w e g cap l) {base : Nat} (hb : base ≤ g) : Own w base e (.slice (some ⟨g, 0, none⟩) l.length cap) l := by
  obtain ⟨cur, hg, h1, h2, h3, h4⟩ := h
  exact ⟨by simp, .inr ⟨g, cap, cur, rfl, hb, hg, h1, h2, by omega, by simpa using h4⟩⟩
theorem Row.of_own {base : Nat} {v : Value} (h : Own w base e v l) (hn : v ≠ .slice none 0 0) : ∃ g cap, v = .slice (some ⟨g, 0, none⟩) l.length cap ∧ base ≤ g ∧ Row w e g cap l := by
  rcases h.2 with ⟨rfl, _⟩ | ⟨g, cap, cur, rfl, hb, hg, h1, h2, h3, h4⟩
  · exact absurd rfl hn
  · exact ⟨g, cap, rfl, hb, cur, hg, h1, h2, by omega, by simpa using h4⟩
theorem Row.cell (h : Row w e g cap l) (j : Nat) (hj : j < l.length) : w.cell? ⟨g, j, none⟩ = some (bv l[j]) := by
  obtain ⟨cur, hg, h1, h2, h3, h4⟩ := h
  rw [cell_of_row w g j cur e (0, 0) hg]
  have h5 : (l.map bv)[j]? = some (bv l[j]) := by simp [hj]
  rw [← h4, List.getElem?_take, if_pos (by omega)] at h5
  simpa using h5
theorem Row.rd (h : Row w e g cap l) : Rd w (some ⟨g, 0, none⟩) l := fun j hj => ⟨g, 0, rfl, by rw [Nat.zero_add]; exact h.cell j hj⟩
theorem Row.below {B : Nat} (h : Row w e g cap l) (hb : Below B w w') (hg : g < B) : Row w' e g cap l := by
  obtain ⟨cur, h0, h1⟩ := h
  exact ⟨cur, (hb.block g hg).trans h0, h1⟩
theorem Row.lt (h : Row w e g cap l) : g < w.heap.size := by
  obtain ⟨cur, h0, _⟩ := h
  exact (Array.getElem?_eq_some_iff.1 h0).1
theorem Row.le (h : Row w e g cap l) : l.length ≤ cap ∧ cap ≤ maxLen := by
  obtain ⟨cur, _, h1, h2, _⟩ := h
  exact ⟨h1, h2⟩
theorem splice_len (l bs : Bytes) (i : Nat) (h : i + bs.length ≤ l.length) : (splice l i bs).length = l.length := length_splice l i bs h
theorem Row.set_ (h : Row w e g cap l) (i : Nat) (bs : Bytes) (hi : i + bs.length ≤ l.length) (cur : Array Value) (hc : w.heap[g]? = some (.cells cur e (0, 0))) :
    Row (w.setRow g (setB cur i (bs.map bv))) e g cap (splice l i bs) := by
  obtain ⟨cur', hg, h1, h2, h3, h4⟩ := h
  rw [hc] at hg
  injection hg with hg
  injection hg with hg
  subst hg
  refine ⟨_, setRow_heap w g cur _ e _ hc, by rw [splice_len _ _ _ hi]; exact h1, h2, by rw [setB_size _ _ _ (by simp; omega)]; exact h3, ?_⟩
  have hlen := splice_len l bs i hi
  apply List.ext_getElem?
  intro j
  rw [hlen, List.getElem?_take]
  by_cases hj : j < l.length
  · rw [if_pos hj]
    have h5 : cur[j]? = (l.map bv)[j]? := by rw [← h4, List.getElem?_take, if_pos hj]; simp
    have h6 : (setB cur i (bs.map bv)).toList[j]? = (setB cur i (bs.map bv))[j]? := by simp
    rw [h6, setB_at _ _ _ _ (by simp; omega), h5]
    simp only [splice, List.length_map]
    have hl : (l.take i).length = i := by simp; omega
    rw [List.getElem?_map, List.getElem?_map, List.getElem?_map]
    by_cases h7 : j < i
    · rw [if_neg (by omega), List.getElem?_append_left (by omega), List.getElem?_take, if_pos h7]
    · rw [List.getElem?_append_right (by omega), hl]
      by_cases h8 : j < i + bs.length
      · rw [if_pos (by omega), List.getElem?_append_left (by omega)]
      · rw [if_neg (by omega), List.getElem?_append_right (by omega), List.getElem?_drop]
        congr 2; omega
  · rw [if_neg hj, List.getElem?_eq_none (by simp; omega)]
end

/-- the bytes of a number, the low one first -/
def numB (n : Nat) : Nat → Bytes
  | 0 => []
  | k + 1 => UInt8.ofNat (n % 256) :: numB (n / 256) k
theorem numB_length (n k : Nat) : (numB n k).length = k := by
  induction k generalizing n with
  | zero => rfl
  | succ k ih => simp [numB, ih]
theorem numB_succ (n k : Nat) : numB n (k + 1) = numB n k ++ [UInt8.ofNat (n / 2 ^ (8 * k) % 256)] := by
  induction k generalizing n with
  | zero => simp [numB]
  | succ k ih =>
    rw [numB, ih (n / 256)]
    conv => rhs; rw [numB]
    simp only [List.cons_append, List.cons.injEq, List.append_cancel_left_eq, true_and, and_true]
    rw [Nat.div_div_eq_div_mul, show 8 * (k + 1) = 8 + 8 * k from by omega, Nat.pow_add]

theorem ofNat_mod (n : Nat) : (UInt8.ofNat (n % 256)).toNat = n % 256 := by simp [UInt8.toNat_ofNat']

theorem set_any (g off len cap T : Nat) (cur : Array Value) (at_ n size : Nat) (w : World) (hb : w.heap[g]? = some (.cells cur T (0, 0)))
    (hs : size ≤ 4) (hat : at_ + size ≤ len) (hlen : len ≤ maxLen) (hcur : off + len ≤ cur.size) :
    Calls Try.prog 33 #[.slice (some ⟨g, off, none⟩) len cap, .int .i64 at_, .int .i64 n, .int .i64 size] w
      fun e w' => e = .returned (.tuple #[]) ∧ w' = w.setRow g (setB cur (off + at_) ((numB n size).map bv)) := by
  unfold maxLen at hlen
  go_enter Try.func33, Try.ntmps33
  go_wp2
  go_loopw [10] (fun i wr => ∃ k : Nat, k ≤ size ∧ i = .int .i64 k ∧ wr = w.setRow g (setB cur (off + at_) ((numB n k).map bv))) (fun i _ => size - (intOf i).toNat)
  case atStart => exact ⟨0, Nat.zero_le _, rfl, by simp [numB, setB_nil, setRow_self w g cur T _ hb]⟩
  case round =>
    obtain ⟨k, hk, rfl, hwr⟩ := hrel
    by_cases hlt : k < size
    · have hsz : off + at_ + ((numB n k).map bv).length ≤ cur.size := by simp [numB_length]; omega
      have hg : wr.heap[g]? = some (.cells (setB cur (off + at_) ((numB n k).map bv)) T (0, 0)) := by rw [hwr]; exact setRow_heap w g cur _ T _ hb
      have hi : off + (at_ + k) < (setB cur (off + at_) ((numB n k).map bv)).size := by rw [setB_size _ _ _ hsz]; omega
      have hcell : wr.cell? ⟨g, off + (at_ + k), none⟩ = some (setB cur (off + at_) ((numB n k).map bv))[off + (at_ + k)] := by
        rw [cell_of_row wr g _ _ _ _ hg]; exact Array.getElem?_eq_getElem hi
      have hfr : wr.frozen? ⟨g, off + (at_ + k), none⟩ = false := frozen_of_row wr g _ _ T hg
      have hnext : wr.setCell ⟨g, off + (at_ + k), none⟩ (.int .u8 ((n : Int) / 2 ^ (8 * k) % 256)) = w.setRow g (setB cur (off + at_) ((numB n (k + 1)).map bv)) := by
        rw [setCell_eq_setRow wr g _ _ T _ _ hg, hwr, setRow_setRow]
        congr 1
        have h1 := setB_snoc cur (off + at_) ((numB n k).map bv) (.int .u8 ((n : Int) / 2 ^ (8 * k) % 256)) (by simp [numB_length]; omega)
        rw [show off + (at_ + k) = off + at_ + ((numB n k).map bv).length from by simp [numB_length]; omega, h1, numB_succ, List.map_append]
        congr 2
        simp only [List.map_cons, List.map_nil, bv, ofNat_mod]
        rfl
      have HN := Hidden.mk hnext
      clear hnext hg hwr hsz
      generalize (setB cur (off + at_) ((numB n k).map bv))[off + (at_ + k)] = u at hcell
      clear hi
      go_wp2
      go_roundw
      case rel => exact ⟨k + 1, by omega, by go_num, HN.out⟩
      case measure => simp [intOf]; omega
    · obtain rfl : k = size := by omega
      subst hwr
      go_wp2
      go_end0
      exact ⟨rfl, rfl⟩
end Go.Proofs.Ytgejkhokijjemaa
/- The contracts of num.Get, slices.Clone and num.Put. -/
namespace Go.Proofs.Ytgejkhokijjemaa
open Go.RowKit

/-- an error of the program: nil, or a number of api.Errno -/
def errV (n : Nat) : Value := if n = 0 then .nilIface else .iface 53 (.int .i64 n)
def getE (n : Nat) (at_ size : Int) : Nat := if 1 ≤ size ∧ size ≤ 4 then (if at_ < 0 ∨ (n : Int) - size < at_ then 3 else 0) else 1
def getN (l : Bytes) (at_ size : Int) : Nat := ofB ((l.drop at_.toNat).take size.toNat)

theorem byte_info : (Try.prog.info? 5).map (fun i => (i.zero, i.size, i.bytes)) = some (some (.int .u8 0), 1, 1) := by kernel_rfl

/-- slices.Clone of bytes: nil stays nil, else the call's own -/
theorem clone_nil (n c : Nat) (w : World) : Calls Try.prog 17 #[.slice none n c] w fun e w' => e = .returned (.slice none 0 0) ∧ w = w' := by
  have he := fun W => Lib.run_eql_slice_nil (P := Try.prog) W 22 5 none n c 0 0 Try.underlying22
  go_enter Try.func17, Try.ntmps17
  go_wp2
  go_ret
  exact ⟨rfl, rfl⟩
theorem clone_some (ad : Addr) (n c : Nat) (l : Bytes) (w : World) (hn : l.length = n) (hl : n ≤ 140737488351232) (hr : Rd w (some ad) l) :
    Calls Try.prog 17 #[.slice (some ad) n c] w fun e w' => ∃ g cap, e = .returned (.slice (some ⟨g, 0, none⟩) n cap) ∧ w.heap.size ≤ g ∧ Row w' 5 g cap l ∧ Below w.heap.size w w' := by
  subst hn
  have he := fun W => Lib.run_eql_slice_nil (P := Try.prog) W 22 5 (some ad) l.length c 0 0 Try.underlying22
  obtain ⟨i0, hi0, hz0, hz1, hz2⟩ := info_parts byte_info
  go_enter Try.func17, Try.ntmps17
  have hown := World.ownsRow_lit (base := w.heap.size) (e := 5) (size := 1) w #[] 0 (Nat.le_refl _) (by simp) rfl
  have hr1 : Rd (w.alloc (.cells #[] 5)) (some ad) l := hr.below ((Below.refl _ _).alloc (Nat.le_refl _) _)
  go_wp2_with (at_builtin; refine wpList_append_own _ rfl (.tmp 5) (.tmp 6) _ rfl w.heap.size 5 i0 _ 1 1 Try.underlying22 hi0 hz0 hz1 hz2 rfl (by decide) (.slice (some ⟨w.heap.size, 0, none⟩) 0 0) 0 [] rfl hown ad l.length c (l.map bv) rfl (by simp) hr1.cells one_bv (by simp only [maxLen]; omega) (by omega) (by simp) ?_; intro v1 w1 hown1 hg1 hnn)
  go_ret
  have hnn' : v1 ≠ .slice none 0 0 := fun h => by have := hnn.1 h; simp at this
  obtain ⟨g, cap, rfl, hbg, hrow⟩ := Row.of_own (l := l) (by simpa [Own] using hown1) hnn'
  refine ⟨g, cap, rfl, hbg, hrow, ?_⟩
  · exact ((Below.refl _ _).alloc (Nat.le_refl _) _).grown hg1 (by simp) (fun k hk => by simp [Value.ownBlock] at hk; omega)

def putE (n : Nat) (at_ x size : Int) : Nat := if 1 ≤ size ∧ size ≤ 4 ∧ 0 ≤ x ∧ x ≤ mostN size then (if at_ < 0 ∨ (n : Int) - size < at_ then 3 else 0) else 1
def putB (l : Bytes) (at_ x size : Int) : Bytes := splice l at_.toNat (numB x.toNat size.toNat)
theorem isNil_err (n : Nat) : errV (n + 1) ≠ .nilIface := by simp [errV]
end Go.Proofs.Ytgejkhokijjemaa
/- Runs of make and copy over bytes, as equations for a walk. -/
namespace Go.Proofs.Ytgejkhokijjemaa
open Go.RowKit

/-- so many zeros, as cells -/
def zeroRow (n : Nat) : Array Value := Array.replicate n (.int .u8 0)
theorem zeroRow_size (n : Nat) : (zeroRow n).size = n := by simp [zeroRow]
theorem zeroRow_list (n : Nat) : (zeroRow n).toList = (List.replicate n (0 : UInt8)).map bv := by simp [zeroRow]
/-- make([]byte, n) -/
theorem mk_bytes (z : Int) (n : Nat) (hz : z = n) (hn : n ≤ 281474976710656) (w : World) :
    (Instr.makeSlice 22 (.int .i64 z) (.int .i64 z)).run Try.prog w = .ok (.slice (some ⟨w.heap.size, 0, none⟩) n n) (w.alloc (.cells (zeroRow n) 5)) := by
  subst hz
  obtain ⟨i0, hi0, hz0, hz1, hz2⟩ := info_parts byte_info
  have hr := run_make (P := Try.prog) w 22 5 i0 _ Try.underlying22 hi0 hz0 .i64 .i64 n n (by omega) (by omega) (by rw [hz2]; omega) (by omega)
  simp only [Int.toNat_natCast, hz1, Nat.mul_one] at hr
  have hcells : madeCells (Value.int IntKind.u8 0).cells n = zeroRow n := by
    apply Array.ext'
    rw [show (Value.int IntKind.u8 0).cells = #[Value.int IntKind.u8 0] from rfl, toList_madeCells_one, zeroRow]
    simp
  rw [hcells] at hr
  exact hr
theorem row_zeros (w : World) (n : Nat) (hn : n ≤ maxLen) : Row (w.alloc (.cells (zeroRow n) 5)) 5 w.heap.size n (List.replicate n 0) :=
  ⟨_, heap_alloc_new w _, by simp, hn, zeroRow_size n, by rw [List.take_of_length_le (by rw [Array.length_toList, zeroRow_size]; simp), zeroRow_list]⟩

/-- copy of a text into a row -/
theorem run_copy_text (w : World) (g o dLen dCap k : Nat) (l : Bytes) (cur : Array Value) (T : Nat) (hg : w.heap[g]? = some (.cells cur T (0, 0))) (hk : k = Nat.min l.length dLen) (hfit : o + k ≤ cur.size) (ty : TypeId) :
    (Builtin.copy_ #[22, 9] ty #[.slice (some ⟨g, o, none⟩) dLen dCap, .string ⟨l.toArray⟩]).run Try.prog w = .ok (.int .i64 (k : Int)) (w.setRow g (setB cur o ((l.take k).map bv))) := by
  obtain ⟨i0, hi0, hz0, hz1, hz2⟩ := info_parts byte_info
  have hkl : k ≤ l.length := by rw [hk]; exact Nat.min_le_left _ _
  have hlen : ((l.take k).map bv).length = k := by simp; omega
  have hst := run_storeCells_at Try.prog g o T ((l.take k).map bv) 0 cur w hg (by rw [hlen]; simpa using hfit) one_bv
  have hsz : (⟨l.toArray⟩ : ByteArray).size = l.length := by simp [ByteArray.size]
  generalize hcs : (l.take k).map bv = cs at hst hlen ⊢
  subst hlen
  have hcs2 : List.take cs.length (List.map (fun b => Value.int IntKind.u8 (b.toNat : Int)) l) = cs := by rw [← List.map_take]; exact hcs
  simp only [Nat.add_zero] at hst
  simp [Builtin.copy_, run_underlying Try.underlying22, Builtin.lenOf, Builtin.firstCells, sizeOf, typeInfo, hi0, hsz, ← hk, goInt, setB, splice]
  rw [hcs2, hst]
  simp
/-- copy of bytes into a row -/
theorem run_copy_rd (w : World) (g o dLen dCap n c k : Nat) (A : Option Addr) (l : Bytes) (cur : Array Value) (T : Nat) (hg : w.heap[g]? = some (.cells cur T (0, 0))) (hn : l.length = n) (hr : Rd w A l)
    (hk : k = Nat.min n dLen) (hfit : o + k ≤ cur.size) (ty : TypeId) :
    (Builtin.copy_ #[22, 22] ty #[.slice (some ⟨g, o, none⟩) dLen dCap, .slice A n c]).run Try.prog w = .ok (.int .i64 (k : Int)) (w.setRow g (setB cur o ((l.take k).map bv))) := by
  subst hn
  obtain ⟨i0, hi0, hz0, hz1, hz2⟩ := info_parts byte_info
  have hkl : k ≤ l.length := by rw [hk]; exact Nat.min_le_left _ _
  have hlen : ((l.take k).map bv).length = k := by simp; omega
  rcases A with _ | ad
  · have h0 : l = [] := by
      cases l with
      | nil => rfl
      | cons x r => obtain ⟨b, off, h, _⟩ := hr 0 (by simp); cases h
    subst h0
    have hk0 : k = 0 := by simp at hkl; exact hkl
    subst hk0
    simp only [List.take_nil, List.map_nil, setB_nil, setRow_self w g cur T _ hg]
    simp [Builtin.copy_, run_underlying Try.underlying22, Builtin.lenOf, Builtin.firstCells, sizeOf, typeInfo, hi0, goInt, storeCells]
  · have hr2 := run_copy_row (P := Try.prog) w 22 22 ty 5 g o dLen dCap ad l.length c cur T ((l.take k).map bv) Try.underlying22 (by rw [hi0]; simp [hz1]) hg (by rw [hlen, hk])
      (fun j v hj => (hr.take k hkl).cells j v hj) (by rw [hlen]; exact hfit) one_bv
    have he : ∀ X : List Value, (cur.toList.take o ++ X ++ cur.toList.drop (o + X.length)).toArray = setB cur o X := fun X => by simp [setB, splice]
    rw [he] at hr2
    rw [hr2, hlen]
    rfl
/-- s[i:k] of bytes -/
theorem run_cut (p off n c i k : Nat) (hik : i ≤ k) (hkc : k ≤ c) (hlt : i < c) (W : World) :
    (Instr.sliceAt 22 (.slice (some ⟨p, off, none⟩) n c) (some (.int .i64 i)) (some (.int .i64 k)) none).run Try.prog W = .ok (.slice (some ⟨p, off + i, none⟩) (k - i) (c - i)) W := by
  obtain ⟨i0, hi0, hz0, hz1, hz2⟩ := info_parts byte_info
  have h3 : ¬ c = i := by omega
  simp [Instr.sliceAt, Instr.slice, Instr.sliceBounds, Instr.sliceBound, run_underlying Try.underlying22, asIntOf, sizeOf, typeInfo, hi0, hz1, hik, hkc, h3, Addr.add_lit]
end Go.Proofs.Ytgejkhokijjemaa
/- append of whatever slice onto one of the call's own; clear of a part of a row of bytes. -/
namespace Go.Proofs.Ytgejkhokijjemaa
open Go.RowKit

/-- the slice that begins at A has these cells, each element of so many -/
structure Src (w : World) (size : Nat) (A : Option Addr) (m : Nat) (news : List Value) : Prop where
  len : news.length = m * size
  cells : ∀ j u, news[j]? = some u → ∃ ad, A = some ad ∧ w.cell? (ad.add j) = some u
theorem Src.of_own {w : World} {base e size n : Nat} {v : Value} {xs : List Value} (h : w.ownsRow base e size v n xs) : ∃ A c, v = .slice A n c ∧ n ≤ c ∧ Src w size A n xs := by
  rcases h.2 with ⟨rfl, rfl⟩ | ⟨g, cap, cur, rfl, _, hh, hc, hm, hz, ht⟩
  · have hx : xs = [] := List.eq_nil_of_length_eq_zero (by have := h.1; simpa using this)
    subst hx
    exact ⟨none, 0, rfl, Nat.le_refl _, by simp, fun j u hu => by simp at hu⟩
  · exact ⟨_, cap, rfl, hc, h.1, fun j u hu => ⟨_, rfl, h.cells (g := g) rfl j u hu⟩⟩
theorem Src.below {w w' : World} {size : Nat} {A : Option Addr} {m : Nat} {news : List Value} (h : Src w size A m news) (hb : Below w.heap.size w w') : Src w' size A m news :=
  ⟨h.len, fun j u hu => by
    obtain ⟨ad, hA, hc⟩ := h.cells j u hu
    exact ⟨ad, hA, (hb.cell (p := ad.add j) (World.block_lt_of_cell? w _ hc)).trans hc⟩⟩
theorem Src.of_rd {w : World} {A : Option Addr} {l : Bytes} (h : Rd w A l) : Src w 1 A l.length (l.map bv) :=
  ⟨by simp, fun j u hu => by
    have hj : j < l.length := by
      have := (List.getElem?_eq_some_iff.1 hu).1
      simpa using this
    obtain ⟨b, off, rfl, hc⟩ := h j hj
    refine ⟨_, rfl, ?_⟩
    rw [Addr.add_lit, hc, ← hu]
    simp [hj]⟩
section
variable {P : Program}
theorem run_append_src (w : World) (base : Nat) (t ty e : TypeId) (i : TypeInfo) (z : Value) (size bytes : Nat) (ht : P.underlying t = some (.slice e)) (hi : P.info? e = some i) (hz : i.zero = some z)
    (hsize : i.size = size) (hby : i.bytes = bytes) (hzs : z.cells.size = size) (hsz : 0 < size)
    (v : Value) (n : Nat) (xs : List Value) (hown : w.ownsRow base e size v n xs) (A : Option Addr) (m c : Nat) (news : List Value) (hr : Src w size A m news) (h1 : ∀ u ∈ news, u.oneCell' = true)
    (h63 : n + m ≤ maxLen) (hbytes : (n + m) * bytes ≤ 140737488355328) (hbase : base ≤ w.heap.size) :
    ∃ v' w', (Builtin.append_ #[t, t] ty #[v, .slice A m c]).run P w = .ok v' w' ∧ w'.ownsRow base e size v' (n + m) (xs ++ news) ∧ w.grownBy w' v.ownBlock ∧ (v'.ownBlock = v.ownBlock ∨ v'.ownBlock = some w.heap.size) := by
  rcases A with _ | ad
  · have hx : news = [] := by
      cases news with
      | nil => rfl
      | cons u r => obtain ⟨ad, h, _⟩ := hr.cells 0 u (by simp); cases h
    subst hx
    have hm : m = 0 := by
      have h2 := hr.len
      rcases Nat.eq_zero_or_pos m with h0 | h0
      · exact h0
      · have := Nat.mul_pos h0 hsz
        simp only [List.length_nil] at h2
        omega
    subst hm
    refine ⟨v, w, ?_, by simpa using hown, World.grownBy.refl w _, .inl rfl⟩
    rcases hown.2 with ⟨rfl, rfl⟩ | ⟨g, cap, cur, rfl, _, _, hnc, _⟩
    · simp [Builtin.append_, run_underlying ht, sizeOf, typeInfo, hi, Builtin.lenOf, Builtin.firstCells]
    · simp [Builtin.append_, run_underlying ht, sizeOf, typeInfo, hi, Builtin.lenOf, Builtin.firstCells, hnc, storeCells]
  · have hcells : ∀ j u, news[j]? = some u → w.cell? (ad.add j) = some u := fun j u hu => by
      obtain ⟨ad', h, hc⟩ := hr.cells j u hu
      injection h with h
      subst h
      exact hc
    obtain ⟨v', w', hrun, h2, h3, _, h5⟩ := run_append_own_at (P := P) w base t ty e i z size bytes ht hi hz hsize hby hzs hsz v n xs hown ad m c news hr.len hcells h1 h63 hbytes hbase
    exact ⟨v', w', hrun, h2, h3, h5⟩
theorem wp_append_src (w : World) {o : Oper} {a : Act} {K : Act → World → Prop} {Q : Exit → Act → World → Prop} (s x : Operand) (t : TypeId)
    (ho : o.op = .call { callee := .builtin .append, args := #[s, x], argTypes := #[t, t] })
    (base : Nat) (e : TypeId) (i : TypeInfo) (z : Value) (size bytes : Nat) (ht : P.underlying t = some (.slice e)) (hi : P.info? e = some i) (hz : i.zero = some z)
    (hsize : i.size = size) (hby : i.bytes = bytes) (hzs : z.cells.size = size) (hsz : 0 < size)
    (v : Value) (n : Nat) (xs : List Value) (hs : a.eval s = v) (hown : w.ownsRow base e size v n xs) (A : Option Addr) (m c : Nat) (news : List Value) (hx : a.eval x = .slice A m c) (hr : Src w size A m news) (h1 : ∀ u ∈ news, u.oneCell' = true)
    (h63 : n + m ≤ maxLen) (hbytes : (n + m) * bytes ≤ 140737488355328) (hbase : base ≤ w.heap.size)
    (h : ∀ v' w', w'.ownsRow base e size v' (n + m) (xs ++ news) → w.grownBy w' v.ownBlock → (v'.ownBlock = v.ownBlock ∨ v'.ownBlock = some w.heap.size) → K (a.put o.dst v') w') : o.wp P a w K Q := by
  obtain ⟨v', w', hrun, h2, h3, h4⟩ := run_append_src (P := P) w base t o.type e i z size bytes ht hi hz hsize hby hzs hsz v n xs hown A m c news hr h1 h63 hbytes hbase
  unfold Oper.wp execOp
  simp only [ho, resolve, invoke, builtin, Sem.run_bind, Sem.run_pure, Result.andThen_ok, List.map_toArray, List.map_cons, List.map_nil, hs, hx, hrun]
  exact h v' w' h2 h3 h4
theorem wpList_append_src (w : World) {ops : Array Oper} {rest : List Oper} {o : Oper} {a : Act} {Q : Exit → Act → World → Prop} (hgd : o.guard = none) (s x : Operand) (t : TypeId)
    (ho : o.op = .call { callee := .builtin .append, args := #[s, x], argTypes := #[t, t] })
    (base : Nat) (e : TypeId) (i : TypeInfo) (z : Value) (size bytes : Nat) (ht : P.underlying t = some (.slice e)) (hi : P.info? e = some i) (hz : i.zero = some z)
    (hsize : i.size = size) (hby : i.bytes = bytes) (hzs : z.cells.size = size) (hsz : 0 < size)
    (v : Value) (n : Nat) (xs : List Value) (hs : a.eval s = v) (hown : w.ownsRow base e size v n xs) (A : Option Addr) (m c : Nat) (news : List Value) (hx : a.eval x = .slice A m c) (hr : Src w size A m news) (h1 : ∀ u ∈ news, u.oneCell' = true)
    (h63 : n + m ≤ maxLen) (hbytes : (n + m) * bytes ≤ 140737488355328) (hbase : base ≤ w.heap.size)
    (h : ∀ v' w', w'.ownsRow base e size v' (n + m) (xs ++ news) → w.grownBy w' v.ownBlock → (v'.ownBlock = v.ownBlock ∨ v'.ownBlock = some w.heap.size) → wpList P ops Q rest (a.put o.dst v') w') : wpList P ops Q (o :: rest) a w :=
  wpList_plain hgd fun _ hK => wp_append_src w s x t ho base e i z size bytes ht hi hz hsize hby hzs hsz v n xs hs hown A m c news hx hr h1 h63 hbytes hbase fun v' w' h2 h3 h4 => hK _ _ (h v' w' h2 h3 h4)
theorem step_append_src (w : World) {ops : Array Oper} {o : Oper} {a : Act} {K : Act → World → Prop} {Q : Exit → Act → World → Prop} {E : Prop} (hgd : o.guard = none) (s x : Operand) (t : TypeId)
    (ho : o.op = .call { callee := .builtin .append, args := #[s, x], argTypes := #[t, t] })
    (base : Nat) (e : TypeId) (i : TypeInfo) (z : Value) (size bytes : Nat) (ht : P.underlying t = some (.slice e)) (hi : P.info? e = some i) (hz : i.zero = some z)
    (hsize : i.size = size) (hby : i.bytes = bytes) (hzs : z.cells.size = size) (hsz : 0 < size)
    (v : Value) (n : Nat) (xs : List Value) (hs : a.eval s = v) (hown : w.ownsRow base e size v n xs) (A : Option Addr) (m c : Nat) (news : List Value) (hx : a.eval x = .slice A m c) (hr : Src w size A m news) (h1 : ∀ u ∈ news, u.oneCell' = true)
    (h63 : n + m ≤ maxLen) (hbytes : (n + m) * bytes ≤ 140737488355328) (hbase : base ≤ w.heap.size)
    (h : ∀ v' w', w'.ownsRow base e size v' (n + m) (xs ++ news) → w.grownBy w' v.ownBlock → (v'.ownBlock = v.ownBlock ∨ v'.ownBlock = some w.heap.size) → K (a.put o.dst v') w') :
    if Region.wanted o (yielded ops a.tmps) = true then Oper.wp P o a w K Q else E := by
  have hw : Region.wanted o (yielded ops a.tmps) = true := by simp [Region.wanted, hgd]
  rw [if_pos hw]
  exact wp_append_src w s x t ho base e i z size bytes ht hi hz hsize hby hzs hsz v n xs hs hown A m c news hx hr h1 h63 hbytes hbase h
end

/-- n zeros -/
theorem zeros_bv (n : Nat) : (List.replicate n (0 : UInt8)).map bv = List.replicate n (.int .u8 0) := by simp
theorem zero_byte (w : World) : (zeroValue 5).run Try.prog w = .ok (.int .u8 0) w := by kernel_rfl
theorem run_clear_row (w : World) (g o n c : Nat) (cur : Array Value) (T : Nat) (hg : w.heap[g]? = some (.cells cur T (0, 0))) (hn : 0 < n) (hfit : o + n ≤ cur.size) (ty : TypeId) :
    (Builtin.clear_ #[22] ty #[.slice (some ⟨g, o, none⟩) n c]).run Try.prog w = .ok (.tuple #[]) (w.setRow g (setB cur o ((List.replicate n (0 : UInt8)).map bv))) := by
  have hst := run_storeCells_at Try.prog g o T (List.replicate n (.int .u8 0)) 0 cur w hg (by simp; omega) (by intro v hv; rw [List.eq_of_mem_replicate hv]; rfl)
  have hzc : (Builtin.zeroCells (Value.int IntKind.u8 0).cells n).toList = List.replicate n (.int .u8 0) := by
    rw [show (Value.int IntKind.u8 0).cells = #[Value.int IntKind.u8 0] from rfl]
    simp [Builtin.zeroCells]
    apply List.ext_getElem
    · simp
    · intro i h1 h2; simp [Nat.mod_one]
  rw [zeros_bv]
  obtain ⟨m, rfl⟩ : ∃ m, n = m + 1 := ⟨n - 1, by omega⟩
  simp only [Nat.add_zero] at hst
  have hv := zero_byte
  simp [Builtin.clear_, run_underlying Try.underlying22, hv, hzc, hst, setB, splice]
theorem grownBy_setRow (w : World) (g : Nat) (x : Array Value) : w.grownBy (w.setRow g x) (some g) := by
  refine ⟨rfl, rfl, rfl, ?_, fun k hk hne => ?_⟩
  · exact (below_setRow (B := g) (Below.refl _ w) (Nat.le_refl _) x).size
  · have hkg : k ≠ g := fun e => hne (by rw [e])
    rcases Nat.lt_or_gt_of_ne hkg with h | h
    · exact (below_setRow (B := g) (Below.refl _ w) (Nat.le_refl _) x).block k h
    · simp [World.setRow, Array.getElem?_modify, hkg.symm]
/-- s[i:k], s[i:] of bytes, wherever they lie -/
theorem run_cutA (A : Option Addr) (n c i k : Nat) (hik : i ≤ k) (hkc : k ≤ c) (W : World) :
    (Instr.sliceAt 22 (.slice A n c) (some (.int .i64 i)) (some (.int .i64 k)) none).run Try.prog W = .ok (.slice (if c = i then A else A.map (·.add i)) (k - i) (c - i)) W := by
  obtain ⟨i0, hi0, hz0, hz1, hz2⟩ := info_parts byte_info
  simp [Instr.sliceAt, Instr.slice, Instr.sliceBounds, Instr.sliceBound, run_underlying Try.underlying22, asIntOf, sizeOf, typeInfo, hi0, hz1, hik, hkc]
theorem run_tailA (A : Option Addr) (n c i : Nat) (hin : i ≤ n) (W : World) :
    (Instr.sliceAt 22 (.slice A n c) (some (.int .i64 i)) none none).run Try.prog W = .ok (.slice (if c = i then A else A.map (·.add i)) (n - i) (c - i)) W := by
  obtain ⟨i0, hi0, hz0, hz1, hz2⟩ := info_parts byte_info
  simp [Instr.sliceAt, Instr.slice, Instr.sliceBounds, Instr.sliceBound, run_underlying Try.underlying22, asIntOf, sizeOf, typeInfo, hi0, hz1, hin]
theorem run_headA (A : Option Addr) (n c k : Nat) (hkc : k ≤ c) (W : World) :
    (Instr.sliceAt 22 (.slice A n c) none (some (.int .i64 k)) none).run Try.prog W = .ok (.slice A k c) W := by
  obtain ⟨i0, hi0, hz0, hz1, hz2⟩ := info_parts byte_info
  cases A <;> simp [Instr.sliceAt, Instr.slice, Instr.sliceBounds, Instr.sliceBound, run_underlying Try.underlying22, asIntOf, sizeOf, typeInfo, hi0, hkc, Addr.add]
end Go.Proofs.Ytgejkhokijjemaa
/- Maps told by a function from keys to values: lookup, store, len, clear as equations; over whatever program. -/
namespace Go.Proofs.Ytgejkhokijjemaa
open Go.RowKit Go.Maps Go.ChangeMaps

/-- any value, as it stands -/
def heldR (v : Value) : Option (DataW Value × List MemPlace) := some (.held v, [])
section
variable {P : Program} {T K E : TypeId} {κ : Type} {kl : κ → Lit} {w w' : World} {b cnt : Nat} {f : κ → Option Value}
/-- what a datum has at each key -/
def Has (kl : κ → Lit) (D : DataW Value) (f : κ → Option Value) : Prop := (∀ k, (f k = none → Maps.has D (kl k) = false) ∧ ∀ v, f k = some v → Maps.has D (kl k) = true ∧ ∀ z, D.atKey (kl k) z = .held v) ∧ ∀ l, Maps.has D l = true → ∃ k, l = kl k ∧ (f k).isSome = true
/-- block b is a map of cnt entries: at each key what f says -/
def IM (P : Program) (K : TypeId) (kl : κ → Lit) (w : World) (b : Nat) (f : κ → Option Value) (cnt : Nat) : Prop :=
  ∃ D : DataW Value, w.ownsMap P K heldR b cnt D ∧ Maps.size D = cnt ∧ Has kl D f
theorem ownsMap_tight {D : DataW Value} {n : Nat} (h : w.ownsMap P K heldR b n D) : w.ownsMap P K heldR b (Maps.size D) D := by
  obtain ⟨es, clock, hb, F, _, rfl⟩ := h
  refine ⟨es, clock, hb, F, ?_, rfl⟩
  simp [Maps.size, length_sorted]
theorem IM.made (w : World) : IM P K kl (w.alloc (.map #[] 0)) w.heap.size (fun _ => none) 0 :=
  ⟨_, World.ownsMap_made w P K heldR, rfl, fun k => ⟨fun _ => rfl, fun v h => by cases h⟩, fun l h => by cases h⟩
theorem IM.block (h : IM P K kl w b f cnt) (hb : w'.heap[b]? = w.heap[b]?) : IM P K kl w' b f cnt := by
  obtain ⟨D, ⟨es, clock, h1, h2⟩, h3⟩ := h
  exact ⟨D, ⟨es, clock, hb.trans h1, h2⟩, h3⟩
theorem IM.lt (h : IM P K kl w b f cnt) : b < w.heap.size := by
  obtain ⟨D, h, _⟩ := h
  exact h.lt
theorem IM.isMap (h : IM P K kl w b f cnt) : ∃ es clock, w.heap[b]? = some (.map es clock) := by
  obtain ⟨D, ⟨es, clock, hb, _⟩, _⟩ := h
  exact ⟨es, clock, hb⟩
theorem IM.look_some (h : IM P K kl w b f cnt) (KL : Keyed P K) (ht : P.underlying T = some (.map K E)) {z : Value} (hz : (zeroValue E).run P w = .ok z w) {key : Value} {k : κ} (hkey : keyOf P K key = some (kl k)) {v : Value} (hf : f k = some v) :
    (Instr.lookup T (.map (some b)) key true).run P w = .ok (.tuple #[v, .bool true]) w ∧ (Instr.lookup T (.map (some b)) key false).run P w = .ok v w := by
  obtain ⟨D, h, _, hh⟩ := h
  obtain ⟨h1, h2⟩ := (hh.1 k).2 v hf
  constructor
  · obtain ⟨v', ps, hrun, hv⟩ := h.look_ok KL ht hz (zd := .held z) (zp := []) rfl hkey
    rw [h2, heldR] at hv
    simp only [Option.some.injEq, Prod.mk.injEq, DataW.held.injEq] at hv
    rw [h1, hv.1] at hrun
    exact hrun
  · obtain ⟨v', ps, hrun, hv⟩ := h.lookup KL ht hz (zd := .held z) (zp := []) rfl hkey
    rw [h2, heldR] at hv
    simp only [Option.some.injEq, Prod.mk.injEq, DataW.held.injEq] at hv
    rw [hv.1] at hrun
    exact hrun
theorem IM.look_none (h : IM P K kl w b f cnt) (KL : Keyed P K) (ht : P.underlying T = some (.map K E)) {z : Value} (hz : (zeroValue E).run P w = .ok z w) {key : Value} {k : κ} (hkey : keyOf P K key = some (kl k)) (hf : f k = none) :
    (Instr.lookup T (.map (some b)) key true).run P w = .ok (.tuple #[z, .bool false]) w ∧ (Instr.lookup T (.map (some b)) key false).run P w = .ok z w := by
  obtain ⟨D, h, _, hh⟩ := h
  have h1 := (hh.1 k).1 hf
  constructor
  · obtain ⟨v', ps, hrun, hv⟩ := h.look_ok KL ht hz (zd := .held z) (zp := []) rfl hkey
    rw [atKey_of_not_has h1, heldR] at hv
    simp only [Option.some.injEq, Prod.mk.injEq, DataW.held.injEq] at hv
    rw [h1, hv.1] at hrun
    exact hrun
  · obtain ⟨v', ps, hrun, hv⟩ := h.lookup KL ht hz (zd := .held z) (zp := []) rfl hkey
    rw [atKey_of_not_has h1, heldR] at hv
    simp only [Option.some.injEq, Prod.mk.injEq, DataW.held.injEq] at hv
    rw [hv.1] at hrun
    exact hrun
/-- f with another value at one key -/
def upd [DecidableEq κ] (f : κ → Option Value) (k : κ) (v : Value) : κ → Option Value := fun x => if x = k then some v else f x
theorem IM.store [DecidableEq κ] (h : IM P K kl w b f cnt) (KL : Keyed P K) (hinj : ∀ x y, kl x = kl y → x = y) (ht : P.underlying T = some (.map K E)) (hn : cnt < maxLen) {key : Value} {k : κ} (hkey : keyOf P K key = some (kl k)) (v : Value) :
    ∃ w', (Instr.mapUpdate T (.map (some b)) key v).run P w = .ok () w' ∧ IM P K kl w' b (upd f k v) (if (f k).isSome then cnt else cnt + 1) ∧ w.grownBy w' (some b) ∧ w'.heap.size = w.heap.size := by
  obtain ⟨D, h, hs, hh⟩ := h
  obtain ⟨w', hrun, h', ht'⟩ := h.store KL ht hn (d := .held v) (ps := []) hkey rfl
  obtain ⟨w2, hrun2, _, hg⟩ := h.update KL ht hn (d := .held v) (ps := []) hkey rfl
  have e : w' = w2 := by
    rw [hrun] at hrun2
    injection hrun2
  subst e
  have hik : WideAt.IsKeyLit (kl k) := KL.key hkey
  have hsz : Maps.size (D.put (kl k) (.held v)) = if (f k).isSome then cnt else cnt + 1 := by
    rw [size_put (h.tidy KL), hs]
    cases hf : f k with
    | none => rw [(hh.1 k).1 hf]; simp
    | some u => rw [((hh.1 k).2 u hf).1]; simp
  refine ⟨w', hrun, ⟨_, ?_, hsz, fun x => ?_, fun l hl => ?_⟩, hg, ?_⟩
  · rw [← hsz]; exact ownsMap_tight h'
  · unfold upd
    by_cases hx : x = k
    · subst hx
      rw [if_pos rfl]
      refine ⟨(fun h => by cases h), fun u hu => ?_⟩
      obtain rfl := Option.some.inj hu
      exact ⟨has_put_same h.isMap hik _, fun z => atKey_put_same h.isMap hik _ z⟩
    · rw [if_neg hx]
      have hne : kl x ≠ kl k := fun e => hx (hinj _ _ e)
      refine ⟨fun h0 => by rw [has_put_other hne]; exact (hh.1 x).1 h0, fun u hu => ?_⟩
      rw [has_put_other hne]
      exact ⟨((hh.1 x).2 u hu).1, fun z => by rw [atKey_put_other hne]; exact ((hh.1 x).2 u hu).2 z⟩
  · by_cases hx : l = kl k
    · exact ⟨k, hx, by unfold upd; rw [if_pos rfl]; rfl⟩
    · rw [has_put_other hx] at hl
      obtain ⟨x, hx', hfx⟩ := hh.2 l hl
      refine ⟨x, hx', ?_⟩
      unfold upd
      split
      · rfl
      · exact hfx
  · obtain ⟨es, clock, es', clock', _, hw⟩ := ht'
    rw [hw]; simp [setBlock]
theorem IM.len_ (h : IM P K kl w b f cnt) (ht : P.underlying T = some (.map K E)) (ty : TypeId) : (Builtin.len_ #[T] ty #[.map (some b)]).run P w = .ok (.int .i64 cnt) w := by
  obtain ⟨D, h, hs, _⟩ := h
  rw [← hs]
  exact h.len ht ty
theorem IM.clear_ (h : IM P K kl w b f cnt) (ht : P.underlying T = some (.map K E)) (ty : TypeId) :
    ∃ w', (Builtin.clear_ #[T] ty #[.map (some b)]).run P w = .ok (.tuple #[]) w' ∧ IM P K kl w' b (fun _ => none) 0 ∧ w.grownBy w' (some b) ∧ w'.heap.size = w.heap.size := by
  obtain ⟨D, ⟨es, clock, hb, F, _⟩, _⟩ := h
  refine ⟨setBlock w b (.map #[] clock), ?_, ⟨.map [], ⟨#[], clock, heap_setBlock_same hb _, ⟨by simp, ?_, by simp⟩, Nat.le_refl _, rfl⟩, rfl, fun k => ⟨fun _ => rfl, fun v h => by cases h⟩, fun l h => by cases h⟩,
    ⟨rfl, rfl, rfl, by simp [setBlock], fun i _ hi => heap_setBlock_other hb _ (fun e => hi (by rw [e]))⟩, by simp [setBlock]⟩
  · simp [Builtin.clear_, run_underlying ht, MapKept.run_getObj_map hb, MapKept.run_setObj_map _ hb, Result.andThen, setBlock]
  · exact MapKept.stamped_empty _
end
end Go.Proofs.Ytgejkhokijjemaa
/- What stays: all but the blocks of a set. No program in sight. -/
namespace Go.Proofs.Ytgejkhokijjemaa
open Go.RowKit

/-- all that is not in F is as it was; F: the blocks that a device takes -/
structure Keep (F : Nat → Prop) (w w' : World) : Prop where
  os : w'.os = w.os
  tape : w'.tape = w.tape
  output : w'.output = w.output
  size : w.heap.size ≤ w'.heap.size
  block : ∀ k, k < w.heap.size → ¬ F k → w'.heap[k]? = w.heap[k]?
theorem Keep.refl (F : Nat → Prop) (w : World) : Keep F w w := ⟨rfl, rfl, rfl, Nat.le_refl _, fun _ _ _ => rfl⟩
theorem Keep.trans {F F' : Nat → Prop} {a b c : World} (h : Keep F a b) (k : Keep F' b c) (hF : ∀ x, F' x → F x ∨ a.heap.size ≤ x) : Keep F a c :=
  ⟨k.os.trans h.os, k.tape.trans h.tape, k.output.trans h.output, Nat.le_trans h.size k.size, fun x hx hn =>
    (k.block x (Nat.lt_of_lt_of_le hx h.size) (fun hf => by rcases hF x hf with h' | h'; exact hn h'; omega)).trans (h.block x hx hn)⟩
theorem Keep.of_below {F : Nat → Prop} {w w' : World} (h : Below w.heap.size w w') : Keep F w w' := ⟨h.os, h.tape, h.output, h.size, fun k hk _ => h.block k hk⟩
theorem Keep.below {F : Nat → Prop} {B : Nat} {w w' : World} (h : Keep F w w') (hB : B ≤ w.heap.size) (hF : ∀ k, F k → B ≤ k) : Below B w w' :=
  ⟨h.os, h.tape, h.output, h.size, fun k hk => h.block k (by omega) (fun hf => by have := hF k hf; omega)⟩
theorem Keep.rd {F : Nat → Prop} {w w' : World} {A : Option Addr} {l : Bytes} (h : Keep F w w') (hr : Rd w A l) (hA : ∀ ad, A = some ad → ¬ F ad.block) : Rd w' A l := fun j hj => by
  obtain ⟨b, off, rfl, hc⟩ := hr j hj
  exact ⟨b, off, rfl, (World.cell?_of_block (w := w) (h.block b (block_lt_of_cell hc) (hA _ rfl))).trans hc⟩
theorem Keep.row {F : Nat → Prop} {w w' : World} {e g cap : Nat} {l : Bytes} (h : Keep F w w') (hr : Row w e g cap l) (hg : ¬ F g) : Row w' e g cap l := by
  obtain ⟨cur, h0, h1⟩ := hr
  exact ⟨cur, (h.block g (Array.getElem?_eq_some_iff.1 h0).1 hg).trans h0, h1⟩
theorem Keep.drewN {F : Nat → Prop} {w w' : World} (h : Keep F w w') (n : Nat) : Keep F w (w'.drewN n) := ⟨h.os, h.tape, h.output, h.size, h.block⟩

section
variable {w w' : World}
theorem ownsRow_block {base : Nat} {e : TypeId} {size : Nat} {v : Value} {n : Nat} {xs : List Value} (h : w.ownsRow base e size v n xs) (hb : ∀ q, v.ownBlock = some q → w'.heap[q]? = w.heap[q]?) : w'.ownsRow base e size v n xs := by
  refine ⟨h.1, ?_⟩
  rcases h.2 with hn | ⟨g, cap, cur, rfl, hb0, hgg, rest⟩
  · exact .inl hn
  · exact .inr ⟨g, cap, cur, rfl, hb0, (hb g rfl).trans hgg, rest⟩
theorem Row.block {e g cap : Nat} {l : Bytes} (h : Row w e g cap l) (hb : w'.heap[g]? = w.heap[g]?) : Row w' e g cap l := by
  obtain ⟨cur, h0, h1⟩ := h
  exact ⟨cur, hb.trans h0, h1⟩
theorem ne_cells {g : Nat} {cur cur' : Array Value} {t t' : TypeId} (h1 : w.heap[g]? = some (.cells cur t (0, 0))) {g' : Nat} (h2 : w.heap[g']? = some (.cells cur' t' (0, 0))) (hne : t ≠ t') : g ≠ g' := fun e => by
  rw [e, h2] at h1
  injection h1 with h1
  injection h1 with _ h1
  exact hne h1.symm
theorem ne_row {g : Nat} {cur : Array Value} {t : TypeId} (h1 : w.heap[g]? = some (.cells cur t (0, 0))) {e g' cap : Nat} {l : Bytes} (h2 : Row w e g' cap l) (hne : t ≠ e) : g ≠ g' := by
  obtain ⟨cur', h0, _⟩ := h2
  exact ne_cells h1 h0 hne
end
theorem heap_setK {w : World} {d k : Nat} {cur : Array Value} {t : TypeId} (h : w.heap[d]? = some (.cells cur t (0, 0))) (v : Value) : (w.setCell ⟨d, k, none⟩ v).heap[d]? = some (.cells (cur.setIfInBounds k v) t (0, 0)) := by
  rw [setCell_eq_setRow w d k cur t _ _ h]
  exact setRow_heap w d cur _ t _ h
def FourAt (w : World) (p : Nat) (a b c d : Int) : Prop := w.cell? ⟨p, 0, none⟩ = some (.int .i64 a) ∧ w.cell? ⟨p, 1, none⟩ = some (.int .i64 b) ∧ w.cell? ⟨p, 2, none⟩ = some (.int .i64 c) ∧ w.cell? ⟨p, 3, none⟩ = some (.int .i64 d)
theorem fourAt_one (w : World) (a b c d : Int) (t : TypeId) : FourAt (w.alloc (.cells #[.int .i64 a, .int .i64 b, .int .i64 c, .int .i64 d] t)) w.heap.size a b c d := by
  have h := heap_alloc_new w (.cells #[.int .i64 a, .int .i64 b, .int .i64 c, .int .i64 d] t)
  unfold FourAt
  simp only [World.cell?]
  rw [h]
  exact ⟨rfl, rfl, rfl, rfl⟩
theorem FourAt.below {w w' : World} {p : Nat} {a b c d : Int} (h : FourAt w p a b c d) (hb : Below w.heap.size w w') : FourAt w' p a b c d := by
  have hlt := block_lt_of_cell h.1
  exact ⟨(hb.cell (p := ⟨p, 0, none⟩) hlt).trans h.1, (hb.cell (p := ⟨p, 1, none⟩) hlt).trans h.2.1, (hb.cell (p := ⟨p, 2, none⟩) hlt).trans h.2.2.1, (hb.cell (p := ⟨p, 3, none⟩) hlt).trans h.2.2.2⟩
end Go.Proofs.Ytgejkhokijjemaa
/- A device in memory: what lies where. -/
namespace Go.Proofs.Ytgejkhokijjemaa
open Go.RowKit

/-- what a device is -/
structure Dv where
  S : List Bytes
  O : List Nat
  M : Nat → Bytes
  left : Int
  down : Bool
/-- where it lies -/
structure Lay where
  gs : Nat
  cs : Nat
  gm : Nat
  vo : Value
  sb : Nat → Nat
  sc : Nat → Nat
  mb : Nat → Nat
  mc : Nat → Nat
def natL (k : Nat) : Lit := .int .i64 k
theorem natL_inj (x y : Nat) (h : natL x = natL y) : x = y := by
  unfold natL at h; injection h with _ h; omega
def rowV (g c : Nat) : Value := .slice (some ⟨g, 0, none⟩) 32 c
def memF (O : List Nat) (Y : Lay) (k : Nat) : Option Value := if k ∈ O then some (rowV (Y.mb k) (Y.mc k)) else none
section
variable {w w' : World} {F F' : Nat → Prop} {d : Nat} {D : Dv} {Y : Lay} {live : Nat → Prop}
end
end Go.Proofs.Ytgejkhokijjemaa
/- The contracts of package device: Len, Down, step, Fail, forget. -/
namespace Go.Proofs.Ytgejkhokijjemaa
open Go.RowKit

theorem five {w : World} {d : Nat} {a b c e f : Value} {t : TypeId} (h : w.heap[d]? = some (.cells #[a, b, c, e, f] t (0, 0))) :
    (w.cell? ⟨d, 0, none⟩ = some a ∧ w.cell? ⟨d, 1, none⟩ = some b ∧ w.cell? ⟨d, 2, none⟩ = some c ∧ w.cell? ⟨d, 3, none⟩ = some e ∧ w.cell? ⟨d, 4, none⟩ = some f) ∧ ∀ k, w.frozen? ⟨d, k, none⟩ = false := by
  refine ⟨⟨?_, ?_, ?_, ?_, ?_⟩, fun k => by simp [World.frozen?, h]⟩ <;> simp [World.cell?, h]
theorem heap_set5 {w : World} {d k : Nat} {cur : Array Value} {t : TypeId} (h : w.heap[d]? = some (.cells cur t (0, 0))) (v : Value) : (w.setCell ⟨d, k, none⟩ v).heap[d]? = some (.cells (cur.setIfInBounds k v) t (0, 0)) := by
  rw [setCell_eq_setRow w d k cur t _ _ h]
  exact setRow_heap w d cur _ t _ h
theorem Keep.setCell {F : Nat → Prop} {w w' : World} (h : Keep F w w') {p : Addr} (hp : F p.block ∨ w.heap.size ≤ p.block) (u : Value) : Keep F w (w'.setCell p u) :=
  ⟨h.os, h.tape, h.output, by simpa using h.size, fun k hk hn => by
    have : k ≠ p.block := fun e => by rcases hp with h' | h'; exact hn (e ▸ h'); omega
    exact (Below.heap_setCell w' p u k this).trans (h.block k hk hn)⟩
/-- one step of the power -/
def stepD (D : Dv) : Dv := { D with left := max (-1) (D.left - 1), down := D.left == 0 }
end Go.Proofs.Ytgejkhokijjemaa
/- The contracts of package device: Read and Write. -/
namespace Go.Proofs.Ytgejkhokijjemaa
open Go.RowKit Go.Maps Go.ChangeMaps

theorem wf_nat {n : Nat} (hn : n ≤ 100000) : (Lit.int .i64 (n : Int)).wf = true := by
  have : (-9223372036854775808 : Int) ≤ n ∧ (n : Int) ≤ 9223372036854775807 := by omega
  simpa [Lit.wf, IntKind.min, IntKind.max, IntKind.bits, IntKind.signed] using this
theorem int_key {n : Nat} (hn : n ≤ 100000) : keyOf Try.prog 3 (.int .i64 (n : Int)) = some (natL n) := keyOf_int_mk Try.underlying3 (wf_nat hn)
theorem int_keyed : Go.Maps.Keyed Try.prog 3 := Go.Maps.int_keyed Try.underlying3
theorem zero_bytes (w : World) : (zeroValue 22).run Try.prog w = .ok (.slice none 0 0) w := by kernel_rfl
theorem int_info : (Try.prog.info? 3).map (fun i => (i.zero, i.size, i.bytes)) = some (some (.int .i64 0), 1, 8) := by kernel_rfl
/-- what a sector reads as -/
def readD (D : Dv) (i : Nat) : Bytes := if i ∈ D.O then D.M i else D.S.getD i []
def InO (D : Dv) (i : Nat) : Prop := i ∈ D.O
/-- a device in which something more is pending -/
def putD (D : Dv) (i : Nat) (b : Bytes) : Dv := { D with O := if i ∈ D.O then D.O else D.O ++ [i], M := fun k => if k = i then b else D.M k }
def growF (F : Nat → Prop) (w w' : World) : Nat → Prop := fun k => (F k ∨ w.heap.size ≤ k) ∧ k < w'.heap.size
theorem putD_mem (D : Dv) (i : Nat) (b : Bytes) (k : Nat) : k ∈ (putD D i b).O ↔ k ∈ D.O ∨ k = i := by
  unfold putD
  by_cases hi : i ∈ D.O
  · simp only [if_pos hi]
    exact ⟨.inl, fun h => by rcases h with h | rfl; exact h; exact hi⟩
  · simp [if_neg hi]
end Go.Proofs.Ytgejkhokijjemaa
/- slices.Sorted(maps.Keys(m)) of maps from numbers to booleans. -/
namespace Go.Proofs.Ytgejkhokijjemaa
open Go.RowKit Go.Maps Go.ChangeMaps Go.Sort Go.Shelf

section
variable {P : Program} {K : TypeId} {w : World} {b cnt : Nat} {f : Nat → Option Value}
/-- the keys of a map that is told by a function -/
theorem IM.keys (h : IM P K natL w b f cnt) (hK : P.underlying K = some (.int .i64)) :
    ∃ D : DataW Value, w.ownsMap P K heldR b cnt D ∧ Maps.size D = cnt ∧ (intKeys D).Nodup ∧ (∀ x ∈ intKeys D, ∃ k : Nat, x = k ∧ (f k).isSome = true) ∧ ∀ k, (f k).isSome = true → (k : Int) ∈ intKeys D := by
  obtain ⟨D, hown, hs, hh⟩ := h
  have hK2 := Go.Maps.int_keyed hK
  refine ⟨D, hown, hs, ?_⟩
  obtain ⟨L, hD, hp, _⟩ := hown.entries hK2
  obtain ⟨L', hD', hko⟩ := hown.keysOf
  obtain rfl : L = L' := by rw [hD] at hD'; simpa using hD'
  subst hD
  have hint : ∀ p ∈ L, ∃ x, p.1 = .int .i64 x := fun p hp => by
    obtain ⟨v, hv⟩ := hko p hp
    obtain ⟨x, _, hx, _⟩ := Maps.keyOf_i64 hK hv
    exact ⟨x, hx⟩
  clear hown hD'
  have hmem : ∀ x : Int, x ∈ intKeys (.map L) ↔ has (.map L) (.int .i64 x) = true := fun x => by
    rw [has_eq, List.any_eq_true]
    show x ∈ L.map (fun p => Go.intOf p.1) ↔ _
    rw [List.mem_map]
    constructor
    · rintro ⟨p, hp', rfl⟩
      obtain ⟨a, ha⟩ := hint p hp'
      exact ⟨p, hp', by rw [ha]; simp [Lit.sameKey, Go.intOf]⟩
    · rintro ⟨p, hp', hs'⟩
      obtain ⟨a, ha⟩ := hint p hp'
      rw [ha] at hs'
      exact ⟨p, hp', by rw [ha]; simpa [Lit.sameKey, Go.intOf] using hs'⟩
  refine ⟨?_, fun x hx => ?_, fun k hk => ?_⟩
  · show (L.map fun p => Go.intOf p.1).Nodup
    refine List.pairwise_map.2 (hp.imp_of_mem fun {p q} hp' hq' hne e => hne ?_)
    obtain ⟨a, ha⟩ := hint p hp'
    obtain ⟨c, hc⟩ := hint q hq'
    rw [ha, hc] at e ⊢
    exact congrArg _ e
  · obtain ⟨k, e, hk⟩ := hh.2 _ ((hmem x).1 hx)
    unfold natL at e
    injection e with _ e
    exact ⟨k, e, hk⟩
  · obtain ⟨v, hv⟩ := Option.isSome_iff_exists.1 hk
    exact (hmem k).2 ((hh.1 k).2 v hv).1
end
/-- a list of numbers that rises, with just the keys of f -/
structure KeysOf (f : Nat → Option Value) (S : List Nat) : Prop where
  up : S.Pairwise (· < ·)
  mem : ∀ k, k ∈ S ↔ (f k).isSome = true
theorem keys_sorted {f : Nat → Option Value} {L ss : List Int} (hp : ss.Perm L) (hn : L.Nodup) (h1 : ∀ x ∈ L, ∃ k : Nat, x = k ∧ (f k).isSome = true) (h2 : ∀ k, (f k).isSome = true → (k : Int) ∈ L) :
    ∃ S : List Nat, ss.mergeSort leI = S.map (fun i : Nat => (i : Int)) ∧ KeysOf f S := by
  have tr : ∀ a b c : Int, leI a b = true → leI b c = true → leI a c = true := fun a b c h1 h2 => by simp only [leI, decide_eq_true_eq] at *; exact Int.le_trans h1 h2
  have tot : ∀ a b : Int, (leI a b || leI b a) = true := fun a b => by simp only [leI, Bool.or_eq_true, decide_eq_true_eq]; exact Int.le_total a b
  have hpm : (ss.mergeSort leI).Perm L := (List.mergeSort_perm ss leI).trans hp
  have hs := List.pairwise_mergeSort tr tot ss
  have hnd : (ss.mergeSort leI).Nodup := hpm.nodup_iff.2 hn
  have hm : ∀ x, x ∈ ss.mergeSort leI ↔ x ∈ L := fun x => hpm.mem_iff
  generalize ss.mergeSort leI = T at *
  have hcast : T = (T.map Int.toNat).map (fun i : Nat => (i : Int)) := by
    rw [List.map_map]
    conv => lhs; rw [← List.map_id T]
    refine List.map_congr_left fun x hx => ?_
    obtain ⟨k, rfl, _⟩ := h1 x ((hm x).1 hx)
    simp
  refine ⟨T.map Int.toNat, hcast, ?_, fun k => ?_⟩
  · refine List.pairwise_map.2 ?_
    refine (hs.and hnd).imp_of_mem fun {a b} ha hb hab => ?_
    obtain ⟨x, rfl, _⟩ := h1 a ((hm a).1 ha)
    obtain ⟨y, rfl, _⟩ := h1 b ((hm b).1 hb)
    have e1 := of_decide_eq_true hab.1
    have e2 := hab.2
    simp only [Int.toNat_natCast]
    omega
  · rw [List.mem_map]
    constructor
    · rintro ⟨x, hx, rfl⟩
      obtain ⟨y, rfl, hy⟩ := h1 x ((hm x).1 hx)
      simpa using hy
    · intro hk
      exact ⟨(k : Int), (hm _).2 (h2 k hk), by simp⟩
theorem sorts_int (m : Nat) : AnyZI.SortsIn Try.prog sortedI_ren Fence.wide m :=
  ⟨fun blk off cap ss W hH hblk hsz => callsIn_wide.2 (AnyM.slices_Sort_int sortI blk off cap ss W hH hblk hsz),
   fun p cap W => callsIn_wide.2 (AnyM.slices_Sort_int_none sortI p cap W)⟩
theorem keys_call (b : Nat) (w : World) : Calls Try.prog 20 #[.map (some b)] w fun e w' => e = .returned (.func (.func 47) #[] #[.pointer (some ⟨w.heap.size, 0, none⟩)]) ∧ w' = w.alloc (.cells #[.map (some b)] 57) := by
  have cK : CallsIn Fence.wide 5 Try.prog 20 #[.map (some b)] w fun e w' => e = .returned (.func (.func 47) #[] #[.pointer (some ⟨w.heap.size, 0, none⟩)]) ∧ w' = w.alloc (.cells #[.map (some b)] 57) := AnyZI.keys_in keysB Fence.wide 5 trivial rfl (some b) w
  exact callsIn_wide.1 cK
theorem sorted_call (b cnt : Nat) (f : Nat → Option Value) (w : World) (h : IM Try.prog 3 natL w b f cnt) (hc : cnt ≤ 100000) :
    Calls Try.prog 19 #[.func (.func 47) #[] #[.pointer (some ⟨w.heap.size, 0, none⟩)]] (w.alloc (.cells #[.map (some b)] 57)) fun e w' => ∃ v S, e = .returned v ∧ KeysOf f S ∧
      w'.ownsRow w.heap.size 3 1 v S.length (S.map fun i : Nat => .int .i64 (i : Int)) ∧ Below w.heap.size w w' := by
  obtain ⟨D, hown, hs, hn, h1, h2⟩ := h.keys Try.underlying3
  have hbl := hown.lt
  have hseq : SeqGives Fence.wide 2 Try.prog 47 #[.pointer (some ⟨w.heap.size, 0, none⟩)] encZ (fun ss => ss.Perm (intKeys D)) (Maps.size D) (w.alloc (.cells #[.map (some b)] 57)) :=
    AnyZI.keys_gives (ρ := keysB_ren) { keysB with } Fence.wide _ trivial rfl (by omega) w.heap.size b cnt D _ (by simp) (by simp) (by
      obtain ⟨es, clock, hb, Ft, hs, hD⟩ := hown
      exact ⟨es, clock, (Below.heap_alloc _ _ b hbl).trans hb, Ft, hs, hD⟩)
  have cS := AnyZI.sorted_in sortedI Fence.wide 5 trivial trivial trivial trivial rfl (by omega) (sorts_int _) (enters_of Try.func46 (by kernel_rfl) rfl) 47 #[.pointer (some ⟨w.heap.size, 0, none⟩)] trivial (enters_of Try.func47 (by kernel_rfl) rfl) _ _ (by rw [hs]; simp only [maxLen]; omega) (by rw [hs]; omega) _ hseq
  change CallsIn _ _ Try.prog 19 _ _ _ at cS
  refine (callsIn_wide.1 cS).mono ?_
  rintro e w' ⟨v, ss, rfl, hS, hrow, -, hb⟩
  obtain ⟨S, e1, e2⟩ := keys_sorted hS hn h1 h2
  have hlen : S.length = ss.length := by
    have := congrArg List.length e1
    rw [List.length_map, List.length_mergeSort] at this
    omega
  refine ⟨v, S, rfl, e2, ?_, ((Below.refl _ w).alloc (Nat.le_refl _) _).trans (hb.mono (by simp))⟩
  have e3 : (ss.mergeSort (fun x y => decide (x ≤ y))).map encZ = S.map fun i : Nat => .int .i64 (i : Int) := by
    show (ss.mergeSort leI).map encZ = _
    rw [e1, List.map_map]; rfl
  rw [e3, ← hlen] at hrow
  exact ownsRow_base_a hrow (by simp)
end Go.Proofs.Ytgejkhokijjemaa
/- Plain facts on changes of bytes. No program in sight. -/
namespace Go.Proofs.Ytgejkhokijjemaa

/-- a change: where, what stood there, what stands there then -/
structure Chg where
  at_ : Int
  old : Bytes
  new : Bytes

/-- how far two lists differ, from the first place on -/
def diffRun : Bytes → Bytes → Nat
  | x :: a, y :: b => if x = y then 0 else diffRun a b + 1
  | _, _ => 0
theorem diffRun_le (a b : Bytes) : diffRun a b ≤ a.length ∧ diffRun a b ≤ b.length := by
  induction a generalizing b with
  | nil => simp [diffRun]
  | cons x a ih =>
    cases b with
    | nil => simp [diffRun]
    | cons y b =>
      simp only [diffRun]
      have := ih b
      split <;> simp <;> omega
theorem diffRun_at (k : Nat) : ∀ (a b : Bytes), (∀ j, j < k → a[j]? ≠ b[j]?) → k ≤ a.length → k ≤ b.length → (k = a.length ∨ k = b.length ∨ a[k]? = b[k]?) → diffRun a b = k := by
  induction k with
  | zero =>
    intro a b _ _ _ h
    cases a with
    | nil => simp [diffRun]
    | cons x a =>
      cases b with
      | nil => simp [diffRun]
      | cons y b => simp at h; simp [diffRun, h]
  | succ k ih =>
    intro a b hne ha hb h
    cases a with
    | nil => simp at ha
    | cons x a =>
      cases b with
      | nil => simp at hb
      | cons y b =>
        have h0 := hne 0 (by omega)
        simp at h0
        have := ih a b (fun j hj => by have := hne (j + 1) (by omega); simpa using this) (by simpa using ha) (by simpa using hb) (by simpa using h)
        simp [diffRun, h0, this]
theorem diffRun_ne (a b : Bytes) (j : Nat) (h : j < diffRun a b) : a[j]? ≠ b[j]? := by
  induction a generalizing b j with
  | nil => simp [diffRun] at h
  | cons x a ih =>
    cases b with
    | nil => simp [diffRun] at h
    | cons y b =>
      simp only [diffRun] at h
      split at h
      · omega
      · rename_i hne
        cases j with
        | zero => simpa using hne
        | succ j => simpa using ih b j (by omega)
theorem diffRun_stop (a b : Bytes) (hl : a.length = b.length) (h : diffRun a b < a.length) : a[diffRun a b]? = b[diffRun a b]? := by
  induction a generalizing b with
  | nil => simp at h
  | cons x a ih =>
    cases b with
    | nil => simp at hl
    | cons y b =>
      simp only [diffRun] at h ⊢
      split
      · rename_i he; simp [he]
      · rename_i hne
        rw [if_neg hne] at h
        simpa using ih b (by simpa using hl) (by simpa using h)

/-- the run that begins at i -/
def runAt (a b : Bytes) (i : Nat) : Nat := diffRun (a.drop i) (b.drop i)
/-- the changes from i on; f: fuel -/
def diffF (a b : Bytes) : Nat → Nat → List Chg
  | 0, _ => []
  | f + 1, i =>
    if i < a.length then
      (if 0 < runAt a b i then [⟨i, (a.drop i).take (runAt a b i), (b.drop i).take (runAt a b i)⟩] else []) ++ diffF a b f (i + runAt a b i + 1)
    else []
theorem diffF_fuel (a b : Bytes) (f : Nat) : ∀ g i, a.length - i ≤ f → a.length - i ≤ g → diffF a b f i = diffF a b g i := by
  induction f with
  | zero =>
    intro g i hf hg
    cases g with
    | zero => rfl
    | succ g => simp only [diffF]; rw [if_neg (by omega)]
  | succ f ih =>
    intro g i hf hg
    cases g with
    | zero => simp only [diffF]; rw [if_neg (by omega)]
    | succ g =>
      simp only [diffF]
      split
      · rw [ih g _ (by omega) (by omega)]
      · rfl
/-- all changes -/
def diffL (a b : Bytes) : List Chg := diffF a b a.length 0
theorem diffF_step (a b : Bytes) (i : Nat) (h : i < a.length) : diffF a b (a.length - i) i =
    (if 0 < runAt a b i then [⟨i, (a.drop i).take (runAt a b i), (b.drop i).take (runAt a b i)⟩] else []) ++ diffF a b (a.length - (i + runAt a b i + 1)) (i + runAt a b i + 1) := by
  obtain ⟨f, hf⟩ : ∃ f, a.length - i = f + 1 := ⟨a.length - i - 1, by omega⟩
  rw [hf, diffF, if_pos h, diffF_fuel a b f (a.length - (i + runAt a b i + 1)) _ (by omega) (by omega)]
theorem runAt_le (a b : Bytes) (i : Nat) (hl : a.length = b.length) (hi : i ≤ a.length) : i + runAt a b i ≤ a.length := by
  have := (diffRun_le (a.drop i) (b.drop i)).1
  simp at this
  unfold runAt; omega
theorem runAt_ne (a b : Bytes) (i j : Nat) (h1 : i ≤ j) (h2 : j < i + runAt a b i) : a[j]? ≠ b[j]? := by
  have := diffRun_ne (a.drop i) (b.drop i) (j - i) (by unfold runAt at h2; omega)
  rw [List.getElem?_drop, List.getElem?_drop, show i + (j - i) = j from by omega] at this
  exact this
theorem runAt_stop (a b : Bytes) (i : Nat) (hl : a.length = b.length) (h : i + runAt a b i < a.length) : a[i + runAt a b i]? = b[i + runAt a b i]? := by
  have := diffRun_stop (a.drop i) (b.drop i) (by simp [hl]) (by unfold runAt at h; simp; omega)
  rw [List.getElem?_drop, List.getElem?_drop] at this
  exact this
/-- a walk that came to k has found the run -/
theorem runAt_at (a b : Bytes) (i k : Nat) (hl : a.length = b.length) (hik : i ≤ k) (hk : k ≤ a.length) (hne : ∀ j, i ≤ j → j < k → a[j]? ≠ b[j]?) (hstop : k = a.length ∨ a[k]? = b[k]?) : runAt a b i = k - i := by
  unfold runAt
  refine diffRun_at (k - i) _ _ (fun j hj => ?_) (by simp; omega) (by simp; omega) ?_
  · rw [List.getElem?_drop, List.getElem?_drop]; exact hne (i + j) (by omega) (by omega)
  · rcases hstop with h | h
    · left; simp; omega
    · right; right
      rw [List.getElem?_drop, List.getElem?_drop, show i + (k - i) = k from by omega]; exact h
end Go.Proofs.Ytgejkhokijjemaa
/- The region of diff.Diff that appends a change: in whatever order. -/
namespace Go.Proofs.Ytgejkhokijjemaa
open Go.RowKit

theorem Row.grown {w w' : World} {e g cap : Nat} {l : Bytes} {r : Option Nat} (h : Row w e g cap l) (hg : w.grownBy w' r) (hr : r ≠ some g) : Row w' e g cap l := by
  obtain ⟨cur, h0, h1⟩ := h
  exact ⟨cur, (hg.block g (Array.getElem?_eq_some_iff.1 h0).1 (fun e => hr e.symm)).trans h0, h1⟩
theorem change_info : (Try.prog.info? 56).map (fun i => (i.zero, i.size, i.bytes)) = some (some (.agg #[.int .i64 0, .slice none 0 0, .slice none 0 0]), 3, 56) := by kernel_rfl

/-- the region with a number, in a body -/
def findReg (id : Nat) : Code → Option Code
  | .region i ops d => if i = id then some (.region i ops d) else none
  | .seq a b => match findReg id a with
    | some c => some c
    | none => findReg id b
  | .cond _ a b => match findReg id a with
    | some c => some c
    | none => findReg id b
  | .block _ c => findReg id c
  | .loop c => findReg id c
  | .scope c => findReg id c
  | _ => none
noncomputable def diffReg : Code := ((Try.f5.body.bind (findReg 12)).getD .skip)

set_option maxRecDepth 100000 in
set_option maxHeartbeats 1000000 in
theorem diff_region (Q : Exit → Act → World → Prop) (p off q off2 n c d i k : Nat) (v : Value) (m : Nat) (xs : List Value) (base : Nat) (a b : Bytes) (w : World) (u2 u3 u4 u5 u9 u10 u11 u12 u13 u14 u15 u16 u17 u18 u19 u20 u21 u22 u23 u24 u25 u26 u27 u28 u29 u30 u31 u32 u33 u34 u35 u36 u37 u38 u39 u40 u41 u42 u43 u44 u45 u46 u47 u48 u49 u50 u51 u52 u53 u54 u55 u56 u57 u58 u59 u60 u61 u62 u63 : Value)
    (han : a.length = n) (hbn : b.length = n) (ha : Rd w (some ⟨p, off, none⟩) a) (hb : Rd w (some ⟨q, off2, none⟩) b) (hik : i < k) (hkn : k ≤ n) (hn : n ≤ 6400) (hkc : k ≤ c) (hkd : k ≤ d) (hci : ¬ c = i) (hdi : ¬ d = i)
    (hown : w.ownsRow base 56 3 v m xs) (hbase : base ≤ w.heap.size) (hm : m ≤ 100000)
    (h : ∀ v' w' g1 c1 g2 c2 (x46 x47 x48 x49 x50 x51 x52 x53 x54 x55 x56 x57 x58 x59 x60 : Value), w'.ownsRow base 56 3 v' (m + 1) (xs ++ [.int .i64 i, .slice (some ⟨g1, 0, none⟩) (k - i) c1, .slice (some ⟨g2, 0, none⟩) (k - i) c2]) →
      w.heap.size ≤ g1 → w.heap.size ≤ g2 → Row w' 5 g1 c1 ((a.drop i).take (k - i)) → Row w' 5 g2 c2 ((b.drop i).take (k - i)) → w.grownBy w' v.ownBlock → Q .normal ⟨#[.slice (some ⟨p, off, none⟩) n c, .slice (some ⟨q, off2, none⟩) n d, u2, u3, u4, u5, v', .int .i64 i, .int .i64 k, u9, u10, u11, u12, u13, u14, u15, u16, u17, u18, u19, u20, u21, u22, u23, u24, u25, u26, u27, u28, u29, u30, u31, u32, u33, u34, u35, u36, u37, u38, u39, u40, u41, u42, u43, u44, u45, x46, x47, x48, x49, x50, x51, x52, x53, x54, x55, x56, x57, x58, x59, x60, u61, u62, u63], []⟩ w') :
    Code.wp Try.prog diffReg Q ⟨#[.slice (some ⟨p, off, none⟩) n c, .slice (some ⟨q, off2, none⟩) n d, u2, u3, u4, u5, v, .int .i64 i, .int .i64 k, u9, u10, u11, u12, u13, u14, u15, u16, u17, u18, u19, u20, u21, u22, u23, u24, u25, u26, u27, u28, u29, u30, u31, u32, u33, u34, u35, u36, u37, u38, u39, u40, u41, u42, u43, u44, u45, u46, u47, u48, u49, u50, u51, u52, u53, u54, u55, u56, u57, u58, u59, u60, u61, u62, u63], []⟩ w := by
  obtain ⟨i0, hi0, hz0, hz1, hz2⟩ := info_parts change_info
  have cA : ∀ W, Below w.heap.size w W → Calls Try.prog 17 #[.slice (some ⟨p, off + i, none⟩) (k - i) (c - i)] W fun e w' => ∃ g cap, e = .returned (.slice (some ⟨g, 0, none⟩) (k - i) cap) ∧ W.heap.size ≤ g ∧ Row w' 5 g cap ((a.drop i).take (k - i)) ∧ Below W.heap.size W w' := fun W hW =>
    clone_some _ (k - i) _ ((a.drop i).take (k - i)) W (by simp; omega) (by omega) (by have := (ha.below hW).cut i (k - i) (by omega); simpa [Addr.add_lit] using this)
  have cB : ∀ W, Below w.heap.size w W → Calls Try.prog 17 #[.slice (some ⟨q, off2 + i, none⟩) (k - i) (d - i)] W fun e w' => ∃ g cap, e = .returned (.slice (some ⟨g, 0, none⟩) (k - i) cap) ∧ W.heap.size ≤ g ∧ Row w' 5 g cap ((b.drop i).take (k - i)) ∧ Below W.heap.size W w' := fun W hW =>
    clone_some _ (k - i) _ ((b.drop i).take (k - i)) W (by simp; omega) (by omega) (by have := (hb.below hW).cut i (k - i) (by omega); simpa [Addr.add_lit] using this)
  have HA := Hidden.mk cA
  have HB := Hidden.mk cB
  have hik' : i ≤ k := by omega
  clear cA cB ha hb han hbn
  conv => arg 2; whnf
  go_region_held3 (fun _ => True) (first | trivial)
    (first
      | (go_at_call 17; refine (HA.out _ (by exact (Below.refl _ _).drew)).mono ?_; rintro e w1 ⟨g1, cap1, rfl, hg1, hrow1, hb1⟩)
      | (go_at_call 17; refine (HB.out w1 (by exact ((Below.refl _ _).drew).trans hb1)).mono ?_; rintro e w2 ⟨g2, cap2, rfl, hg2, hrow2, hb2⟩; have hB2 : Below w.heap.size w w2 := (((Below.refl _ _).drew).trans hb1).trans (hb2.mono hb1.size))
      | (refine step_append_lies _ (by rfl) _ _ _ (by rfl) base 56 i0 _ 3 56 Try.underlying23 hi0 hz0 hz1 hz2 rfl (by omega) v m xs (by rfl) (own_below hown (hB2.alloc hB2.size _))
          ⟨w2.heap.size, 0, none⟩ 1 1 [.int .i64 i, .slice (some ⟨g1, 0, none⟩) (k - i) cap1, .slice (some ⟨g2, 0, none⟩) (k - i) cap2] (by rfl) (by rfl) (World.news_of_block (cs := #[.int .i64 i, .slice (some ⟨g1, 0, none⟩) (k - i) cap1, .slice (some ⟨g2, 0, none⟩) (k - i) cap2]) (t := 56) (fr := (0, 0)) (heap_alloc_new w2 _)) (by simp [Value.oneCell'])
          (by omega) (by simp only [maxLen]; omega) (by omega) (by simp; have := hB2.size; omega) (w2.heap.size + 1) (by simp) ?_; intro gg cap w3 hown3 hgrow hat hlt))
  have hal : Below w2.heap.size w2 (w2.alloc (.cells #[.int .i64 i, .slice (some ⟨g1, 0, none⟩) (k - i) cap1, .slice (some ⟨g2, 0, none⟩) (k - i) cap2] 56)) := (Below.refl _ _).alloc (Nat.le_refl _) _
  have hg1' : w.heap.size ≤ g1 := hg1
  have hg2' : w.heap.size ≤ g2 := Nat.le_trans hb1.size hg2
  have hne1 : v.ownBlock ≠ some g1 := fun e => by have := (hown.lt _ e).2; omega
  have hne2 : v.ownBlock ≠ some g2 := fun e => by have := (hown.lt _ e).2; omega
  refine h _ _ g1 cap1 g2 cap2 _ _ _ _ _ _ _ _ _ _ _ _ _ _ _ hown3 hg1' hg2' (((hrow1.below hb2 hrow1.lt).below hal (Nat.lt_of_lt_of_le hrow1.lt hb2.size)).grown hgrow hne1) ((hrow2.below hal hrow2.lt).grown hgrow hne2) (grown_trans' (hB2.trans (hal.mono hB2.size)) hgrow)
end Go.Proofs.Ytgejkhokijjemaa
/- The contract of diff.Diff. -/
namespace Go.Proofs.Ytgejkhokijjemaa
open Go.RowKit

/-- one change, as it lies in a row of the call's own -/
def ChAt (w : World) (base : Nat) (xs : List Value) (i : Nat) (c : Chg) : Prop :=
  ∃ go co gn cn, base ≤ go ∧ base ≤ gn ∧ xs[3 * i]? = some (.int .i64 c.at_) ∧ xs[3 * i + 1]? = some (.slice (some ⟨go, 0, none⟩) c.old.length co) ∧ xs[3 * i + 2]? = some (.slice (some ⟨gn, 0, none⟩) c.new.length cn) ∧
    Row w 5 go co c.old ∧ Row w 5 gn cn c.new
/-- the slice v is the call's own, and has the changes L -/
def OwnC (w : World) (base : Nat) (v : Value) (L : List Chg) : Prop :=
  ∃ xs, w.ownsRow base 56 3 v L.length xs ∧ ∀ i (h : i < L.length), ChAt w base xs i L[i]

theorem own_row_ne {w : World} {base : Nat} {e e' : TypeId} {size : Nat} {v : Value} {n : Nat} {xs : List Value} {g cap : Nat} {l : Bytes} (h : w.ownsRow base e size v n xs) (hr : Row w e' g cap l) (hne : e ≠ e') : v.ownBlock ≠ some g := by
  rcases h.2 with ⟨rfl, _⟩ | ⟨g', cap', cur, rfl, _, hh, _⟩
  · simp [Value.ownBlock]
  · intro he
    have : g' = g := by simpa [Value.ownBlock] using he
    subst this
    obtain ⟨cur', h0, _⟩ := hr
    rw [hh] at h0
    injection h0 with h0
    injection h0 with _ ht
    exact hne ht
theorem OwnC.snoc {w w' : World} {base : Nat} {v v' : Value} {L : List Chg} {xs : List Value} {at_ : Int} {g1 c1 g2 c2 n m : Nat} {old new : Bytes} (h : w.ownsRow base 56 3 v L.length xs) (hat : ∀ i (h : i < L.length), ChAt w base xs i L[i])
    (h' : w'.ownsRow base 56 3 v' (L.length + 1) (xs ++ [.int .i64 at_, .slice (some ⟨g1, 0, none⟩) n c1, .slice (some ⟨g2, 0, none⟩) m c2])) (hg : w.grownBy w' v.ownBlock)
    (hr1 : Row w' 5 g1 c1 old) (hr2 : Row w' 5 g2 c2 new) (ho : old.length = n) (hn : new.length = m) (hb1 : base ≤ g1) (hb2 : base ≤ g2) : OwnC w' base v' (L ++ [⟨at_, old, new⟩]) := by
  subst ho hn
  have hlen : xs.length = L.length * 3 := h.1
  refine ⟨_, by simpa using h', fun i hi => ?_⟩
  rw [List.length_append, List.length_singleton] at hi
  by_cases hlt : i < L.length
  · obtain ⟨go, co, gn, cn, h1, h2, e0, e1, e2, r1, r2⟩ := hat i hlt
    rw [List.getElem_append_left hlt]
    refine ⟨go, co, gn, cn, h1, h2, ?_, ?_, ?_, r1.grown hg (own_row_ne h r1 (by decide)), r2.grown hg (own_row_ne h r2 (by decide))⟩
    · rw [List.getElem?_append_left (by omega)]; exact e0
    · rw [List.getElem?_append_left (by omega)]; exact e1
    · rw [List.getElem?_append_left (by omega)]; exact e2
  · obtain rfl : i = L.length := by omega
    rw [List.getElem_append_right (Nat.le_refl _)]
    refine ⟨g1, c1, g2, c2, hb1, hb2, ?_, ?_, ?_, by simpa using hr1, by simpa using hr2⟩
    · rw [List.getElem?_append_right (by omega), show 3 * L.length - xs.length = 0 from by omega]; simp
    · rw [List.getElem?_append_right (by omega), show 3 * L.length + 1 - xs.length = 1 from by omega]; simp
    · rw [List.getElem?_append_right (by omega), show 3 * L.length + 2 - xs.length = 2 from by omega]; simp

theorem diff_e3 (A B : Option Addr) (n m c d : Nat) (w : World) (h : n ≠ m) :
    Calls Try.prog 5 #[.slice A n c, .slice B m d] w fun e w' => e = .returned (.tuple #[.slice none 0 0, .iface 53 (.int .i64 3)]) ∧ w = w' := by
  have h' : ((n : Int) != (m : Int)) = true := by simp; omega
  clear h
  go_enter Try.func5, Try.ntmps5
  go_wp2
  go_ret2
  exact ⟨rfl, rfl⟩
theorem diff_e4 (A B : Option Addr) (n c d : Nat) (w : World) (h : 6400 < n) :
    Calls Try.prog 5 #[.slice A n c, .slice B n d] w fun e w' => e = .returned (.tuple #[.slice none 0 0, .iface 53 (.int .i64 4)]) ∧ w = w' := by
  go_enter Try.func5, Try.ntmps5
  go_wp2
  go_ret2
  exact ⟨rfl, rfl⟩

set_option maxRecDepth 100000 in
theorem diff_ok (A B : Option Addr) (n c d : Nat) (a b : Bytes) (w : World) (hn : a.length = n) (hm : b.length = n) (hle : n ≤ 6400) (hc : n ≤ c) (hd : n ≤ d) (ha : Rd w A a) (hb : Rd w B b) :
    Calls Try.prog 5 #[.slice A n c, .slice B n d] w fun e w' => ∃ v, e = .returned (.tuple #[v, .nilIface]) ∧ OwnC w' w.heap.size v (diffL a b) ∧ Below w.heap.size w w' := by
  subst hn
  obtain ⟨i0, hi0, hz0, hz1, hz2⟩ := info_parts change_info
  go_enter Try.func5, Try.ntmps5
  go_wp2_with fail
  go_loopw [6, 7] (fun v i wr => ∃ (k : Nat) (L : List Chg), k ≤ a.length + 1 ∧ i = .int .i64 k ∧ Below w.heap.size w wr ∧ OwnC wr w.heap.size v L ∧ L.length ≤ k ∧ Hidden (L ++ diffF a b (a.length - k) k = diffL a b)) (fun _ i _ => a.length + 1 - (intOf i).toNat)
  case atStart => exact ⟨0, [], by omega, rfl, Below.refl _ _, ⟨[], World.ownsRow_nil _ _ _ _, by simp⟩, by simp, ⟨by simp [diffL]⟩⟩
  case round =>
    obtain ⟨i, L, hi, rfl, hbel, hown, hLi, HL⟩ := hrel
    by_cases hlt : i < a.length
    · have hrl := runAt_le a b i hm.symm (by omega)
      have hstep := diffF_step a b i hlt
      obtain ⟨wo, rfl⟩ : ∃ wo : World, wo = wr := ⟨_, rfl⟩
      have ha1 := ha.below hbel
      have hb1 := hb.below hbel
      obtain ⟨p, off, rfl, _⟩ := ha1 i hlt
      obtain ⟨q, off2, rfl, _⟩ := hb1 i (by omega)
      have HS := Hidden.mk hstep
      have HI := Hidden.mk hi
      clear hstep
      go_wp2_with fail
      go_loopw [8] (fun kk w2 => (∃ nq, w2 = wo.drewN nq) ∧ ∃ k : Nat, i ≤ k ∧ k ≤ a.length ∧ kk = .int .i64 k ∧ Hidden (∀ j, i ≤ j → j < k → a[j]? ≠ b[j]?)) (fun kk _ => a.length - (intOf kk).toNat)
      case atStart => exact ⟨⟨0, rfl⟩, i, by omega, by omega, rfl, ⟨fun j h1 h2 => by omega⟩⟩
      case round =>
        obtain ⟨⟨nq, rfl⟩, k, hik, hk, rfl, hne⟩ := hrel
        by_cases hk2 : k < a.length
        · have hcp := ha1.at_ k hk2
          have hcq := hb1.at_ k (by omega)
          by_cases he : a[k] = b[k]
          · have hbq : ((a[k].toNat : Int) != (b[k].toNat : Int)) = false := by simp [he]
            have HR : Hidden (runAt a b i = k - i) := ⟨runAt_at a b i k hm.symm hik hk hne.out (.inr (by rw [List.getElem?_eq_getElem hk2, List.getElem?_eq_getElem (by omega), he]))⟩
            clear hne
            go_wp2_with fail
            go_quiet (fail)
            by_cases hki : i < k
            · obtain ⟨xs, hxs, hat⟩ := hown
              go_wp2_with fail
              refine diff_region _ p off q off2 a.length c d i k u6 L.length xs w.heap.size a b _ _ _ _ _ _ _ _ _ _ _ _ _ _ _ _ _ _ _ _ _ _ _ _ _ _ _ _ _ _ _ _ _ _ _ _ _ _ _ _ _ _ _ _ _ _ _ _ _ _ _ _ _ _ _ _ _ _ _ _ rfl hm ha1 hb1 hki hk hle (by omega) (by omega) (by omega) (by omega) hxs hbel.size (by omega) ?_
              intro v' w3 g1 c1 g2 c2 x46 x47 x48 x49 x50 x51 x52 x53 x54 x55 x56 x57 x58 x59 x60 hown3 hg1 hg2 hrow1 hrow2 hgrow
              have hrun := HR.out
              have hst := HS.out
              rw [hrun, if_pos (by omega), show i + (k - i) + 1 = k + 1 from by omega] at hst
              have HL2 : Hidden ((L ++ [⟨i, (a.drop i).take (k - i), (b.drop i).take (k - i)⟩]) ++ diffF a b (a.length - (k + 1)) (k + 1) = diffL a b) := ⟨by rw [List.append_assoc, ← hst]; exact HL.out⟩
              have hOC : OwnC w3 w.heap.size v' (L ++ [⟨i, (a.drop i).take (k - i), (b.drop i).take (k - i)⟩]) := OwnC.snoc (w := wo.drewN _) hxs hat hown3 hgrow hrow1 hrow2 (by simp; omega) (by simp; omega) (Nat.le_trans hbel.size hg1) (Nat.le_trans hbel.size hg2)
              have hB3 : Below w.heap.size w w3 := hbel.trans ((below_drewN (Below.refl _ _) _).grown hgrow hbel.size (fun q hq => (hxs.lt q hq).1))
              clear hrun hst HR HS HL hgrow hown3
              go_wp2_with fail
              go_roundw
              case rel => exact ⟨k + 1, _, by omega, by go_num, hB3, hOC, by simp; omega, HL2⟩
              case measure => simp [intOf]; omega
            · obtain rfl : k = i := by omega
              have hrun : runAt a b k = 0 := by have := HR.out; omega
              have hst := HS.out
              rw [hrun, if_neg (by omega), show k + 0 + 1 = k + 1 from by omega, List.nil_append] at hst
              have HL2 : Hidden (L ++ diffF a b (a.length - (k + 1)) (k + 1) = diffL a b) := ⟨by rw [← hst]; exact HL.out⟩
              have hOC : ∀ N, OwnC (wo.drewN N) w.heap.size u6 L := fun _ => hown
              clear hrun hst HR HS HL
              go_wp2_with fail
              go_roundw
              case rel => exact ⟨k + 1, L, by omega, by go_num, below_drewN hbel _, hOC _, by omega, HL2⟩
              case measure => simp [intOf]; omega
          · have hbq : ((a[k].toNat : Int) != (b[k].toNat : Int)) = true := by
              simp only [bne_iff_ne, ne_eq]; intro h; apply he; rw [← UInt8.toNat_inj]; omega
            have hnk : Hidden (∀ j, i ≤ j → j < k + 1 → a[j]? ≠ b[j]?) := ⟨fun j h1 h2 => by
              rcases Nat.lt_or_ge j k with h | h
              · exact hne.out j h1 h
              · obtain rfl : j = k := by omega
                rw [List.getElem?_eq_getElem hk2, List.getElem?_eq_getElem (by omega)]
                simpa using he⟩
            clear he hne
            go_wp2_with fail
            go_quiet (fail)
            go_wp2_with fail
            go_roundw
            case rel => exact ⟨⟨_, rfl⟩, k + 1, by omega, by omega, by go_num, hnk⟩
            case measure => simp [intOf]; omega
        · have hk2' : decide ((k : Int) < a.length) = false := by simp; omega
          have HR : Hidden (runAt a b i = k - i) := ⟨runAt_at a b i k hm.symm hik hk hne.out (.inl (by omega))⟩
          clear hne
          go_wp2_with fail
          go_quiet (fail)
          by_cases hki : i < k
          · obtain ⟨xs, hxs, hat⟩ := hown
            go_wp2_with fail
            refine diff_region _ p off q off2 a.length c d i k u6 L.length xs w.heap.size a b _ _ _ _ _ _ _ _ _ _ _ _ _ _ _ _ _ _ _ _ _ _ _ _ _ _ _ _ _ _ _ _ _ _ _ _ _ _ _ _ _ _ _ _ _ _ _ _ _ _ _ _ _ _ _ _ _ _ _ _ rfl hm ha1 hb1 hki hk hle (by omega) (by omega) (by omega) (by omega) hxs hbel.size (by omega) ?_
            intro v' w3 g1 c1 g2 c2 x46 x47 x48 x49 x50 x51 x52 x53 x54 x55 x56 x57 x58 x59 x60 hown3 hg1 hg2 hrow1 hrow2 hgrow
            have hrun := HR.out
            have hst := HS.out
            rw [hrun, if_pos (by omega), show i + (k - i) + 1 = k + 1 from by omega] at hst
            have HL2 : Hidden ((L ++ [⟨i, (a.drop i).take (k - i), (b.drop i).take (k - i)⟩]) ++ diffF a b (a.length - (k + 1)) (k + 1) = diffL a b) := ⟨by rw [List.append_assoc, ← hst]; exact HL.out⟩
            have hOC : OwnC w3 w.heap.size v' (L ++ [⟨i, (a.drop i).take (k - i), (b.drop i).take (k - i)⟩]) := OwnC.snoc (w := wo.drewN _) hxs hat hown3 hgrow hrow1 hrow2 (by simp; omega) (by simp; omega) (Nat.le_trans hbel.size hg1) (Nat.le_trans hbel.size hg2)
            have hB3 : Below w.heap.size w w3 := hbel.trans ((below_drewN (Below.refl _ _) _).grown hgrow hbel.size (fun q hq => (hxs.lt q hq).1))
            clear hrun hst HR HS HL hgrow hown3
            go_wp2_with fail
            go_roundw
            case rel => exact ⟨k + 1, _, by omega, by go_num, hB3, hOC, by simp; omega, HL2⟩
            case measure => simp [intOf]; omega
          · obtain rfl : k = i := by omega
            have hrun : runAt a b k = 0 := by have := HR.out; omega
            have hst := HS.out
            rw [hrun, if_neg (by omega), show k + 0 + 1 = k + 1 from by omega, List.nil_append] at hst
            have HL2 : Hidden (L ++ diffF a b (a.length - (k + 1)) (k + 1) = diffL a b) := ⟨by rw [← hst]; exact HL.out⟩
            have hOC : ∀ N, OwnC (wo.drewN N) w.heap.size u6 L := fun _ => hown
            clear hrun hst HR HS HL
            go_wp2_with fail
            go_roundw
            case rel => exact ⟨k + 1, L, by omega, by go_num, below_drewN hbel _, hOC _, by omega, HL2⟩
            case measure => simp [intOf]; omega
    · go_wp2_with fail
      go_ret2
      have hfin : Hidden (L = diffL a b) := ⟨by
        have := HL.out
        rw [show a.length - i = 0 from by omega] at this
        simpa [diffF] using this⟩
      exact ⟨_, rfl, by rw [← hfin.out]; exact hown, hbel⟩
end Go.Proofs.Ytgejkhokijjemaa
/- Plain facts on where changes lie. No program in sight. -/
namespace Go.Proofs.Ytgejkhokijjemaa

/-- what each change is -/
structure IsChg (a b : Bytes) (i : Nat) (c : Chg) (j r : Nat) : Prop where
  at_ : c.at_ = j
  lo : i ≤ j
  pos : 0 < r
  hi : j + r ≤ a.length
  old : c.old = (a.drop j).take r
  new : c.new = (b.drop j).take r
  ne : ∀ p, j ≤ p → p < j + r → a[p]? ≠ b[p]?
theorem diffF_mem (a b : Bytes) (hl : a.length = b.length) (f : Nat) : ∀ i, ∀ c ∈ diffF a b f i, ∃ j r, IsChg a b i c j r := by
  induction f with
  | zero => intro i c hc; simp [diffF] at hc
  | succ f ih =>
    intro i c hc
    simp only [diffF] at hc
    split at hc
    · rename_i hi
      rw [List.mem_append] at hc
      rcases hc with hc | hc
      · split at hc
        · rename_i hr
          rw [List.mem_singleton] at hc
          subst hc
          exact ⟨i, runAt a b i, rfl, Nat.le_refl _, hr, runAt_le a b i hl (by omega), rfl, rfl, fun p h1 h2 => runAt_ne a b i p h1 h2⟩
        · simp at hc
      · obtain ⟨j, r, h⟩ := ih _ c hc
        exact ⟨j, r, h.at_, by have := h.lo; omega, h.pos, h.hi, h.old, h.new, h.ne⟩
    · simp at hc
theorem diffL_mem (a b : Bytes) (hl : a.length = b.length) (c : Chg) (h : c ∈ diffL a b) : ∃ j r, IsChg a b 0 c j r := diffF_mem a b hl _ 0 c h
theorem IsChg.old_len {a b : Bytes} {i : Nat} {c : Chg} {j r : Nat} (h : IsChg a b i c j r) : c.old.length = r := by rw [h.old]; simp; have := h.hi; omega
theorem IsChg.new_len {a b : Bytes} {i : Nat} {c : Chg} {j r : Nat} (h : IsChg a b i c j r) (hl : a.length = b.length) : c.new.length = r := by rw [h.new]; simp; have := h.hi; omega
/-- where nothing differs from i on no change is told -/
theorem diffF_nil (a b : Bytes) (f : Nat) : ∀ i, a.length - i ≤ f → diffF a b f i = [] → ∀ p, i ≤ p → p < a.length → a.length = b.length → a[p]? = b[p]? := by
  induction f with
  | zero => intro i hf _ p hp hl _; omega
  | succ f ih =>
    intro i hf h p hp hpl hl
    simp only [diffF] at h
    rw [if_pos (by omega), List.append_eq_nil_iff] at h
    have h0 : runAt a b i = 0 := by
      rcases Nat.eq_zero_or_pos (runAt a b i) with h0 | h0
      · exact h0
      · have := h.1; rw [if_pos h0] at this; cases this
    rw [h0] at h
    rcases Nat.eq_or_lt_of_le hp with he | hlt
    · subst he
      have := runAt_stop a b i hl (by omega)
      rw [h0, Nat.add_zero] at this
      exact this
    · exact ih _ (by omega) h.2 p (by omega) hpl hl
theorem diffL_eq_nil (a b : Bytes) (hl : a.length = b.length) (h : diffL a b = []) : a = b := by
  apply List.ext_getElem? 
  intro p
  by_cases hp : p < a.length
  · exact diffF_nil a b _ 0 (by omega) h p (by omega) hp hl
  · rw [List.getElem?_eq_none (by omega), List.getElem?_eq_none (by omega)]
theorem diffL_self (a : Bytes) : diffL a a = [] := by
  cases h : diffL a a with
  | nil => rfl
  | cons c r =>
    obtain ⟨j, r', hc⟩ := diffL_mem a a rfl c (by rw [h]; simp)
    exact absurd rfl (hc.ne j (Nat.le_refl _) (by have := hc.pos; omega))
/-- what was put at a place changes no byte but there -/
theorem splice_same (l x : Bytes) (o p : Nat) (h : o + x.length ≤ l.length) (hp : p < o ∨ o + x.length ≤ p) : l[p]? = (splice l o x)[p]? := by
  unfold splice
  have hl : (l.take o).length = o := by simp; omega
  rcases hp with hp | hp
  · rw [List.getElem?_append_left (by omega), List.getElem?_take, if_pos hp]
  · rw [List.getElem?_append_right (by omega), hl, List.getElem?_append_right (by omega), List.getElem?_drop]
    congr 1; omega
theorem splice_get (l x : Bytes) (o q : Nat) (h : o + x.length ≤ l.length) (hq : q < x.length) : (splice l o x)[o + q]? = x[q]? := by
  unfold splice
  have hl : (l.take o).length = o := by simp; omega
  rw [List.getElem?_append_right (by omega), hl, List.getElem?_append_left (by omega)]
  congr 1; omega
theorem diff_splice (l x : Bytes) (o : Nat) (h : o + x.length ≤ l.length) (c : Chg) (hc : c ∈ diffL l (splice l o x)) : ∃ j r : Nat, c.at_ = j ∧ c.new.length = r ∧ o ≤ j ∧ j + r ≤ o + x.length := by
  have hl : l.length = (splice l o x).length := (length_splice l o x h).symm
  obtain ⟨j, r, hj⟩ := diffL_mem _ _ hl c hc
  refine ⟨j, r, hj.at_, hj.new_len hl, ?_, ?_⟩
  · rcases Nat.lt_or_ge j o with hlt | hge
    · exact absurd (splice_same l x o j h (.inl hlt)) (hj.ne j (Nat.le_refl _) (by have := hj.pos; omega))
    · exact hge
  · rcases Nat.lt_or_ge (o + x.length) (j + r) with hlt | hge
    · have := hj.pos
      exact absurd (splice_same l x o (j + r - 1) h (.inr (by omega))) (hj.ne (j + r - 1) (by omega) (by omega))
    · exact hge
end Go.Proofs.Ytgejkhokijjemaa
/- Reading what diff.Diff gave. -/
namespace Go.Proofs.Ytgejkhokijjemaa
open Go.RowKit

/-- the cells of one change of a slice that lies at A -/
structure ChCells (w : World) (g off i : Nat) (c : Chg) (go co gn cn : Nat) : Prop where
  at_ : w.cell? ⟨g, off + i * 3, none⟩ = some (.int .i64 c.at_)
  old : w.cell? ⟨g, off + i * 3 + 1, none⟩ = some (.slice (some ⟨go, 0, none⟩) c.old.length co)
  new : w.cell? ⟨g, off + i * 3 + 2, none⟩ = some (.slice (some ⟨gn, 0, none⟩) c.new.length cn)
  rowO : Row w 5 go co c.old
  rowN : Row w 5 gn cn c.new
/-- the slice at A has the changes L -/
def RdC (w : World) (A : Option Addr) (L : List Chg) : Prop := ∀ i (h : i < L.length), ∃ g off go co gn cn, A = some ⟨g, off, none⟩ ∧ ChCells w g off i L[i] go co gn cn
theorem OwnC.rd {w : World} {base : Nat} {v : Value} {L : List Chg} (h : OwnC w base v L) : ∃ A c, v = .slice A L.length c ∧ L.length ≤ c ∧ c ≤ maxLen ∧ RdC w A L := by
  obtain ⟨xs, hown, hat⟩ := h
  rcases hown.2 with ⟨rfl, h0⟩ | ⟨g, cap, cur, rfl, _, hh, hc, hm, hz, ht⟩
  · rw [h0]
    exact ⟨none, 0, rfl, by omega, by simp, fun i hi => by omega⟩
  · refine ⟨_, cap, rfl, hc, hm, fun i hi => ?_⟩
    obtain ⟨go, co, gn, cn, _, _, e0, e1, e2, r1, r2⟩ := hat i hi
    have hcell : ∀ j u, xs[j]? = some u → w.cell? ⟨g, 0 + j, none⟩ = some u := fun j u hu => by
      have := hown.cells (g := g) rfl j u hu
      rw [Addr.add_lit] at this
      exact this
    rw [Nat.mul_comm 3 i] at e0 e1 e2
    exact ⟨g, 0, go, co, gn, cn, rfl, hcell _ _ e0, (Nat.add_assoc 0 (i * 3) 1) ▸ hcell _ _ e1, (Nat.add_assoc 0 (i * 3) 2) ▸ hcell _ _ e2, r1, r2⟩
theorem ChCells.below {w w' : World} {g off i : Nat} {c : Chg} {go co gn cn : Nat} (h : ChCells w g off i c go co gn cn) (hb : Below w.heap.size w w') : ChCells w' g off i c go co gn cn :=
  ⟨(hb.cell (block_lt_of_cell h.at_)).trans h.at_, (hb.cell (block_lt_of_cell h.old)).trans h.old, (hb.cell (block_lt_of_cell h.new)).trans h.new, h.rowO.below hb h.rowO.lt, h.rowN.below hb h.rowN.lt⟩
theorem RdC.below {w w' : World} {A : Option Addr} {L : List Chg} (h : RdC w A L) (hb : Below w.heap.size w w') : RdC w' A L := fun i hi => by
  obtain ⟨g, off, go, co, gn, cn, hA, hc⟩ := h i hi
  exact ⟨g, off, go, co, gn, cn, hA, hc.below hb⟩
end Go.Proofs.Ytgejkhokijjemaa
/- Plain facts on applying changes, and turning them. No program in sight. -/
namespace Go.Proofs.Ytgejkhokijjemaa

/-- one change applied: a number of an error, or the bytes -/
def apply1 (b : Bytes) (c : Chg) : Except Int Bytes :=
  if c.at_ < 0 ∨ (b.length : Int) < c.at_ ∨ (b.length : Int) - c.at_ < c.old.length then .error 1
  else if c.old.length ≠ c.new.length then .error 3
  else if (b.drop c.at_.toNat).take c.old.length ≠ c.old then .error 6
  else .ok (splice b c.at_.toNat c.new)
/-- changes applied, one after the other -/
def applyL : Bytes → List Chg → Except Int Bytes
  | b, [] => .ok b
  | b, c :: L => match apply1 b c with
    | .error e => .error e
    | .ok b' => applyL b' L
/-- changes turned -/
def turnC (c : Chg) : Chg := ⟨c.at_, c.new, c.old⟩
def turnL (L : List Chg) : List Chg := L.reverse.map turnC

theorem apply1_len {b b' : Bytes} {c : Chg} (h : apply1 b c = .ok b') : b'.length = b.length := by
  unfold apply1 at h
  split at h
  · cases h
  · split at h
    · cases h
    · split at h
      · cases h
      · rename_i h1 h2 h3
        injection h with h
        subst h
        exact length_splice _ _ _ (by omega)
theorem apply1_ok (b old new : Bytes) (j : Nat) (hn : old.length = new.length) (hj : j + old.length ≤ b.length) (ho : (b.drop j).take old.length = old) : apply1 b ⟨j, old, new⟩ = .ok (splice b j new) := by
  unfold apply1
  simp only [Int.toNat_natCast]
  rw [if_neg (by omega), if_neg (by omega), if_neg (by simpa using ho)]
theorem applyL_append (b : Bytes) (L M : List Chg) : applyL b (L ++ M) = match applyL b L with
    | .error e => .error e
    | .ok b' => applyL b' M := by
  induction L generalizing b with
  | nil => rfl
  | cons c L ih =>
    simp only [List.cons_append, applyL]
    cases apply1 b c with
    | error e => rfl
    | ok b' => exact ih b'
theorem applyL_one (b : Bytes) (c : Chg) : applyL b [c] = apply1 b c := by
  simp only [applyL]
  cases apply1 b c <;> rfl
theorem turnL_append (L M : List Chg) : turnL (L ++ M) = turnL M ++ turnL L := by simp [turnL]
theorem turnL_length (L : List Chg) : (turnL L).length = L.length := by simp [turnL]
theorem take_drop_ext (x y : Bytes) (i r : Nat) (h : ∀ p, i ≤ p → p < i + r → x[p]? = y[p]?) : (x.drop i).take r = (y.drop i).take r := by
  apply List.ext_getElem?
  intro p
  rw [List.getElem?_take, List.getElem?_take]
  split
  · rw [List.getElem?_drop, List.getElem?_drop]; exact h _ (by omega) (by omega)
  · rfl
theorem splice_read (l x : Bytes) (o p : Nat) (h : o + x.length ≤ l.length) : (splice l o x)[p]? = if o ≤ p ∧ p < o + x.length then x[p - o]? else l[p]? := by
  split
  · rename_i hp
    have := splice_get l x o (p - o) h (by omega)
    rwa [show o + (p - o) = p from by omega] at this
  · rename_i hp
    exact (splice_same l x o p h (by omega)).symm
theorem cut_read (x : Bytes) (i r p : Nat) (h1 : i ≤ p) (h2 : p < i + r) : ((x.drop i).take r)[p - i]? = x[p]? := by
  rw [List.getElem?_take, if_pos (by omega), List.getElem?_drop]
  congr 1; omega
/-- what has changed makes of the old the new -/
theorem apply_diffF (a b : Bytes) (hl : a.length = b.length) (f : Nat) : ∀ i cur, a.length - i ≤ f → cur.length = a.length → (∀ p, cur[p]? = if p < i then b[p]? else a[p]?) → applyL cur (diffF a b f i) = .ok b := by
  have hend : ∀ i (cur : Bytes), a.length ≤ i → cur.length = a.length → (∀ p, cur[p]? = if p < i then b[p]? else a[p]?) → cur = b := by
    intro i cur hi hc hp
    apply List.ext_getElem?
    intro p
    rw [hp p]
    split
    · rfl
    · rw [List.getElem?_eq_none (by omega), List.getElem?_eq_none (by omega)]
  induction f with
  | zero =>
    intro i cur hf hc hp
    simp only [diffF, applyL]
    rw [hend i cur (by omega) hc hp]
  | succ f ih =>
    intro i cur hf hc hp
    simp only [diffF]
    by_cases hi : i < a.length
    · rw [if_pos hi]
      have hr := runAt_le a b i hl (by omega)
      have hstop : i + runAt a b i < a.length → a[i + runAt a b i]? = b[i + runAt a b i]? := runAt_stop a b i hl
      generalize runAt a b i = r at *
      by_cases h0 : 0 < r
      · rw [if_pos h0, applyL_append, applyL_one]
        have ho : ((a.drop i).take r).length = r := by simp; omega
        have hn : ((b.drop i).take r).length = r := by simp; omega
        have hm : (cur.drop i).take ((a.drop i).take r).length = (a.drop i).take r := by
          rw [ho]
          exact take_drop_ext _ _ _ _ fun p h1 h2 => by rw [hp p, if_neg (by omega)]
        rw [apply1_ok cur _ _ i (by omega) (by omega) hm]
        dsimp only
        refine ih _ _ (by omega) (by rw [length_splice _ _ _ (by omega), hc]) fun p => ?_
        rw [splice_read _ _ _ _ (by omega), hn]
        by_cases h1 : i ≤ p ∧ p < i + r
        · rw [if_pos h1, if_pos (by omega), cut_read _ _ _ _ h1.1 h1.2]
        · rw [if_neg h1, hp p]
          by_cases h2 : p < i
          · rw [if_pos h2, if_pos (by omega)]
          · rw [if_neg h2]
            by_cases h3 : p < i + r + 1
            · rw [if_pos h3]
              obtain rfl : p = i + r := by omega
              by_cases h4 : i + r < a.length
              · exact hstop h4
              · rw [List.getElem?_eq_none (by omega), List.getElem?_eq_none (by omega)]
            · rw [if_neg h3]
      · obtain rfl : r = 0 := by omega
        rw [if_neg h0, List.nil_append]
        refine ih _ _ (by omega) hc fun p => ?_
        rw [hp p]
        by_cases h2 : p < i
        · rw [if_pos h2, if_pos (by omega)]
        · rw [if_neg h2]
          by_cases h3 : p < i + 0 + 1
          · rw [if_pos h3]
            obtain rfl : p = i := by omega
            exact hstop (by omega)
          · rw [if_neg h3]
    · rw [if_neg hi]
      simp only [applyL]
      rw [hend i cur (by omega) hc hp]
theorem apply_diffL (a b : Bytes) (hl : a.length = b.length) : applyL a (diffL a b) = .ok b :=
  apply_diffF a b hl _ 0 a (by omega) rfl fun p => by rw [if_neg (by omega)]
/-- .. and turned, of the new the old -/
theorem apply_turnF (a b : Bytes) (hl : a.length = b.length) (f : Nat) : ∀ i cur, a.length - i ≤ f → cur.length = a.length → (∀ p, i ≤ p → cur[p]? = b[p]?) →
    ∃ c', applyL cur (turnL (diffF a b f i)) = .ok c' ∧ c'.length = a.length ∧ ∀ p, c'[p]? = if p < i then cur[p]? else a[p]? := by
  have hend : ∀ i (cur : Bytes), a.length ≤ i → cur.length = a.length → ∀ p, cur[p]? = if p < i then cur[p]? else a[p]? := by
    intro i cur hi hc p
    split
    · rfl
    · rw [List.getElem?_eq_none (by omega), List.getElem?_eq_none (by omega)]
  induction f with
  | zero =>
    intro i cur hf hc hp
    exact ⟨cur, rfl, hc, hend i cur (by omega) hc⟩
  | succ f ih =>
    intro i cur hf hc hp
    simp only [diffF]
    by_cases hi : i < a.length
    · rw [if_pos hi]
      have hr := runAt_le a b i hl (by omega)
      have hstop : i + runAt a b i < a.length → a[i + runAt a b i]? = b[i + runAt a b i]? := runAt_stop a b i hl
      generalize runAt a b i = r at *
      obtain ⟨c1, h1, hl1, hp1⟩ := ih (i + r + 1) cur (by omega) hc (fun p h => hp p (by omega))
      rw [turnL_append, applyL_append, h1]
      dsimp only
      by_cases h0 : 0 < r
      · rw [if_pos h0]
        have ho : ((a.drop i).take r).length = r := by simp; omega
        have hn : ((b.drop i).take r).length = r := by simp; omega
        have hm : (c1.drop i).take ((b.drop i).take r).length = (b.drop i).take r := by
          rw [hn]
          exact take_drop_ext _ _ _ _ fun p h1 h2 => by rw [hp1 p, if_pos (by omega), hp p (by omega)]
        refine ⟨splice c1 i ((a.drop i).take r), ?_, by rw [length_splice _ _ _ (by omega), hl1], fun p => ?_⟩
        · simp only [turnL, List.reverse_cons, List.reverse_nil, List.nil_append, List.map_cons, List.map_nil, turnC]
          rw [applyL_one]
          exact apply1_ok c1 _ _ i (by omega) (by omega) hm
        · rw [splice_read _ _ _ _ (by omega), ho]
          by_cases h2 : i ≤ p ∧ p < i + r
          · rw [if_pos h2, if_neg (by omega), cut_read _ _ _ _ h2.1 h2.2]
          · rw [if_neg h2, hp1 p]
            by_cases h3 : p < i
            · rw [if_pos (by omega), if_pos h3]
            · rw [if_neg h3]
              by_cases h4 : p < i + r + 1
              · rw [if_pos h4, hp p (by omega)]
                obtain rfl : p = i + r := by omega
                by_cases h5 : i + r < a.length
                · exact (hstop h5).symm
                · rw [List.getElem?_eq_none (by omega), List.getElem?_eq_none (by omega)]
              · rw [if_neg h4]
      · obtain rfl : r = 0 := by omega
        rw [if_neg h0]
        refine ⟨c1, rfl, hl1, fun p => ?_⟩
        rw [hp1 p]
        by_cases h3 : p < i
        · rw [if_pos (by omega), if_pos h3]
        · rw [if_neg h3]
          by_cases h4 : p < i + 0 + 1
          · rw [if_pos h4, hp p (by omega)]
            obtain rfl : p = i := by omega
            exact (hstop (by omega)).symm
          · rw [if_neg h4]
    · rw [if_neg hi]
      exact ⟨cur, rfl, hc, hend i cur (by omega) hc⟩
theorem apply_turnL (a b : Bytes) (hl : a.length = b.length) : applyL b (turnL (diffL a b)) = .ok a := by
  obtain ⟨c, h, hc, hp⟩ := apply_turnF a b hl a.length 0 b (by omega) hl.symm (fun _ _ => rfl)
  have : c = a := List.ext_getElem? fun p => by rw [hp p, if_neg (by omega)]
  rw [this] at h; exact h
/-- where a change begins, and that two do not touch -/
theorem diffF_apart (a b : Bytes) (hl : a.length = b.length) (f : Nat) : ∀ i, ∀ k c d, (diffF a b f i)[k]? = some c → (diffF a b f i)[k + 1]? = some d → c.at_ + (c.old.length : Int) < d.at_ := by
  induction f with
  | zero => intro i k c d h; simp [diffF] at h
  | succ f ih =>
    intro i k c d h1 h2
    simp only [diffF] at h1 h2
    split at h1
    · rename_i hi
      rw [if_pos hi] at h2
      split at h1
      · rename_i h0
        rw [if_pos h0] at h2
        cases k with
        | zero =>
          simp only [List.singleton_append, List.getElem?_cons_zero, Option.some.injEq, List.getElem?_cons_succ] at h1 h2
          obtain ⟨j, r, hj⟩ := diffF_mem a b hl f _ d (List.mem_of_getElem? h2)
          have hle := runAt_le a b i hl (by omega)
          have ho : ((a.drop i).take (runAt a b i)).length = runAt a b i := by simp; omega
          subst h1
          rw [hj.at_]
          have := hj.lo
          dsimp only
          rw [ho]
          omega
        | succ k =>
          simp only [List.singleton_append, List.getElem?_cons_succ] at h1 h2
          exact ih _ k c d h1 h2
      · rename_i h0
        rw [if_neg h0] at h2
        exact ih _ k c d h1 h2
    · simp at h1
end Go.Proofs.Ytgejkhokijjemaa
/- The contract of num.Same. -/
namespace Go.Proofs.Ytgejkhokijjemaa
open Go.RowKit

/-- at how many places, from the first on, two lists are the same -/
def sameL : Bytes → Bytes → Nat
  | x :: a, y :: b => if x = y then sameL a b + 1 else 0
  | _, _ => 0
theorem sameL_le (a b : Bytes) : sameL a b ≤ a.length ∧ sameL a b ≤ b.length := by
  induction a generalizing b with
  | nil => simp [sameL]
  | cons x a ih =>
    cases b with
    | nil => simp [sameL]
    | cons y b =>
      simp only [sameL]
      have := ih b
      split <;> simp <;> omega
theorem sameL_at (k : Nat) : ∀ (a b : Bytes), a.take k = b.take k → k ≤ a.length → k ≤ b.length → (k = a.length ∨ k = b.length ∨ a[k]? ≠ b[k]?) → sameL a b = k := by
  induction k with
  | zero =>
    intro a b _ _ _ h
    cases a with
    | nil => simp [sameL]
    | cons x a =>
      cases b with
      | nil => simp [sameL]
      | cons y b => simp at h; simp [sameL, h]
  | succ k ih =>
    intro a b ht ha hb h
    cases a with
    | nil => simp at ha
    | cons x a =>
      cases b with
      | nil => simp at hb
      | cons y b =>
        simp only [List.take_succ_cons, List.cons.injEq] at ht
        have := ih a b ht.2 (by simpa using ha) (by simpa using hb) (by simpa using h)
        simp [sameL, ht.1, this]

end Go.Proofs.Ytgejkhokijjemaa
/- Contracts over strings and bytes: slices.IndexFunc and ContainsFunc at whatever pure predicate. -/
namespace Go.Proofs.Ytgejkhokijjemaa
open Go.RowKit

/-- function F answers as p, of whatever byte, and leaves the world alone -/
def Pred (F : FuncId) (p : UInt8 → Bool) : Prop := ∀ (x : UInt8) (w : World), Calls Try.prog F #[bv x] w fun e w' => e = .returned (.bool (p x)) ∧ w = w'

def idxP (p : UInt8 → Bool) (l : Bytes) : Int := match l.findIdx? p with | some k => k | none => -1
theorem idxP_at (p : UInt8 → Bool) (l : Bytes) (k : Nat) (hk : k < l.length) (hn : ∀ x ∈ l.take k, p x = false) (he : p l[k] = true) : idxP p l = k := by
  have : l.findIdx? p = some k := by
    rw [List.findIdx?_eq_some_iff_getElem]
    refine ⟨hk, he, fun j hj => ?_⟩
    have := hn l[j] (by rw [List.mem_take_iff_getElem]; exact ⟨j, by omega, rfl⟩)
    simpa using this
  unfold idxP; rw [this]
theorem idxP_none (p : UInt8 → Bool) (l : Bytes) (hn : ∀ x ∈ l, p x = false) : idxP p l = -1 := by
  have : l.findIdx? p = none := by rw [List.findIdx?_eq_none_iff]; exact hn
  unfold idxP; rw [this]
theorem idxP_any (p : UInt8 → Bool) (l : Bytes) : decide (0 ≤ idxP p l) = l.any p := by
  unfold idxP
  cases h : l.findIdx? p with
  | none =>
    rw [List.findIdx?_eq_none_iff] at h
    simp only [Int.reduceNeg, Int.reduceLE, decide_false]
    symm
    simpa using h
  | some k =>
    rw [List.findIdx?_eq_some_iff_getElem] at h
    obtain ⟨hk, he, _⟩ := h
    have : l.any p = true := List.any_eq_true.2 ⟨l[k], List.getElem_mem hk, he⟩
    rw [this]
    simp
theorem forall_take_succ {p : UInt8 → Bool} {l : Bytes} {k : Nat} (hk : k < l.length) (hn : ∀ x ∈ l.take k, p x = false) (he : p l[k] = false) : ∀ x ∈ l.take (k + 1), p x = false := by
  rw [List.take_succ_eq_append_getElem hk]
  intro x hx
  rw [List.mem_append, List.mem_singleton] at hx
  rcases hx with hx | rfl
  · exact hn x hx
  · exact he

theorem ret_bool {a b : Bool} (h : a = b) : Ending.returned (.bool a) = .returned (.bool b) := by rw [h]
def notLower (c : UInt8) : Bool := decide (c.toNat < 97) || decide (122 < c.toNat)
def nonZero (c : UInt8) : Bool := c != 0
theorem pred_name : Pred 81 notLower := by
  intro x w
  by_cases h : x.toNat < 97
  · go_enter Try.func81, Try.ntmps81
    go_wp2
    go_ret
    exact ⟨ret_bool (by simp [notLower, h]), rfl⟩
  · go_enter Try.func81, Try.ntmps81
    go_wp2
    go_ret
    exact ⟨ret_bool (by unfold notLower; congr 1 <;> (rw [decide_eq_decide]; omega)), rfl⟩
theorem bv_bne (x : UInt8) : ((x.toNat : Int) != 0) = nonZero x := by
  unfold nonZero
  have := bv_beq x 0
  simp only [bne, ← this]; rfl
theorem pred_zero : Pred 72 nonZero := by
  intro x w
  have hb := Hidden.mk (bv_bne x)
  go_enter Try.func72, Try.ntmps72
  go_wp2
  go_ret
  exact ⟨ret_bool hb.out, rfl⟩
theorem idxf_name (A : Option Addr) (n c : Nat) (l : Bytes) (w : World) (hn : l.length = n) (hl : n ≤ maxLen) (hr : Rd w A l) :
    Calls Try.prog 93 #[.slice A n c, .func (.func 81) #[] #[]] w fun e w' => e = .returned (.int .i64 (idxP notLower l)) ∧ w = w' := by
  subst hn
  unfold maxLen at hl
  have HP := Hidden.mk pred_name
  generalize notLower = p at HP ⊢
  go_enter Try.func93, Try.ntmps93
  go_wp2
  go_loopw [8] (fun i wr => w = wr ∧ ∃ k : Nat, k ≤ l.length ∧ i = .int .i64 k ∧ Hidden (∀ x ∈ l.take k, p x = false)) (fun i _ => l.length - (intOf i).toNat)
  case atStart => exact ⟨rfl, 0, Nat.zero_le _, rfl, ⟨by simp⟩⟩
  case round =>
    obtain ⟨rfl, k, hk, rfl, hnot⟩ := hrel
    by_cases hlt : k < l.length
    · obtain ⟨b, off, rfl, hc⟩ := hr k hlt
      go_wp2_with fail
      refine (HP.out _ _).mono ?_
      rintro e w1 ⟨rfl, rfl⟩
      cases he : p l[k] with
      | true =>
        have hi : Hidden (idxP p l = k) := ⟨idxP_at p l k hlt hnot.out he⟩
        clear he
        go_wp2
        go_ret
        exact ⟨ret_i64 hi.out.symm, rfl⟩
      | false =>
        have hnk : Hidden (∀ x ∈ l.take (k + 1), p x = false) := ⟨forall_take_succ hlt hnot.out he⟩
        clear he hnot
        go_wp2
        go_roundw
        case rel => exact ⟨by trivial, k + 1, by omega, by go_num, hnk⟩
        case measure => simp [intOf]; omega
    · have hi : Hidden (idxP p l = -1) := ⟨idxP_none p l (by have := hnot.out; rwa [List.take_of_length_le (by omega)] at this)⟩
      go_wp2
      go_ret
      exact ⟨ret_i64 hi.out.symm, rfl⟩
theorem containsf_name (A : Option Addr) (n c : Nat) (l : Bytes) (w : World) (hn : l.length = n) (hl : n ≤ maxLen) (hr : Rd w A l) :
    Calls Try.prog 71 #[.slice A n c, .func (.func 81) #[] #[]] w fun e w' => e = .returned (.bool (l.any notLower)) ∧ w = w' := by
  have hv := Hidden.mk (idxP_any notLower l)
  go_enter Try.func71, Try.ntmps71
  go_wp2_with fail
  refine (idxf_name A n c l _ hn hl hr).mono ?_
  rintro e w1 ⟨rfl, rfl⟩
  go_wp2
  go_ret
  exact ⟨congrArg (fun b => Ending.returned (.bool b)) hv.out, rfl⟩
theorem idxf_zero (A : Option Addr) (n c : Nat) (l : Bytes) (w : World) (hn : l.length = n) (hl : n ≤ maxLen) (hr : Rd w A l) :
    Calls Try.prog 93 #[.slice A n c, .func (.func 72) #[] #[]] w fun e w' => e = .returned (.int .i64 (idxP nonZero l)) ∧ w = w' := by
  subst hn
  unfold maxLen at hl
  have HP := Hidden.mk pred_zero
  generalize nonZero = p at HP ⊢
  go_enter Try.func93, Try.ntmps93
  go_wp2
  go_loopw [8] (fun i wr => w = wr ∧ ∃ k : Nat, k ≤ l.length ∧ i = .int .i64 k ∧ Hidden (∀ x ∈ l.take k, p x = false)) (fun i _ => l.length - (intOf i).toNat)
  case atStart => exact ⟨rfl, 0, Nat.zero_le _, rfl, ⟨by simp⟩⟩
  case round =>
    obtain ⟨rfl, k, hk, rfl, hnot⟩ := hrel
    by_cases hlt : k < l.length
    · obtain ⟨b, off, rfl, hc⟩ := hr k hlt
      go_wp2_with fail
      refine (HP.out _ _).mono ?_
      rintro e w1 ⟨rfl, rfl⟩
      cases he : p l[k] with
      | true =>
        have hi : Hidden (idxP p l = k) := ⟨idxP_at p l k hlt hnot.out he⟩
        clear he
        go_wp2
        go_ret
        exact ⟨ret_i64 hi.out.symm, rfl⟩
      | false =>
        have hnk : Hidden (∀ x ∈ l.take (k + 1), p x = false) := ⟨forall_take_succ hlt hnot.out he⟩
        clear he hnot
        go_wp2
        go_roundw
        case rel => exact ⟨by trivial, k + 1, by omega, by go_num, hnk⟩
        case measure => simp [intOf]; omega
    · have hi : Hidden (idxP p l = -1) := ⟨idxP_none p l (by have := hnot.out; rwa [List.take_of_length_le (by omega)] at this)⟩
      go_wp2
      go_ret
      exact ⟨ret_i64 hi.out.symm, rfl⟩
theorem containsf_zero (A : Option Addr) (n c : Nat) (l : Bytes) (w : World) (hn : l.length = n) (hl : n ≤ maxLen) (hr : Rd w A l) :
    Calls Try.prog 71 #[.slice A n c, .func (.func 72) #[] #[]] w fun e w' => e = .returned (.bool (l.any nonZero)) ∧ w = w' := by
  have hv := Hidden.mk (idxP_any nonZero l)
  go_enter Try.func71, Try.ntmps71
  go_wp2_with fail
  refine (idxf_zero A n c l _ hn hl hr).mono ?_
  rintro e w1 ⟨rfl, rfl⟩
  go_wp2
  go_ret
  exact ⟨congrArg (fun b => Ending.returned (.bool b)) hv.out, rfl⟩
end Go.Proofs.Ytgejkhokijjemaa
/- The contracts of num.name, PutName, GetName. -/
namespace Go.Proofs.Ytgejkhokijjemaa
open Go.RowKit

def isName (l : Bytes) : Bool := !l.isEmpty && decide (l.length ≤ 8) && !l.any notLower

/-- a text as bytes: a new block -/
theorem conv_bytes (w : World) (l : Bytes) : ∃ cap W', (convert 9 22 (sv l)).run Try.prog w = .ok (.slice (some ⟨w.heap.size, 0, none⟩) l.length cap) W' ∧
    l.length ≤ cap ∧ Rd W' (some ⟨w.heap.size, 0, none⟩) l ∧ Below w.heap.size w W' := by
  refine ⟨_, _, Lib.run_convert_string_bytes w 9 22 5 ⟨l.toArray⟩ Try.underlying9 Try.underlying22 Try.underlying5, ?_, ?_, ?_⟩
  · exact grownCap_ge _ _ _ _
  · intro j hj
    refine ⟨_, 0, rfl, ?_⟩
    rw [Nat.zero_add, Lib.bytesWorld_cell w 5 ⟨l.toArray⟩ j hj]
    simp [hj]
  · exact ⟨rfl, rfl, rfl, by rw [Lib.bytesWorld_size]; omega, fun k hk => Lib.bytesWorld_at_old w _ ⟨l.toArray⟩ k hk⟩

set_option maxRecDepth 100000 in
theorem name_any (l : Bytes) (w : World) (hs : l.length ≤ 140737488351232) :
    Calls Try.prog 64 #[sv l] w fun e w' => e = .returned (.bool (isName l)) ∧ Below w.heap.size w w' := by
  by_cases h0 : l = []
  · subst h0
    go_enter Try.func64, Try.ntmps64
    go_wp2
    go_ret
    exact ⟨rfl, Below.refl _ _⟩
  · have h0' : l.isEmpty = false := by
      cases l with
      | nil => exact absurd rfl h0
      | cons a b => rfl
    clear h0
    by_cases h8 : (l.length : Int) ≤ 8
    · obtain ⟨cap, W1, hrun, hcap, hrd, hbel⟩ := conv_bytes w l
      have hv : Hidden ((!l.any notLower) = isName l) := ⟨by simp [isName, h0']; intros; omega⟩
      go_enter Try.func64, Try.ntmps64
      go_wp2_with fail
      refine (containsf_name _ _ _ l _ rfl (by simp only [maxLen]; omega) hrd).mono ?_
      rintro e w1 ⟨rfl, rfl⟩
      go_wp2
      go_ret
      exact ⟨ret_bool hv.out, hbel⟩
    · have hv : Hidden (false = isName l) := ⟨by simp [isName, h0']; intros; omega⟩
      go_enter Try.func64, Try.ntmps64
      go_wp2
      go_ret
      exact ⟨ret_bool hv.out, Below.refl _ _⟩

theorem splice_zeros (n : Nat) (l : Bytes) : splice (List.replicate n 0) 0 l = l ++ List.replicate (n - l.length) 0 := by
  simp only [splice, List.take_zero, List.nil_append, Nat.zero_add, List.drop_replicate]
/-- the bytes of a name: zeros behind it -/
def nameB (l : Bytes) : Bytes := l ++ List.replicate (8 - l.length) 0

theorem putName_no (l : Bytes) (w : World) (hs : l.length ≤ 140737488351232) (hn : isName l = false) :
    Calls Try.prog 35 #[sv l] w fun e w' => e = .returned (.tuple #[.slice none 0 0, .iface 53 (.int .i64 2)]) ∧ Below w.heap.size w w' := by
  go_enter Try.func35, Try.ntmps35
  go_wp2_with fail
  refine (name_any l _ hs).mono ?_
  rintro e w1 ⟨rfl, hb⟩
  rw [hn]
  go_wp2
  go_ret2
  exact ⟨rfl, hb⟩
set_option maxRecDepth 100000 in
theorem putName_ok (l : Bytes) (w : World) (hn : isName l = true) :
    Calls Try.prog 35 #[sv l] w fun e w' => ∃ g, e = .returned (.tuple #[.slice (some ⟨g, 0, none⟩) 8 8, .nilIface]) ∧ w.heap.size ≤ g ∧ Row w' 5 g 8 (nameB l) ∧ Below w.heap.size w w' := by
  have h8 : l.length ≤ 8 := by simp [isName] at hn; omega
  go_enter Try.func35, Try.ntmps35
  go_wp2_with fail
  refine (name_any l _ (by omega)).mono ?_
  rintro e w1 ⟨rfl, hb⟩
  rw [hn]
  have hmk := mk_bytes 8 8 rfl (by omega) w1
  have hz := row_zeros w1 8 (by simp [maxLen])
  have hblk : (w1.alloc (.cells (zeroRow 8) 5)).heap[w1.heap.size]? = some (.cells (zeroRow 8) 5 (0, 0)) := heap_alloc_new w1 _
  have hcopy := fun ty => run_copy_text (w1.alloc (.cells (zeroRow 8) 5)) w1.heap.size 0 8 8 l.length l (zeroRow 8) 5 hblk (Nat.min_eq_left h8).symm (by rw [zeroRow_size]; omega) ty
  have hres := hz.set_ 0 l (by simp; omega) _ hblk
  have hBB : Below w.heap.size w ((w1.alloc (.cells (zeroRow 8) 5)).setRow w1.heap.size (setB (zeroRow 8) 0 (l.map bv))) := below_setRow (hb.alloc hb.size _) hb.size _
  rw [List.take_of_length_le (Nat.le_refl _)] at hcopy
  generalize (w1.alloc (.cells (zeroRow 8) 5)).setRow w1.heap.size (setB (zeroRow 8) 0 (l.map bv)) = W2 at hcopy hres hBB
  clear hz hblk
  go_wp2_with fail
  go_ret2
  refine ⟨_, rfl, hb.size, ?_, hBB⟩
  rw [splice_zeros] at hres
  exact hres
end Go.Proofs.Ytgejkhokijjemaa
/- The contract of num.GetName. -/
namespace Go.Proofs.Ytgejkhokijjemaa
open Go.RowKit

/-- bytes as a text -/
theorem conv_text (w : World) (A : Option Addr) (n c : Nat) (l : Bytes) (hn : l.length = n) (hr : Rd w A l) : (convert 22 9 (.slice A n c)).run Try.prog w = .ok (sv l) w := by
  subst hn
  rcases A with _ | ad
  · have h0 : l = [] := by
      cases l with
      | nil => rfl
      | cons x r => obtain ⟨b, off, h, _⟩ := hr 0 (by simp); cases h
    subst h0
    have he := Try.underlying5
    simp [convert, run_underlying Try.underlying22, run_underlying Try.underlying9, run_underlying he, Conv.bytesToString]
    rfl
  · exact run_convert_bytes_back w _ _ _ ad c l Try.underlying22 Try.underlying5 Try.underlying9 (fun j hj => by
      have := hr.cells j (bv l[j]) (by simp [hj])
      exact this)

def nameAt (l : Bytes) : Bytes := l.take (l.idxOf 0)
def nameRest (l : Bytes) : Bytes := l.drop (l.idxOf 0)
def gotName (l : Bytes) : Bool := isName (nameAt l) && !(nameRest l).any nonZero

theorem getName_e3 (A : Option Addr) (n c : Nat) (w : World) (h8 : n ≠ 8) :
    Calls Try.prog 49 #[.slice A n c] w fun e w' => e = .returned (.tuple #[sv [], .iface 53 (.int .i64 3)]) ∧ w = w' := by
  have h8' : ((n : Int) != 8) = true := by simp; omega
  clear h8
  go_enter Try.func49, Try.ntmps49
  go_wp2
  go_ret2
  exact ⟨rfl, rfl⟩
set_option maxRecDepth 100000 in
theorem getName_any (A : Option Addr) (c : Nat) (l : Bytes) (w : World) (h8 : l.length = 8) (hc : 8 ≤ c) (hr : Rd w A l) :
    Calls Try.prog 49 #[.slice A 8 c] w fun e w' => e = .returned (.tuple (if gotName l = true then #[sv (nameAt l), .nilIface] else #[sv [], .iface 53 (.int .i64 2)])) ∧ Below w.heap.size w w' := by
  generalize hres : (if gotName l = true then #[sv (nameAt l), .nilIface] else #[sv [], .iface 53 (.int .i64 2)]) = res
  have HRES := Hidden.mk hres
  clear hres
  go_enter Try.func49, Try.ntmps49
  go_wp2_with fail
  refine (index_any A 8 c l 0 _ h8 (by simp [maxLen]) hr).mono ?_
  rintro e w1 ⟨rfl, rfl⟩
  by_cases hz : (0 : UInt8) ∈ l
  · have hk : l.idxOf 0 < l.length := List.idxOf_lt_length_of_mem hz
    have hi : idxB l 0 = (l.idxOf 0 : Nat) := if_pos hz
    rw [hi]
    have hna : Rd w A (nameAt l) := hr.take _ (by omega)
    have hlen : (nameAt l).length = l.idxOf 0 := by simp [nameAt]; omega
    have HN : Hidden (nameRest l = l.drop (l.idxOf 0)) := ⟨rfl⟩
    generalize l.idxOf 0 = k at *
    have hcv := conv_text w A k c (nameAt l) hlen hna
    go_wp2_with fail
    refine (name_any (nameAt l) _ (by omega)).mono ?_
    rintro e w2 ⟨rfl, hb2⟩
    cases hnm : isName (nameAt l) with
    | false =>
      have hr2 : Hidden (#[sv [], .iface 53 (.int .i64 2)] = res) := ⟨by rw [← HRES.out]; simp [gotName, hnm]⟩
      clear hnm
      go_wp2_with fail
      go_ret2
      exact ⟨congrArg (fun r => Ending.returned (.tuple r)) hr2.out, hb2⟩
    | true =>
      have hrest : Rd w2 (A.map (·.add k)) ((l.drop k).take (8 - k)) := (hr.below hb2).cut k (8 - k) (by omega)
      rw [List.take_of_length_le (by simp; omega), ← HN.out] at hrest
      have hlr : (nameRest l).length = 8 - k := by rw [HN.out]; simp; omega
      go_wp2_with fail
      refine (containsf_zero _ _ _ (nameRest l) _ hlr (by simp only [maxLen]; omega) hrest).mono ?_
      rintro e w3 ⟨rfl, rfl⟩
      cases hz2 : (nameRest l).any nonZero with
      | true =>
        have hr2 : Hidden (#[sv [], .iface 53 (.int .i64 2)] = res) := ⟨by rw [← HRES.out]; simp [gotName, hz2]⟩
        clear hnm hz2
        go_wp2_with fail
        go_ret2
        exact ⟨congrArg (fun r => Ending.returned (.tuple r)) hr2.out, hb2⟩
      | false =>
        have hr2 : Hidden (#[sv (nameAt l), .nilIface] = res) := ⟨by rw [← HRES.out]; simp [gotName, hnm, hz2]⟩
        clear hnm hz2
        go_wp2_with fail
        go_ret2
        exact ⟨congrArg (fun r => Ending.returned (.tuple r)) hr2.out, hb2⟩
  · have hi : idxB l 0 = -1 := if_neg hz
    rw [hi]
    have hk : l.idxOf 0 = 8 := by rw [List.idxOf_eq_length hz, h8]
    have hna : Rd w A (nameAt l) := hr.take _ (by omega)
    have hlen : (nameAt l).length = 8 := by simp [nameAt]; omega
    have hrest0 : nameRest l = [] := by simp [nameRest, hk]; omega
    have hcv := conv_text w A 8 c (nameAt l) hlen hna
    clear hk hz hi
    go_wp2_with fail
    refine (name_any (nameAt l) _ (by omega)).mono ?_
    rintro e w2 ⟨rfl, hb2⟩
    cases hnm : isName (nameAt l) with
    | false =>
      have hr2 : Hidden (#[sv [], .iface 53 (.int .i64 2)] = res) := ⟨by rw [← HRES.out]; simp [gotName, hnm]⟩
      clear hnm hrest0
      go_wp2_with fail
      go_ret2
      exact ⟨congrArg (fun r => Ending.returned (.tuple r)) hr2.out, hb2⟩
    | true =>
      have hr2 : Hidden (#[sv (nameAt l), .nilIface] = res) := ⟨by rw [← HRES.out]; simp [gotName, hnm, hrest0]⟩
      clear hnm hrest0
      go_wp2_with fail
      all_goals
        refine (containsf_zero _ _ _ [] _ rfl (by simp) Rd.nil_).mono ?_
        rintro e w3 ⟨rfl, rfl⟩
        go_wp2_with fail
        go_ret2
        exact ⟨congrArg (fun r => Ending.returned (.tuple r)) hr2.out, hb2⟩
end Go.Proofs.Ytgejkhokijjemaa
/- The contracts of stamp.Make and bytes.Equal. -/
namespace Go.Proofs.Ytgejkhokijjemaa
open Go.RowKit

/-- a sector of a stamp and a body -/
def makeB (st : Nat) (b : Bytes) : Bytes := numB st 4 ++ (b ++ List.replicate (24 - b.length) 0) ++ numB st 4
theorem makeB_len (st : Nat) (b : Bytes) (h : b.length ≤ 24) : (makeB st b).length = 32 := by simp [makeB, numB_length]; omega
theorem splice_app (a b c d : Bytes) (h : b.length = d.length) : splice (a ++ (b ++ c)) a.length d = a ++ (d ++ c) := by
  simp only [splice, List.take_left, ← h]
  rw [← List.append_assoc a b c, ← List.length_append, List.drop_left]
theorem makeB_steps (st : Nat) (b : Bytes) (h : b.length ≤ 24) : splice (splice (splice (List.replicate 32 0) 0 (numB st 4)) 4 b) 28 (numB st 4) = makeB st b := by
  have hl := numB_length st 4
  rw [splice_zeros, hl, show 32 - 4 = b.length + ((24 - b.length) + 4) from by omega, ← List.replicate_append_replicate]
  have e1 := splice_app (numB st 4) (List.replicate b.length 0) (List.replicate ((24 - b.length) + 4) 0) b (by simp)
  rw [hl] at e1
  rw [e1, ← List.replicate_append_replicate]
  have e2 := splice_app (numB st 4 ++ (b ++ List.replicate (24 - b.length) 0)) (List.replicate 4 0) [] (numB st 4) (by simp [hl])
  have hlen : (numB st 4 ++ (b ++ List.replicate (24 - b.length) 0)).length = 28 := by simp [hl]; omega
  rw [hlen] at e2
  simp only [List.append_nil] at e2
  rw [← List.append_assoc b, ← List.append_assoc (numB st 4), e2, makeB]

/-- bytes.Equal -/
theorem equal_any (A B : Option Addr) (n m c d : Nat) (a b : Bytes) (w : World) (hn : a.length = n) (hm : b.length = m) (ha : Rd w A a) (hb : Rd w B b) :
    Calls Try.prog 18 #[.slice A n c, .slice B m d] w fun e w' => e = .returned (.bool (a == b)) ∧ w = w' := by
  have c1 := conv_text w A n c a hn ha
  have c2 := conv_text w B m d b hm hb
  go_enter Try.func18, Try.ntmps18
  go_wp2
  go_ret
  exact ⟨rfl, rfl⟩
end Go.Proofs.Ytgejkhokijjemaa
/- The contract of diff.Apply. -/
namespace Go.Proofs.Ytgejkhokijjemaa
open Go.RowKit

/-- the cells of one change, wherever its bytes lie -/
structure ChAny (w : World) (g off i : Nat) (c : Chg) (Ao An : Option Addr) (co cn : Nat) : Prop where
  at_ : w.cell? ⟨g, off + i * 3, none⟩ = some (.int .i64 c.at_)
  old : w.cell? ⟨g, off + i * 3 + 1, none⟩ = some (.slice Ao c.old.length co)
  new : w.cell? ⟨g, off + i * 3 + 2, none⟩ = some (.slice An c.new.length cn)
  rdO : Rd w Ao c.old
  rdN : Rd w An c.new
  leO : c.old.length ≤ co
  leN : c.new.length ≤ cn
/-- the slice at A has the changes L, wherever their bytes lie -/
def RdG (w : World) (A : Option Addr) (L : List Chg) : Prop := ∀ i (h : i < L.length), ∃ g off Ao An co cn, A = some ⟨g, off, none⟩ ∧ ChAny w g off i L[i] Ao An co cn
theorem RdC.rdg {w : World} {A : Option Addr} {L : List Chg} (h : RdC w A L) : RdG w A L := fun i hi => by
  obtain ⟨g, off, go, co, gn, cn, hA, hc⟩ := h i hi
  exact ⟨g, off, _, _, co, cn, hA, hc.at_, hc.old, hc.new, hc.rowO.rd, hc.rowN.rd, hc.rowO.le.1, hc.rowN.le.1⟩
theorem ChAny.below {w w' : World} {g off i : Nat} {c : Chg} {Ao An : Option Addr} {co cn : Nat} (h : ChAny w g off i c Ao An co cn) (hb : Below w.heap.size w w') : ChAny w' g off i c Ao An co cn :=
  ⟨(hb.cell (block_lt_of_cell h.at_)).trans h.at_, (hb.cell (block_lt_of_cell h.old)).trans h.old, (hb.cell (block_lt_of_cell h.new)).trans h.new, h.rdO.below hb, h.rdN.below hb, h.leO, h.leN⟩
theorem RdG.below {w w' : World} {A : Option Addr} {L : List Chg} (h : RdG w A L) (hb : Below w.heap.size w w') : RdG w' A L := fun i hi => by
  obtain ⟨g, off, Ao, An, co, cn, hA, hc⟩ := h i hi
  exact ⟨g, off, Ao, An, co, cn, hA, hc.below hb⟩

/-- b[i:k] of bytes, wherever i stands -/
theorem run_cut_any (A : Option Addr) (n c i k : Nat) (hik : i ≤ k) (hkc : k ≤ c) (W : World) :
    (Instr.sliceAt 22 (.slice A n c) (some (.int .i64 i)) (some (.int .i64 k)) none).run Try.prog W = .ok (.slice (if c = i then A else A.map (·.add i)) (k - i) (c - i)) W := by
  obtain ⟨i0, hi0, hz0, hz1, hz2⟩ := info_parts byte_info
  simp [Instr.sliceAt, Instr.slice, Instr.sliceBounds, Instr.sliceBound, run_underlying Try.underlying22, asIntOf, sizeOf, typeInfo, hi0, hz1, hik, hkc]
/-- b[i:] of bytes -/
theorem run_tail_any (A : Option Addr) (n c i : Nat) (hin : i ≤ n) (W : World) :
    (Instr.sliceAt 22 (.slice A n c) (some (.int .i64 i)) none none).run Try.prog W = .ok (.slice (if c = i then A else A.map (·.add i)) (n - i) (c - i)) W := by
  obtain ⟨i0, hi0, hz0, hz1, hz2⟩ := info_parts byte_info
  simp [Instr.sliceAt, Instr.slice, Instr.sliceBounds, Instr.sliceBound, run_underlying Try.underlying22, asIntOf, sizeOf, typeInfo, hi0, hz1, hin]

theorem apply_e4 (A B : Option Addr) (n m c d : Nat) (w : World) (h : 200 < m) :
    Calls Try.prog 6 #[.slice A n c, .slice B m d] w fun e w' => e = .returned (.tuple #[.slice none 0 0, .iface 53 (.int .i64 4)]) ∧ w = w' := by
  go_enter Try.func6, Try.ntmps6
  go_wp2
  go_ret2
  exact ⟨rfl, rfl⟩

set_option maxRecDepth 100000 in
theorem apply_some (ad : Addr) (n c : Nat) (b : Bytes) (LA : Option Addr) (m d : Nat) (L : List Chg) (w : World) (hn : b.length = n) (hnl : n ≤ 140737488351232) (hb : Rd w (some ad) b) (hm : L.length = m) (hm2 : m ≤ 200) (hmd : m ≤ d) (hL : RdG w LA L) :
    Calls Try.prog 6 #[.slice (some ad) n c, .slice LA m d] w fun e w' => Below w.heap.size w w' ∧ ((∃ x, applyL b L = .error x ∧ e = .returned (.tuple #[.slice none 0 0, .iface 53 (.int .i64 x)])) ∨
      ∃ b' g cap, applyL b L = .ok b' ∧ e = .returned (.tuple #[.slice (some ⟨g, 0, none⟩) n cap, .nilIface]) ∧ w.heap.size ≤ g ∧ b'.length = n ∧ Row w' 5 g cap b') := by
  subst hn hm
  go_enter Try.func6, Try.ntmps6
  go_wp2_with fail
  refine (clone_some ad b.length c b _ rfl hnl hb).mono ?_
  rintro e w1 ⟨g, cap, rfl, hg, hrow1, hb1⟩
  have hcap := hrow1.le.1
  go_wp2_with fail
  go_loopw [17] (fun kv wr => ∃ (k : Nat) (cur : Bytes), kv = .int .i64 k ∧ k ≤ L.length ∧ cur.length = b.length ∧ Below w.heap.size w wr ∧ Row wr 5 g cap cur ∧ Hidden (applyL cur (L.drop k) = applyL b L)) (fun kv _ => L.length - (intOf kv).toNat)
  case atStart => exact ⟨0, b, rfl, Nat.zero_le _, rfl, hb1, hrow1, ⟨by simp⟩⟩
  case round =>
    obtain ⟨k, cur, rfl, hk, hcl, hbel, hrow, HL⟩ := hrel
    by_cases hlt : k < L.length
    · have HD : Hidden (applyL b L = match apply1 cur L[k] with | .error e => .error e | .ok b' => applyL b' (L.drop (k + 1))) := ⟨by
        rw [← HL.out, List.drop_eq_getElem_cons hlt]; rfl⟩
      clear HL
      obtain ⟨gl, off, Ao, An, co, cn, rfl, hc⟩ := (hL.below hbel) k hlt
      have k0 : (0 : Int) ≤ k := by omega
      have k1 : (k : Int) < L.length := by omega
      obtain ⟨a1, a2, a3, rO, rN, lO, lN⟩ := hc
      generalize L[k] = ch at *
      obtain ⟨at_, old, new⟩ := ch
      dsimp only at a1 a2 a3 rO rN lO lN HD
      generalize ho : old.length = no at *
      generalize hnw : new.length = nn at *
      have hgl : g < wr.heap.size := hrow.lt
      by_cases h1 : at_ < 0
      · have HE : Hidden (applyL b L = .error 1) := ⟨by rw [HD.out]; simp [apply1, h1]⟩
        clear HD
        go_wp2_with fail
        go_ret2
        exact ⟨hbel.alloc hbel.size _, .inl ⟨1, HE.out, rfl⟩⟩
      · obtain ⟨j, rfl⟩ := Int.eq_ofNat_of_zero_le (show 0 ≤ at_ by omega)
        by_cases h2 : b.length < j
        · have HE : Hidden (applyL b L = .error 1) := ⟨by rw [HD.out]; unfold apply1; rw [if_pos (by dsimp only; omega)]⟩
          clear HD
          go_wp2_with fail
          go_ret2
          exact ⟨hbel.alloc hbel.size _, .inl ⟨1, HE.out, rfl⟩⟩
        · have s1 : IntKind.i64.wrap ((b.length : Int) - j) = (b.length : Int) - j := IntWalk.i64_in _ (by omega)
          by_cases h3 : b.length - j < no
          · have HE : Hidden (applyL b L = .error 1) := ⟨by rw [HD.out]; unfold apply1; rw [if_pos (by dsimp only; omega)]⟩
            clear HD
            go_wp2_with fail
            go_ret2
            exact ⟨hbel.alloc hbel.size _, .inl ⟨1, HE.out, rfl⟩⟩
          · by_cases h4 : no = nn
            · subst h4
              have t1 : decide ((b.length : Int) < j) = false := by simp; omega
              have t2 : decide ((b.length : Int) - j < no) = false := by simp; omega
              have s2 : IntKind.i64.wrap ((j : Int) + no) = (j : Int) + no := IntWalk.i64_in _ (by omega)
              have hcl2 : ((cur.drop j).take no).length = no := by simp; omega
              obtain ⟨A', hA'⟩ : ∃ A' : Option Addr, A' = (if cap = j then some ⟨g, 0, none⟩ else (some (⟨g, 0, none⟩ : Addr)).map (·.add j)) := ⟨_, rfl⟩
              have hcut := run_cut_any (some ⟨g, 0, none⟩) b.length cap j (j + no) (by omega) (by omega)
              have htl := run_tail_any (some ⟨g, 0, none⟩) b.length cap j (by omega)
              rw [Nat.add_sub_cancel_left, Int.natCast_add, ← hA'] at hcut
              rw [← hA'] at htl
              have hBX : Below wr.heap.size wr (wr.alloc (.cells #[.int .i64 j, .slice Ao no co, .slice An no cn] 56)) := (Below.refl _ _).alloc (Nat.le_refl _) _
              have hrdc : Rd wr A' ((cur.drop j).take no) := by
                have := hrow.rd.cutIf j no cap (by omega) (by omega)
                rw [hA']; exact this
              have hrx := hrdc.below hBX
              have rOx := rO.below hBX
              have rNx := rN.below hBX
              have hrowx := hrow.below hBX hgl
              have hbx : Below w.heap.size w (wr.alloc (.cells #[.int .i64 j, .slice Ao no co, .slice An no cn] 56)) := hbel.alloc hbel.size _
              have hc0 : (wr.alloc (.cells #[.int .i64 j, .slice Ao no co, .slice An no cn] 56)).cell? ⟨wr.heap.size, 0, none⟩ = some (.int .i64 j) := by simp
              have hc1 : (wr.alloc (.cells #[.int .i64 j, .slice Ao no co, .slice An no cn] 56)).cell? ⟨wr.heap.size, 1, none⟩ = some (.slice Ao no co) := by simp
              have hc2 : (wr.alloc (.cells #[.int .i64 j, .slice Ao no co, .slice An no cn] 56)).cell? ⟨wr.heap.size, 2, none⟩ = some (.slice An no cn) := by simp
              have HA' := Hidden.mk hA'
              clear hA' hrdc hBX
              go_wp2_with fail
              generalize wr.alloc (.cells #[.int .i64 j, .slice Ao no co, .slice An no cn] 56) = w2 at *
              obtain ⟨q, hq⟩ : ∃ q : Bool, ((cur.drop j).take no == old) = q := ⟨_, rfl⟩
              have HQ := Hidden.mk hq
              clear hq
              go_quiet ((go_at_call 18; refine Calls.quiet_of_same (v := .bool q) ((equal_any A' Ao no no _ _ ((cur.drop j).take no) old _ hcl2 ho (hrx.drewN _) (rOx.drewN _)).mono ?_); rintro e w' ⟨rfl, rfl⟩; exact ⟨by rw [HQ.out], rfl⟩))
              cases q with
              | true =>
                have h5 : (cur.drop j).take no = old := by simpa using HQ.out
                have HE : Hidden (applyL b L = applyL (splice cur j new) (L.drop (k + 1))) := ⟨by
                  rw [HD.out]; unfold apply1
                  rw [if_neg (by dsimp only; omega), if_neg (by dsimp only; omega), if_neg (by dsimp only; rw [ho, Int.toNat_natCast]; simpa using h5)]
                  simp⟩
                clear HD h5 HQ
                go_wp2_with fail
                have hrow3 : Row (w2.drewN nq) 5 g cap cur := hrowx
                have rN3 : Rd (w2.drewN nq) An new := rNx
                have hd0 : (w2.drewN nq).cell? ⟨wr.heap.size, 0, none⟩ = some (.int .i64 j) := hc0
                have hd2 : (w2.drewN nq).cell? ⟨wr.heap.size, 2, none⟩ = some (.slice An no cn) := hc2
                have hb3 : Below w.heap.size w (w2.drewN nq) := below_drewN hbx nq
                clear hc0 hc1 hc2 hbx hrowx rNx rOx hrx
                generalize w2.drewN nq = w3 at *
                obtain ⟨cur0, hcur, _, _, hcs, _⟩ := id hrow3
                have hrow4 := hrow3.set_ j new (by omega) cur0 hcur
                have hB4 : Below w.heap.size w (w3.setRow g (setB cur0 j (new.map bv))) := below_setRow hb3 hg _
                have hcopy : ∀ ty, (Builtin.copy_ #[22, 22] ty #[.slice A' (b.length - j) (cap - j), .slice An no cn]).run Try.prog w3.drew = .ok (.int .i64 (no : Int)) ((w3.setRow g (setB cur0 j (new.map bv))).drew) := fun ty => by
                  have hmin : no = Nat.min no (b.length - j) := (Nat.min_eq_left (by omega)).symm
                  by_cases hcj : cap = j
                  · have h0 : no = 0 := by omega
                    rw [HA'.out, if_pos hcj]
                    have := run_copy_rd w3.drew g 0 (b.length - j) (cap - j) no cn no An new cur0 5 hcur hnw rN3 hmin (by omega) ty
                    rw [List.take_of_length_le (by omega)] at this
                    have hnil : new = [] := List.eq_nil_of_length_eq_zero (by omega)
                    rw [hnil] at this ⊢
                    simp only [List.map_nil, setB_nil] at this ⊢
                    exact this
                  · rw [HA'.out, if_neg hcj]
                    have := run_copy_rd w3.drew g j (b.length - j) (cap - j) no cn no An new cur0 5 hcur hnw rN3 hmin (by omega) ty
                    rw [List.take_of_length_le (by omega)] at this
                    simp only [Option.map_some, Addr.add_lit, Nat.zero_add]
                    exact this
                have hsl : (splice cur j new).length = b.length := by rw [splice_len _ _ _ (by omega), hcl]
                generalize w3.setRow g (setB cur0 j (new.map bv)) = w4 at *
                clear hcur hcs hrow3
                go_region
                go_wp2_with fail
                go_roundw
                case rel => exact ⟨k + 1, _, by go_num, by omega, hsl, hB4.drew, hrow4, ⟨HE.out.symm⟩⟩
                case measure => simp [intOf]; omega
              | false =>
                have h5 : ¬ (cur.drop j).take no = old := by simpa using HQ.out
                have HE : Hidden (applyL b L = .error 6) := ⟨by
                  rw [HD.out]; unfold apply1
                  rw [if_neg (by dsimp only; omega), if_neg (by dsimp only; omega), if_pos (by dsimp only; rw [ho, Int.toNat_natCast]; exact h5)]⟩
                clear HD h5 HQ
                go_wp2_with fail
                go_ret2
                exact ⟨below_drewN hbx _, .inl ⟨6, HE.out, rfl⟩⟩
            · have HE : Hidden (applyL b L = .error 3) := ⟨by rw [HD.out]; unfold apply1; rw [if_neg (by dsimp only; omega), if_pos (by dsimp only; omega)]⟩
              have t3 : ((no : Int) != (nn : Int)) = true := by simp; omega
              clear HD
              go_wp2_with fail
              go_ret2
              exact ⟨hbel.alloc hbel.size _, .inl ⟨3, HE.out, rfl⟩⟩
    · go_wp2_with fail
      go_ret2
      have hfin := HL.out
      rw [show L.drop k = [] from by simp; omega] at hfin
      exact ⟨hbel, .inr ⟨cur, g, cap, hfin.symm, rfl, hg, hcl, hrow⟩⟩
end Go.Proofs.Ytgejkhokijjemaa
/- The contract of Write. -/
namespace Go.Proofs.Ytgejkhokijjemaa
open Go.RowKit Go.Maps Go.ChangeMaps

section
variable {P : Program} {T K E : TypeId} {κ : Type} [DecidableEq κ] {kl : κ → Lit} {b cnt : Nat} {f : κ → Option Value}
theorem step_store_im (w : World) {ops : Array Oper} {o : Oper} {a : Act} {KK : Act → World → Prop} {Q : Exit → Act → World → Prop} {Z : Prop} (hgd : o.guard = none) (m x v : Operand) (hop : o.op = Op.mapUpdate T m x v)
    (KL : Keyed P K) (hinj : ∀ x y, kl x = kl y → x = y) (ht : P.underlying T = some (.map K E)) (hm : a.eval m = .map (some b)) (h : IM P K kl w b f cnt) (hn : cnt < maxLen) (key val : Value) (k : κ) (hx : a.eval x = key) (hv : a.eval v = val) (hkey : keyOf P K key = some (kl k))
    (hK : ∀ w', IM P K kl w' b (upd f k val) (if (f k).isSome then cnt else cnt + 1) → w.grownBy w' (some b) → w'.heap.size = w.heap.size → KK (a.put o.dst undef) w') :
    if Region.wanted o (yielded ops a.tmps) = true then Oper.wp P o a w KK Q else Z := by
  have hw : Region.wanted o (yielded ops a.tmps) = true := by simp [Region.wanted, hgd]
  rw [if_pos hw]
  obtain ⟨w', hrun, r1, r2, r3⟩ := h.store KL hinj ht hn hkey val
  unfold Oper.wp
  simp [execOp, hop, hm, hx, hv, hrun, Result.andThen]
  exact hK w' r1 r2 r3
end
/-- how Write's error reads -/
def powV (left : Int) : Value := if left = 0 then .iface 53 (.int .i64 9) else .nilIface
theorem memF_some (O : List Nat) (Y : Lay) (i : Nat) : (if (memF O Y i).isSome = true then O.length else O.length + 1) = (if i ∈ O then O else O ++ [i]).length := by
  unfold memF
  by_cases h : i ∈ O
  · simp [h]
  · simp [h]
theorem nodup_le : ∀ (n : Nat) (l : List Nat), l.Nodup → (∀ x ∈ l, x < n) → l.length ≤ n
  | 0, l, _, h => by
    cases l with
    | nil => simp
    | cons x r => have := h x (by simp); omega
  | n + 1, l, hd, h => by
    by_cases hm : n ∈ l
    · have h1 := nodup_le n (l.erase n) (hd.erase n) (fun x hx => by
        have h2 := (hd.mem_erase_iff).1 hx
        have := h x h2.2
        omega)
      rw [List.length_erase_of_mem hm] at h1
      omega
    · have h1 := nodup_le n l hd (fun x hx => by
        have := h x hx
        have : x ≠ n := fun e => hm (e ▸ hx)
        omega)
      omega
end Go.Proofs.Ytgejkhokijjemaa
/- The contract of diff.Pages. -/
namespace Go.Proofs.Ytgejkhokijjemaa
open Go.RowKit Go.Maps Go.ChangeMaps

/-- a set of numbers, as a map has it -/
def setF (S : Nat → Bool) (q : Nat) : Option Value := if S q = true then some (.bool true) else none
theorem setF_upd (S : Nat → Bool) (k : Nat) : upd (setF S) k (.bool true) = setF (fun q => S q || (k == q)) := by
  funext x
  unfold upd setF
  by_cases hx : x = k
  · subst hx; simp
  · rw [if_neg hx]
    have : (k == x) = false := by simpa using fun e => hx e.symm
    simp [this]
theorem IM.size_le {P : Program} {K : TypeId} {w : World} {b cnt : Nat} {f : Nat → Option Value} (h : IM P K natL w b f cnt) (hK : P.underlying K = some (.int .i64)) (n : Nat) (hn : ∀ k, (f k).isSome = true → k < n) : cnt ≤ n := by
  obtain ⟨D, hown, hs, hnd, h1, _⟩ := h.keys hK
  have hl : (intKeys D).length = cnt := by
    obtain ⟨L, hD, _⟩ := hown.entries (Go.Maps.int_keyed hK)
    subst hD
    rw [← hs]; simp [intKeys, Maps.size]
  have hm : ((intKeys D).map Int.toNat).Nodup := by
    refine List.pairwise_map.2 (hnd.imp_of_mem fun {a b} ha hb hne e => hne ?_)
    obtain ⟨x, rfl, _⟩ := h1 a ha
    obtain ⟨y, rfl, _⟩ := h1 b hb
    simp only [Int.toNat_natCast] at e
    rw [e]
  have := nodup_le n ((intKeys D).map Int.toNat) hm (fun x hx => by
    obtain ⟨y, hy, rfl⟩ := List.mem_map.1 hx
    obtain ⟨z, rfl, hz⟩ := h1 y hy
    exact hn z hz)
  rw [List.length_map, hl] at this
  exact this
/-- the pages that a change touches, of its first j bytes; that changes touch -/
def tchC (a : Nat) (j q : Nat) : Bool := (List.range j).any fun i => (a + i) / 32 == q
theorem tchC_succ (a j q : Nat) : tchC a (j + 1) q = (tchC a j q || ((a + j) / 32 == q)) := by
  unfold tchC
  rw [List.range_succ, List.any_append]; simp
def tchL (L : List Chg) (q : Nat) : Bool := L.any fun c => tchC c.at_.toNat c.new.length q
theorem tchL_succ (L : List Chg) (k q : Nat) (hk : k < L.length) : tchL (L.take (k + 1)) q = (tchL (L.take k) q || tchC L[k].at_.toNat L[k].new.length q) := by
  unfold tchL
  rw [List.take_succ_eq_append_getElem hk, List.any_append]; simp
/-- a change that lies within an image -/
def InC (c : Chg) : Prop := 0 ≤ c.at_ ∧ c.at_ < 6400 ∧ c.at_ + c.new.length ≤ 6400
theorem tchC_lt {a j q : Nat} (h : tchC a j q = true) (hj : a + j ≤ 6400) : q < 200 := by
  obtain ⟨i, hi, e⟩ := List.any_eq_true.1 h
  have := List.mem_range.1 hi
  have := beq_iff_eq.1 e
  omega
theorem tchL_lt {L : List Chg} (hL : ∀ c ∈ L, InC c) {q : Nat} (h : tchL L q = true) : q < 200 := by
  obtain ⟨c, hc, e⟩ := List.any_eq_true.1 h
  obtain ⟨a, b, d⟩ := hL c hc
  exact tchC_lt e (by omega)
structure DpSt (w wr : World) (mb : Nat) (S : Nat → Bool) : Prop where
  im : ∃ cnt, IM Try.prog 3 natL wr mb (setF S) cnt ∧ cnt ≤ 200
  bel : Below w.heap.size w wr
  new : w.heap.size ≤ mb
/-- what diff.Pages says -/
def DpAns (w : World) (L : List Chg) (e : Ending) (w' : World) : Prop := ∃ (v : Value) (S : List Nat), e = .returned (.tuple #[v, .nilIface]) ∧ S.Pairwise (· < ·) ∧ (∀ k, k ∈ S ↔ tchL L k = true) ∧ w'.ownsRow w.heap.size 3 1 v S.length (S.map fun i : Nat => .int .i64 (i : Int)) ∧ Below w.heap.size w w'
theorem dpAns_mk {w w' : World} {L : List Chg} {e : Ending} {v : Value} {S : List Nat} (h : e = .returned (.tuple #[v, .nilIface])) (hh : S.Pairwise (· < ·) ∧ (∀ k, k ∈ S ↔ tchL L k = true) ∧ w'.ownsRow w.heap.size 3 1 v S.length (S.map fun i : Nat => .int .i64 (i : Int)) ∧ Below w.heap.size w w') : DpAns w L e w' := ⟨v, S, h, hh⟩
theorem own_base' {w : World} {b b' : Nat} {e : TypeId} {size n : Nat} {v : Value} {xs : List Value} (h : w.ownsRow b e size v n xs) (hb : b' ≤ b) : w.ownsRow b' e size v n xs := by
  refine ⟨h.1, ?_⟩
  rcases h.2 with h1 | ⟨g, cap, cur, a1, a2, a3⟩
  · exact .inl h1
  · exact .inr ⟨g, cap, cur, a1, Nat.le_trans hb a2, a3⟩
set_option maxRecDepth 100000 in
theorem dpages_ok (A : Option Addr) (m c : Nat) (L : List Chg) (w : World) (hm : L.length = m) (hr : RdG w A L) (hin : ∀ c ∈ L, InC c) (hml : m ≤ 281474976710656) :
    Calls Try.prog 7 #[.slice A m c] w (DpAns w L) := by
  have HM := Hidden.mk hm
  have HR := Hidden.mk hr
  have HI := Hidden.mk hin
  have hmm := @run_makeMap Try.prog
  have HST : Hidden (DpSt w (w.alloc (.map #[] 0)) w.heap.size (tchL (L.take 0))) := ⟨⟨⟨0, IM.made w, by omega⟩, (Below.refl _ _).alloc (Nat.le_refl _) _, Nat.le_refl _⟩⟩
  clear hm hr hin
  go_enter Try.func7, Try.ntmps7
  go_wp2_with fail
  clear hmm
  go_loopg [11] m (fun r i wr => ∃ k : Nat, k ≤ m ∧ r = m - k ∧ i = .int .i64 (k : Int) ∧ Hidden (DpSt w wr w.heap.size (tchL (L.take k))))
  case atStart => exact ⟨0, by omega, rfl, rfl, HST⟩
  case round =>
    obtain ⟨k, hk, rfl, rfl, hst⟩ := hrel
    by_cases hlt : k < m
    · have i0 : (0 : Int) ≤ k := by omega
      have i1 : (k : Int) < m := by omega
      have hkl : k < L.length := by rw [HM.out]; exact hlt
      have s0 : IntKind.i64.wrap ((k : Int) + 1) = (k : Int) + 1 := IntWalk.i64_in _ (by omega)
      obtain ⟨g, off, Ao, An, co, cn, rfl, hch⟩ := (HR.out.below hst.out.bel) k hkl
      obtain ⟨x0, x1, x2⟩ := hch
      have HS := Hidden.mk (fun q => tchL_succ L k q hkl)
      have hic := HI.out L[k] (List.getElem_mem hkl)
      have HTL : Hidden (∀ q, tchL (L.take k) q = true → q < 200) := ⟨fun q h => tchL_lt (fun c hc => HI.out c (List.mem_of_mem_take hc)) h⟩
      generalize L[k] = ch at *
      obtain ⟨at_, old, new⟩ := ch
      dsimp only at *
      obtain ⟨a, rfl⟩ := Int.eq_ofNat_of_zero_le hic.1
      have ha : a < 6400 := by have := hic.2.1; dsimp only at this; omega
      have han : a + new.length ≤ 6400 := by have := hic.2.2; dsimp only at this; omega
      rw [Int.toNat_natCast] at HS
      generalize new.length = nl at *
      generalize old.length = ol at *
      have d1 : decide ((a : Int) < 0) = false := by simp
      have d2 : decide (6400 ≤ (a : Int)) = false := by simp; omega
      have s1 : IntKind.i64.wrap (6400 - (a : Int)) = 6400 - (a : Int) := IntWalk.i64_in _ (by omega)
      have d3 : decide (6400 - (a : Int) < (nl : Int)) = false := by simp; omega
      have hbx := heap_alloc_new wr (.cells #[.int .i64 (a : Int), .slice Ao ol co, .slice An nl cn] 56)
      have b0 : (wr.alloc (.cells #[.int .i64 (a : Int), .slice Ao ol co, .slice An nl cn] 56)).cell? ⟨wr.heap.size, 0, none⟩ = some (.int .i64 (a : Int)) := by simp only [World.cell?]; rw [hbx]; rfl
      have b2 : (wr.alloc (.cells #[.int .i64 (a : Int), .slice Ao ol co, .slice An nl cn] 56)).cell? ⟨wr.heap.size, 2, none⟩ = some (.slice An nl cn) := by simp only [World.cell?]; rw [hbx]; rfl
      have HB2 := Hidden.mk (hst.out.bel.alloc hst.out.bel.size (.cells #[.int .i64 (a : Int), .slice Ao ol co, .slice An nl cn] 56))
      obtain ⟨cnt, him, hc200⟩ := hst.out.im
      have hne : wr.heap.size ≠ w.heap.size := by have := him.lt; omega
      have HNE := Hidden.mk hne
      have HIM2 := Hidden.mk (him.block (Below.heap_alloc wr (.cells #[.int .i64 (a : Int), .slice Ao ol co, .slice An nl cn] 56) w.heap.size him.lt))
      have HB0 := Hidden.mk b0
      clear hst him hic hbx hne HST
      go_wp2_with fail
      generalize hW2 : wr.alloc (.cells #[.int .i64 (a : Int), .slice Ao ol co, .slice An nl cn] 56) = W2 at *
      clear hW2 b0 b2 x0 x1 x2
      generalize wr.heap.size = bx at *
      have HS2 : Hidden (DpSt w W2 w.heap.size (fun q => tchL (L.take k) q || tchC a 0 q) ∧ W2.cell? ⟨bx, 0, none⟩ = some (.int .i64 (a : Int))) := ⟨⟨⟨⟨cnt, by simpa [tchC] using HIM2.out, hc200⟩, HB2.out, Nat.le_refl _⟩, HB0.out⟩⟩
      clear HIM2 HB2 HB0 hc200
      go_loopg [36] nl (fun r i wx => ∃ j : Nat, j ≤ nl ∧ r = nl - j ∧ i = .int .i64 (j : Int) ∧ Hidden (DpSt w wx w.heap.size (fun q => tchL (L.take k) q || tchC a j q) ∧ wx.cell? ⟨bx, 0, none⟩ = some (.int .i64 (a : Int))))
      case atStart => exact ⟨0, by omega, rfl, rfl, HS2⟩
      case round =>
        obtain ⟨j, hj, rfl, rfl, hs⟩ := hrel
        by_cases hlt2 : j < nl
        · have j0 : (0 : Int) ≤ j := by omega
          have j1 : (j : Int) < nl := by omega
          have s2 : IntKind.i64.wrap ((j : Int) + 1) = (j : Int) + 1 := IntWalk.i64_in _ (by omega)
          have s3 : IntKind.i64.wrap ((a : Int) + j) = (a : Int) + j := IntWalk.i64_in _ (by omega)
          have s4 : ((a : Int) + j) / 32 = (((a + j) / 32 : Nat) : Int) := by omega
          have hq : (a + j) / 32 < 200 := by omega
          obtain ⟨cnt2, him2, hc2⟩ := hs.out.1.im
          obtain ⟨W4, hrun, him4, hg4, hs4⟩ := him2.store int_keyed natL_inj (T := 57) Try.underlying57 (by simp only [maxLen]; omega) (int_key (n := (a + j) / 32) (by omega)) (.bool true)
          rw [setF_upd] at him4
          have hset : (fun q => (tchL (L.take k) q || tchC a j q) || ((a + j) / 32 == q)) = fun q => tchL (L.take k) q || tchC a (j + 1) q := by
            funext q; rw [tchC_succ, Bool.or_assoc]
          rw [hset] at him4
          have hle := him4.size_le Try.underlying3 200 (fun q hq' => by
            unfold setF at hq'
            by_cases hb : (tchL (L.take k) q || tchC a (j + 1) q) = true
            · rcases Bool.or_eq_true_iff.1 hb with h | h
              · exact HTL.out q h
              · exact tchC_lt h (by omega)
            · rw [if_neg hb] at hq'; cases hq')
          have hB4 : Below w.heap.size w W4 := hs.out.1.bel.grown hg4 hs.out.1.bel.size (fun q hq => Nat.le_of_eq (Option.some.inj hq))
          have y0 := hs.out.2
          have hc4 : W4.cell? ⟨bx, 0, none⟩ = some (.int .i64 (a : Int)) := (World.cell?_of_block (a := ⟨bx, 0, none⟩) (hg4.block _ (block_lt_of_cell y0) (fun e => HNE.out (Option.some.inj e)))).trans y0
          have HN : Hidden (DpSt w W4 w.heap.size (fun q => tchL (L.take k) q || tchC a (j + 1) q) ∧ W4.cell? ⟨bx, 0, none⟩ = some (.int .i64 (a : Int))) := ⟨⟨⟨_, him4, hle⟩, hB4, Nat.le_refl _⟩, hc4⟩
          rw [← s4] at hrun
          clear hs him2 him4 hset hle hB4 hc4 hg4 hs4 s4 hc2 hq
          go_wp2_with fail
          go_roundg (nl - (j + 1))
          case measure => omega
          case rel => exact ⟨j + 1, by omega, rfl, by go_num, HN⟩
        · obtain rfl : nl = j := by omega
          have t5 : decide ((nl : Int) < nl) = false := by simp
          have HN : Hidden (DpSt w _ w.heap.size (tchL (L.take (k + 1)))) := ⟨by
            have h := hs.out.1
            have e : (fun q => tchL (L.take k) q || tchC a nl q) = tchL (L.take (k + 1)) := by funext q; exact (HS.out q).symm
            rw [e] at h
            exact h⟩
          clear hs
          go_wp2_with fail
          go_roundg (m - (k + 1))
          case measure => omega
          case rel => exact ⟨k + 1, by omega, rfl, by go_num, HN⟩
    · obtain rfl : m = k := by omega
      have t5 : decide ((m : Int) < m) = false := by simp
      obtain ⟨cnt, him, hc200⟩ := hst.out.im
      have htk : L.take m = L := List.take_of_length_le (by rw [HM.out]; exact Nat.le_refl _)
      rw [htk] at him
      have HSC := Hidden.mk (sorted_call w.heap.size cnt (setF (tchL L)) wr him (by omega))
      have HB := Hidden.mk hst.out.bel
      clear hst him htk HST hc200
      go_wp2_with fail
      refine (keys_call w.heap.size wr).mono ?_
      rintro e w5 ⟨rfl, rfl⟩
      go_wp2_with fail
      refine HSC.out.mono ?_
      rintro e w6 ⟨v, S, rfl, hK, hown, hb6⟩
      have HF : Hidden (S.Pairwise (· < ·) ∧ (∀ k, k ∈ S ↔ tchL L k = true) ∧ w6.ownsRow w.heap.size 3 1 v S.length (S.map fun i : Nat => .int .i64 (i : Int)) ∧ Below w.heap.size w w6) := ⟨⟨hK.up, fun k => by
        rw [hK.mem k]
        unfold setF
        by_cases hb : tchL L k = true
        · rw [if_pos hb]; simp [hb]
        · rw [if_neg hb]; simp [hb], own_base' hown HB.out.size, HB.out.trans (hb6.mono HB.out.size)⟩⟩
      clear hK hown hb6 HSC
      go_wp2_with fail
      go_ret2
      exact dpAns_mk rfl HF.out
end Go.Proofs.Ytgejkhokijjemaa
/- DiffJoin: the plain law. -/
namespace Go.Proofs.Ytgejkhokijjemaa
open Go.RowKit

theorem diffF_cover (a b : Bytes) (hl : a.length = b.length) (f : Nat) : ∀ i p, a.length - i ≤ f → i ≤ p → p < a.length → a[p]? ≠ b[p]? → ∃ c ∈ diffF a b f i, c.at_ ≤ p ∧ (p : Int) < c.at_ + c.new.length := by
  induction f with
  | zero => intro i p hf h1 h2 _; omega
  | succ f ih =>
    intro i p hf h1 h2 hne
    simp only [diffF]
    rw [if_pos (by omega)]
    have hle := runAt_le a b i hl (by omega)
    by_cases hp : p < i + runAt a b i
    · refine ⟨⟨i, (a.drop i).take (runAt a b i), (b.drop i).take (runAt a b i)⟩, ?_, by show (i : Int) ≤ p; omega, ?_⟩
      · rw [if_pos (by omega)]; simp
      · have : ((b.drop i).take (runAt a b i)).length = runAt a b i := by simp; omega
        show (p : Int) < (i : Int) + (((b.drop i).take (runAt a b i)).length : Nat)
        rw [this]; omega
    · have hst := runAt_stop a b i hl (by omega)
      have hne2 : p ≠ i + runAt a b i := fun e => hne (by rw [e]; exact hst)
      obtain ⟨c, hc, h⟩ := ih (i + runAt a b i + 1) p (by omega) (by omega) h2 hne
      exact ⟨c, List.mem_append.2 (.inr hc), h⟩
theorem apply_join (a b c : Bytes) (h1 : a.length = b.length) (h2 : b.length = c.length) : applyL a (diffL a b ++ diffL b c) = .ok c := by
  rw [applyL_append, apply_diffL a b h1]
  exact apply_diffL b c h2
theorem diffL_in (a b : Bytes) (hl : a.length = b.length) (h : a.length ≤ 6400) : ∀ c ∈ diffL a b, InC c := fun c hc => by
  obtain ⟨j, r, hj⟩ := diffL_mem a b hl c hc
  have := hj.new_len hl
  have h1 := hj.at_
  have h2 := hj.hi
  have h3 := hj.pos
  exact ⟨by omega, by omega, by omega⟩
/-- the bytes of a page, as the law cuts them -/
def cutP (x : Bytes) (i : Nat) : Bytes := (x.drop (32 * i)).take (min (32 * i + 32) x.length - 32 * i)
theorem tch_diff (a c : Bytes) (hl : a.length = c.length) (i : Nat) (_hi : 32 * i < a.length) : tchL (diffL a c) i = !(cutP a i == cutP c i) := by
  have key : tchL (diffL a c) i = true ↔ cutP a i ≠ cutP c i := by
    constructor
    · intro h e
      obtain ⟨ch, hc, h⟩ := List.any_eq_true.1 h
      obtain ⟨p, hp, h⟩ := List.any_eq_true.1 h
      have hp := List.mem_range.1 hp
      have h := beq_iff_eq.1 h
      obtain ⟨j, r, hj⟩ := diffL_mem a c hl ch hc
      have h0 := hj.new_len hl
      have h1 := hj.at_
      have h2 := hj.hi
      have hat : ch.at_.toNat = j := by omega
      rw [hat] at h
      have hne := hj.ne (j + p) (by omega) (by omega)
      apply hne
      have e2 := congrArg (fun l : Bytes => l[j + p - 32 * i]?) e
      simp only [cutP] at e2
      rw [List.getElem?_take_of_lt (by omega), List.getElem?_take_of_lt (by omega), List.getElem?_drop, List.getElem?_drop, show 32 * i + (j + p - 32 * i) = j + p by omega] at e2
      exact e2
    · intro h
      have : ∃ p, 32 * i ≤ p ∧ p < min (32 * i + 32) a.length ∧ a[p]? ≠ c[p]? := by
        apply Classical.byContradiction
        intro hno
        apply h
        unfold cutP
        rw [← hl]
        apply List.ext_getElem?
        intro q
        by_cases hq : q < min (32 * i + 32) a.length - 32 * i
        · rw [List.getElem?_take_of_lt hq, List.getElem?_take_of_lt hq, List.getElem?_drop, List.getElem?_drop]
          apply Classical.byContradiction
          intro hne
          exact hno ⟨32 * i + q, by omega, by omega, hne⟩
        · rw [List.getElem?_take_eq_none (by omega), List.getElem?_take_eq_none (by omega)]
      obtain ⟨p, h1, h2, hne⟩ := this
      obtain ⟨ch, hc, h3, h4⟩ := diffF_cover a c hl a.length 0 p (by omega) (by omega) (by omega) hne
      obtain ⟨j, r, hj⟩ := diffL_mem a c hl ch hc
      have h5 := hj.at_
      refine List.any_eq_true.2 ⟨ch, hc, List.any_eq_true.2 ⟨p - j, List.mem_range.2 (by omega), beq_iff_eq.2 ?_⟩⟩
      have hat : ch.at_.toNat = j := by omega
      rw [hat]; omega
  cases hb : tchL (diffL a c) i with
  | true => have := key.1 hb; simp [this]
  | false =>
    have : ¬ cutP a i ≠ cutP c i := fun h => by rw [key.2 h] at hb; cases hb
    simp [Decidable.not_not.1 this]
end Go.Proofs.Ytgejkhokijjemaa
/- A region that draws its order, in a round of a loop over an iterator: by the laws of a region elsewhere. -/
namespace Go.Proofs.Ytgejkhokijjemaa
open Go.RowKit Go.Shelf

section
variable {P : Program} {ops : Array Oper} {Q : Exit → Act → World → Prop} {md : Region.Mode}
theorem rowsIn_wide' {n l : Nat} {row : String} {args : Array Value} {w : World} {R : Value → World → Prop} (h : Rows P row args w R) : RowsIn (Fence.wide.inRound l) n P row args w R :=
  fun c cs _ => let ⟨v, w', r, s⟩ := h c cs; ⟨v, w', r, stepsIn_wide.2 s⟩
theorem operIn_of_wp {l n : Nat} {o : Oper} {a : Act} {w : World} {K : Act → World → Prop} (hd : ∀ c, o.op ≠ .defer c) (hQ : ¬ LetsOut Q) (h : o.wp P a w K Q ∨ (o.asks P a w ∧ LetsOut Q)) : o.wpIn (Fence.wide.inRound l) n P a w K Q := by
  have h := h.resolve_right (fun h => hQ h.2)
  refine ⟨fun _ _ => trivial, ?_⟩
  rw [show (Fence.wide.inRound l).round = some l from rfl, Oper.semAt_some l _ _ hd]
  unfold Oper.wp at h
  generalize (execOp a.eval o).run P w = r at h ⊢
  cases r with
  | ok n' w' =>
    cases n' with
    | value v => exact h
    | skip => exact h
    | defer d => exact h
    | enter f args => exact ⟨fun h => (by cases h), CallsIn.inRound l (callsIn_wide.2 (Calls.mono h fun e w'' he => by cases e <;> exact he))⟩
    | row row args => exact ⟨fun h => (by cases h), rowsIn_wide' h⟩
    | _ => exact h.elim
  | halt x w' =>
    cases x with
    | panic v => exact h
    | _ => exact h.elim
theorem wpOpIn_of {l n i : Nat} {K K' : Act → World → Prop} {a : Act} {w : World} (hd : ∀ o ∈ ops.toList, ∀ c, o.op ≠ .defer c) (hQ : ¬ LetsOut Q) (hK : ∀ a w, K a w → K' a w) (h : wpOp P ops Q i K a w) : wpOpIn (Fence.wide.inRound l) n P ops Q i K' a w := by
  unfold wpOp at h
  unfold wpOpIn
  split at h
  · rename_i ho
    simp only [ho]
    exact hK _ _ h
  · rename_i o ho
    simp only [ho]
    split at h
    · rename_i hw
      rw [if_pos hw]
      exact Oper.wpIn_mono hK (operIn_of_wp (hd o (Array.mem_toList_iff.2 (Array.mem_of_getElem? ho))) hQ h)
    · rename_i hw
      rw [if_neg hw]
      exact ⟨fun _ _ => trivial, hK _ _ h⟩
theorem wpAnyIn_of {l n : Nat} (hd : ∀ o ∈ ops.toList, ∀ c, o.op ≠ .defer c) (hQ : ¬ LetsOut Q) : ∀ (fuel : Nat) (listed : Array Bool) (a : Act) (w : World), wpAny P md ops Q fuel listed a w → wpAnyIn (Fence.wide.inRound l) n P md ops Q fuel listed a w
  | 0, _, _, _, h => h
  | fuel + 1, _, _, _, h => ⟨h.1, fun i hi => wpOpIn_of hd hQ (fun a w h' => wpAnyIn_of hd hQ fuel _ a w h') (h.2 i hi)⟩
/-- no operation defers -/
def noDefer (ops : Array Oper) : Bool := ops.toList.all fun o => match o.op with | .defer _ => false | _ => true
theorem noDefer_spec (h : noDefer ops = true) : ∀ o ∈ ops.toList, ∀ c, o.op ≠ .defer c := fun o ho c he => by
  have := List.all_eq_true.1 h o ho
  rw [he] at this
  cases this
/-- the beginning: in a round as elsewhere -/
theorem wpIn_region_heldR {S : World → Prop} {l n id : Nat} {a : Act} {w : World} (hm : P.follows .mixedOrders = true) (hd : noDefer ops = true) (hQ : ¬ LetsOut Q) (hS : S w.drew)
    (h : S w.drew → wpAnyH P .any ops Q S ops.size (Array.replicate ops.size false) a w.drew) : (Code.region id ops true).wpIn (Fence.wide.inRound l) n P Q a w :=
  wpIn_region_any hm (wpAnyIn_of (noDefer_spec hd) hQ _ _ _ _ (wpAny_of_held _ _ _ _ (h hS)))
end
end Go.Proofs.Ytgejkhokijjemaa
/- slices.Backward over changes: a value that yields them, the last one first. -/
namespace Go.Proofs.Ytgejkhokijjemaa
open Go.RowKit Go.Shelf
attribute [local go_sem] Oper.semAt_some

/-- a change as it lies: where, and its two slices -/
structure El where
  at_ : Int
  ao : Option Addr
  no : Nat
  co : Nat
  an : Option Addr
  nn : Nat
  cn : Nat
def El.enc (e : El) : Value := .agg #[.int .i64 e.at_, .slice e.ao e.no e.co, .slice e.an e.nn e.cn]
/-- what a round that goes on keeps: what lay below n₀, and the block Bs -/
def KeepB (n₀ Bs : Nat) (W W' : World) : Prop := Below n₀ W W' ∧ W'.heap[Bs]? = W.heap[Bs]?
theorem KeepB.refl (n₀ Bs : Nat) (W : World) : KeepB n₀ Bs W W := ⟨Below.refl _ _, rfl⟩
theorem KeepB.trans {n₀ Bs : Nat} {A B C : World} (h : KeepB n₀ Bs A B) (k : KeepB n₀ Bs B C) : KeepB n₀ Bs A C := ⟨h.1.trans k.1, k.2.trans h.2⟩
/-- where the elements of a slice of changes lie -/
def ElsAt {α : Type} (el : α → El) (ix : α → Nat) (n₀ : Nat) (W : World) (A : Option Addr) (xs : List α) : Prop :=
  ∀ j (h : j < xs.length), ix xs[j] = j ∧ ∃ b off, A = some ⟨b, off, none⟩ ∧ b < n₀ ∧ W.cell? ⟨b, off + j * 3, none⟩ = some (.int .i64 (el xs[j]).at_) ∧
    W.cell? ⟨b, off + j * 3 + 1, none⟩ = some (.slice (el xs[j]).ao (el xs[j]).no (el xs[j]).co) ∧ W.cell? ⟨b, off + j * 3 + 2, none⟩ = some (.slice (el xs[j]).an (el xs[j]).nn (el xs[j]).cn)
theorem ElsAt.below {α : Type} {el : α → El} {ix : α → Nat} {n₀ : Nat} {W W' : World} {A : Option Addr} {xs : List α} (h : ElsAt el ix n₀ W A xs) (hb : Below n₀ W W') : ElsAt el ix n₀ W' A xs := fun j hj => by
  obtain ⟨h1, b, off, hA, hlt, c0, c1, c2⟩ := h j hj
  exact ⟨h1, b, off, hA, hlt, (hb.cell (p := ⟨b, off + j * 3, none⟩) hlt).trans c0, (hb.cell (p := ⟨b, off + j * 3 + 1, none⟩) hlt).trans c1, (hb.cell (p := ⟨b, off + j * 3 + 2, none⟩) hlt).trans c2⟩
theorem drop_rev {α : Type} (xs : List α) (j : Nat) (h : j < xs.length) : (xs.drop j).reverse = (xs.drop (j + 1)).reverse ++ [xs[j]] := by
  rw [List.drop_eq_getElem_cons h, List.reverse_cons]

end Go.Proofs.Ytgejkhokijjemaa
/- The contract of diff.Turn. -/
namespace Go.Proofs.Ytgejkhokijjemaa
open Go.RowKit Go.Shelf
attribute [local go_sem] Oper.semAt_some

/-- a change as it comes out of a slice that diff.Diff gave: its place, how it lies, what it is -/
structure Tc where
  ix : Nat
  el : El
  ch : Chg
def Tc.Good (w : World) (x : Tc) : Prop := x.el.at_ = x.ch.at_ ∧ ∃ go gn, x.el.ao = some ⟨go, 0, none⟩ ∧ x.el.an = some ⟨gn, 0, none⟩ ∧ x.el.no = x.ch.old.length ∧ x.el.nn = x.ch.new.length ∧ x.ch.old.length ≤ 6400 ∧ x.ch.new.length ≤ 6400 ∧
  Row w 5 go x.el.co x.ch.old ∧ Row w 5 gn x.el.cn x.ch.new
theorem turn_els {w : World} {A : Option Addr} : ∀ {L : List Chg}, (∀ c ∈ L, c.old.length ≤ 6400 ∧ c.new.length ≤ 6400) → RdC w A L →
    ∃ xs : List { x : Tc // x.Good w }, xs.map (fun x => x.1.ch) = L ∧ ElsAt (fun x => x.1.el) (fun x => x.1.ix) w.heap.size w A xs := by
  intro L hlen hrd
  have hx : ∀ k, k ≤ L.length → ∃ xs : List { x : Tc // x.Good w }, xs.map (fun x => x.1.ch) = L.take k ∧ ElsAt (fun x => x.1.el) (fun x => x.1.ix) w.heap.size w A xs := by
    intro k
    induction k with
    | zero => exact fun _ => ⟨[], by simp, fun j hj => by simp at hj⟩
    | succ k ih =>
      intro hk
      obtain ⟨xs, hm, he⟩ := ih (by omega)
      obtain ⟨g, off, go, co, gn, cn, hA, hc⟩ := hrd k (by omega)
      have hlk := hlen L[k] (List.getElem_mem _)
      refine ⟨xs ++ [⟨⟨k, ⟨L[k].at_, some ⟨go, 0, none⟩, L[k].old.length, co, some ⟨gn, 0, none⟩, L[k].new.length, cn⟩, L[k]⟩, rfl, go, gn, rfl, rfl, rfl, rfl, hlk.1, hlk.2, hc.rowO, hc.rowN⟩], ?_, ?_⟩
      · rw [List.map_append, hm, List.take_succ_eq_append_getElem (by omega)]
        rfl
      · have hl : xs.length = k := by
          have := congrArg List.length hm
          simp at this
          omega
        intro j hj
        rw [List.length_append, List.length_singleton] at hj
        by_cases hjk : j < xs.length
        · rw [List.getElem_append_left hjk]; exact he j hjk
        · obtain rfl : j = k := by omega
          rw [List.getElem_append_right (by omega)]
          simp only [hl, Nat.sub_self, List.getElem_cons_zero]
          exact ⟨trivial, g, off, hA, block_lt_of_cell hc.at_, hc.at_, hc.old, hc.new⟩
  have := hx L.length (Nat.le_refl _)
  rwa [List.take_length] at this

theorem ChAt.kept {X Y : World} {row : Option Nat} {base i : Nat} {xs : List Value} {c : Chg} (h : ChAt X base xs i c) (hg : X.grownBy Y row) (hr : ∀ r, row = some r → ∃ o : Obj, X.heap[r]? = some o ∧ o.isCells = false) : ChAt Y base xs i c := by
  obtain ⟨go, co, gn, cn, h1, h2, e0, e1, e2, r1, r2⟩ := h
  have hne : ∀ {g cap : Nat} {l : Bytes}, Row X 5 g cap l → row ≠ some g := fun h e => by
    obtain ⟨o, ho, hc⟩ := hr _ e
    obtain ⟨cur, h0, _⟩ := h
    rw [h0] at ho
    cases ho
    cases hc
  exact ⟨go, co, gn, cn, h1, h2, e0, e1, e2, r1.grown hg (hne r1), r2.grown hg (hne r2)⟩
theorem ownC_own {β : Type} (n₀ B : Nat) (t : TypeId) (f : β → List Chg) : Go.Own (fun s W => ∃ v, Boxed W B t v ∧ OwnC W n₀ v (f s)) := by
  rintro s X Y row ⟨v, hv, xs, hr, hat⟩ hg hrow
  refine ⟨v, hv.kept hg (fun e' => ?_), xs, hr.kept hg ?_, fun i hi => (hat i hi).kept hg hrow⟩
  · obtain ⟨o, ho, hc⟩ := hrow B e'.symm
    rw [show X.heap[B]? = _ from hv] at ho; cases ho; cases hc
  · rcases hr.2 with ⟨rfl, _⟩ | ⟨g, cap, cur, rfl, _, hgb, _⟩
    · exact .inl rfl
    · refine .inr fun e' => ?_
      obtain ⟨o, ho, hc⟩ := hrow g (by simpa [Value.ownBlock] using e'.symm)
      rw [hgb] at ho; cases ho; cases hc

end Go.Proofs.Ytgejkhokijjemaa
/- DiffBack: the walk. -/
namespace Go.Proofs.Ytgejkhokijjemaa
open Go.RowKit

theorem apply_none0 (n c : Nat) (LA : Option Addr) (d : Nat) (w : World) :
    Calls Try.prog 6 #[.slice none n c, .slice LA 0 d] w fun e w' => e = .returned (.tuple #[.slice none 0 0, .nilIface]) ∧ w = w' := by
  go_enter Try.func6, Try.ntmps6
  go_wp2_with fail
  refine (clone_nil n c _).mono ?_
  rintro e w1 ⟨rfl, rfl⟩
  go_wp2_with fail
  go_loopw [17] (fun kv wr => kv = .int .i64 0 ∧ wr = w) (fun _ _ => 0)
  case atStart => exact ⟨rfl, rfl⟩
  case round =>
    obtain ⟨rfl, rfl⟩ := hrel
    go_wp2_with fail
    go_ret2
    exact ⟨rfl, rfl⟩
theorem Rd.none_nil {w : World} {l : Bytes} (h : Rd w none l) : l = [] := by
  cases l with
  | nil => rfl
  | cons x r => obtain ⟨b, off, h, _⟩ := h 0 (by simp); cases h
theorem apply_fit (A : Option Addr) (n c : Nat) (b : Bytes) (LA : Option Addr) (m d : Nat) (L : List Chg) (w : World) (b' : Bytes) (hn : b.length = n) (hnl : n ≤ 140737488351232) (hb : Rd w A b) (hm : L.length = m) (hm2 : m ≤ 200) (hmd : m ≤ d) (hL : RdG w LA L) (hA : b = [] → L = []) (hok : applyL b L = .ok b') :
    Calls Try.prog 6 #[.slice A n c, .slice LA m d] w fun e w' => ∃ A' cap, e = .returned (.tuple #[.slice A' n cap, .nilIface]) ∧ b'.length = n ∧ Rd w' A' b' ∧ Below w.heap.size w w' := by
  rcases A with _ | ad
  · have hbn := hb.none_nil
    subst hbn
    have hl0 := hA rfl
    subst hl0
    simp at hn hm
    subst hn hm
    refine (apply_none0 0 c LA d w).mono ?_
    rintro e w' ⟨rfl, rfl⟩
    have : b' = [] := by simpa [applyL] using hok.symm
    subst this
    exact ⟨none, 0, rfl, rfl, Rd.nil_, Below.refl _ _⟩
  · refine (apply_some ad n c b LA m d L w hn hnl hb hm hm2 hmd hL).mono ?_
    rintro e w' ⟨hbel, ⟨x, h, _⟩ | ⟨b2, g, cap, h, rfl, hg, hl, hrow⟩⟩
    · rw [hok] at h; cases h
    · rw [hok] at h
      obtain rfl := Except.ok.inj h
      exact ⟨_, cap, rfl, hl, hrow.rd, hbel⟩

/-- what each round of the law finds -/
theorem diffL_round (a b : Bytes) (hl : a.length = b.length) (c : Chg) (h : c ∈ diffL a b) : ∃ j r : Nat, c.at_ = j ∧ c.old.length = r ∧ c.new.length = r ∧ 0 < r ∧ j + r ≤ a.length ∧ ∀ k x y, k < r → c.old[k]? = some x → c.new[k]? = some y → x ≠ y := by
  obtain ⟨j, r, hc⟩ := diffL_mem a b hl c h
  refine ⟨j, r, hc.at_, hc.old_len, hc.new_len hl, hc.pos, hc.hi, fun k x y hk hx hy e => hc.ne (j + k) (by omega) (by omega) ?_⟩
  rw [hc.old, List.getElem?_take, if_pos hk, List.getElem?_drop] at hx
  rw [hc.new, List.getElem?_take, if_pos hk, List.getElem?_drop] at hy
  rw [hx, hy, e]

end Go.Proofs.Ytgejkhokijjemaa
